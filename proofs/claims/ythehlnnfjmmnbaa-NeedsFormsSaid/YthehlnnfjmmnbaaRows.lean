/-
  No cell of these rows narrows 'for every input' (looked for: loops, veiled, ifaces, maps, wideKeys, modest, calm, conditions, laid).
  DERIVED. THE GIVEN ROWS OF THIS SEAT. 6 by the template 'for every input the law returns true; each argument reads behind the call as it read before'; 0 by the template 'total and deterministic' (their statements: YthehlnnfjmmnbaaTotals.lean).
  GIVEN WITH THE SEED: the statements are not yours to turn. If you find one false, say at which input.
  Laid BY PROGRAM, IN A SANDBOX (cutbox-rows.mjs): the forced cells as the released guide's own fill.sh prints them over the translation ceecaf53e4f2e018… (all of the seat's roots in one cut). By AI agents, Wed Nov 11 2026. No macro, syntax, notation, axiom, sorry.
-/
import Derived.Test.YthehlnnfjmmnbaaChecked
import GoSem.Claim
import GoSem.ClaimJoined
import GoSem.ClaimMapViews
import Derived.JoinedTies
import Derived.KernelRfl
namespace Go.Proofs.Ythehlnnfjmmnbaa
/- THE CELL 'sum', in the pinned program and in every row, IS THE sha256 OF THE DUMP (.gsa) THAT YthehlnnfjmmnbaaProg.lean LOADS. Nothing in Lean hashes anything: it is a label: what it is worth is what the hold of that sum in a sandbox is worth. -/
noncomputable def Try.pinned : Pinned := { name := "ythehlnnfjmmnbaa", sum := "ceecaf53e4f2e018fb9a4a2c3185f63dd6587613d65424238da084a3376fa25a", checked := Try.checked }
namespace Rows
def none {H : Type} : Left H := { results := [], args := [] }

/-- 'florilegiumlaw09.NeedsRound': WHATEVER THE INPUT: true; the input reads as it did. -/
def needsRoundSpec : ChangeSpec := { name := "needsRound", fn := fun _ => fun
  | [d] => { results := [.lit (.bool true)], args := [d] }
  | _ => none }
def needsRoundRow : OpenClaim := { program := "ythehlnnfjmmnbaa", sum := "ceecaf53e4f2e018fb9a4a2c3185f63dd6587613d65424238da084a3376fa25a", func := "florilegium/florilegiumlaw09.NeedsRound", spec := "needsRound", inPlace := ["internal/bytealg.abigen_runtime_cmpstring"], unfollowed := true, recurses := true, apart := false }
def NeedsRoundSaid : Prop := needsRoundRow.holds Try.pinned (OpenSpec.ofChange needsRoundSpec)

/-- ITS FALSE NEIGHBOUR: 'it returns false'. Refute it at one input. -/
def needsRoundWrong : ChangeSpec := { name := "needsRound", fn := fun _ => fun
  | [d] => { results := [.lit (.bool false)], args := [d] }
  | _ => none }
def NeedsRoundWrongFalsely : Prop := needsRoundRow.holds Try.pinned (OpenSpec.ofChange needsRoundWrong)

/-- 'florilegiumlaw09.NeedsKeep': WHATEVER THE INPUT: true; the input reads as it did. -/
def needsKeepSpec : ChangeSpec := { name := "needsKeep", fn := fun _ => fun
  | [d1, d2] => { results := [.lit (.bool true)], args := [d1, d2] }
  | _ => none }
def needsKeepRow : OpenClaim := { program := "ythehlnnfjmmnbaa", sum := "ceecaf53e4f2e018fb9a4a2c3185f63dd6587613d65424238da084a3376fa25a", func := "florilegium/florilegiumlaw09.NeedsKeep", spec := "needsKeep", inPlace := ["internal/bytealg.abigen_runtime_cmpstring"], unfollowed := true, recurses := true, apart := false }
def NeedsKeepSaid : Prop := needsKeepRow.holds Try.pinned (OpenSpec.ofChange needsKeepSpec)

/-- ITS FALSE NEIGHBOUR: 'it returns false'. Refute it at one input. -/
def needsKeepWrong : ChangeSpec := { name := "needsKeep", fn := fun _ => fun
  | [d1, d2] => { results := [.lit (.bool false)], args := [d1, d2] }
  | _ => none }
def NeedsKeepWrongFalsely : Prop := needsKeepRow.holds Try.pinned (OpenSpec.ofChange needsKeepWrong)

/-- 'florilegiumlaw09.NeedsAll': WHATEVER THE INPUT: true; the input reads as it did. -/
def needsAllSpec : ChangeSpec := { name := "needsAll", fn := fun _ => fun
  | [d1, d2] => { results := [.lit (.bool true)], args := [d1, d2] }
  | _ => none }
def needsAllRow : OpenClaim := { program := "ythehlnnfjmmnbaa", sum := "ceecaf53e4f2e018fb9a4a2c3185f63dd6587613d65424238da084a3376fa25a", func := "florilegium/florilegiumlaw09.NeedsAll", spec := "needsAll", inPlace := ["internal/bytealg.abigen_runtime_cmpstring"], unfollowed := true, recurses := true, apart := false }
def NeedsAllSaid : Prop := needsAllRow.holds Try.pinned (OpenSpec.ofChange needsAllSpec)

/-- ITS FALSE NEIGHBOUR: 'it returns false'. Refute it at one input. -/
def needsAllWrong : ChangeSpec := { name := "needsAll", fn := fun _ => fun
  | [d1, d2] => { results := [.lit (.bool false)], args := [d1, d2] }
  | _ => none }
def NeedsAllWrongFalsely : Prop := needsAllRow.holds Try.pinned (OpenSpec.ofChange needsAllWrong)

/-- 'florilegiumlaw09.NeedsApart': WHATEVER THE INPUT: true; the input reads as it did. -/
def needsApartSpec : ChangeSpec := { name := "needsApart", fn := fun _ => fun
  | [d1, d2, d3] => { results := [.lit (.bool true)], args := [d1, d2, d3] }
  | _ => none }
def needsApartRow : OpenClaim := { program := "ythehlnnfjmmnbaa", sum := "ceecaf53e4f2e018fb9a4a2c3185f63dd6587613d65424238da084a3376fa25a", func := "florilegium/florilegiumlaw09.NeedsApart", spec := "needsApart", inPlace := ["internal/bytealg.abigen_runtime_cmpstring"], unfollowed := true, recurses := true, apart := false }
def NeedsApartSaid : Prop := needsApartRow.holds Try.pinned (OpenSpec.ofChange needsApartSpec)

/-- ITS FALSE NEIGHBOUR: 'it returns false'. Refute it at one input. -/
def needsApartWrong : ChangeSpec := { name := "needsApart", fn := fun _ => fun
  | [d1, d2, d3] => { results := [.lit (.bool false)], args := [d1, d2, d3] }
  | _ => none }
def NeedsApartWrongFalsely : Prop := needsApartRow.holds Try.pinned (OpenSpec.ofChange needsApartWrong)

/-- 'florilegiumlaw09.NeedsForms': WHATEVER THE INPUT: true; the input reads as it did. -/
def needsFormsSpec : ChangeSpec := { name := "needsForms", fn := fun _ => fun
  | [d] => { results := [.lit (.bool true)], args := [d] }
  | _ => none }
def needsFormsRow : OpenClaim := { program := "ythehlnnfjmmnbaa", sum := "ceecaf53e4f2e018fb9a4a2c3185f63dd6587613d65424238da084a3376fa25a", func := "florilegium/florilegiumlaw09.NeedsForms", spec := "needsForms", inPlace := ["internal/bytealg.abigen_runtime_cmpstring"], unfollowed := true, recurses := true, apart := false }
def NeedsFormsSaid : Prop := needsFormsRow.holds Try.pinned (OpenSpec.ofChange needsFormsSpec)

/-- ITS FALSE NEIGHBOUR: 'it returns false'. Refute it at one input. -/
def needsFormsWrong : ChangeSpec := { name := "needsForms", fn := fun _ => fun
  | [d] => { results := [.lit (.bool false)], args := [d] }
  | _ => none }
def NeedsFormsWrongFalsely : Prop := needsFormsRow.holds Try.pinned (OpenSpec.ofChange needsFormsWrong)

/-- 'florilegiumlaw09.NeedsTell': WHATEVER THE INPUT: true; the input reads as it did. -/
def needsTellSpec : ChangeSpec := { name := "needsTell", fn := fun _ => fun
  | [d1, d2, d3, d4, d5] => { results := [.lit (.bool true)], args := [d1, d2, d3, d4, d5] }
  | _ => none }
def needsTellRow : OpenClaim := { program := "ythehlnnfjmmnbaa", sum := "ceecaf53e4f2e018fb9a4a2c3185f63dd6587613d65424238da084a3376fa25a", func := "florilegium/florilegiumlaw09.NeedsTell", spec := "needsTell", inPlace := ["internal/bytealg.abigen_runtime_cmpstring"], unfollowed := true, recurses := true, apart := false }
def NeedsTellSaid : Prop := needsTellRow.holds Try.pinned (OpenSpec.ofChange needsTellSpec)

/-- ITS FALSE NEIGHBOUR: 'it returns false'. Refute it at one input. -/
def needsTellWrong : ChangeSpec := { name := "needsTell", fn := fun _ => fun
  | [d1, d2, d3, d4, d5] => { results := [.lit (.bool false)], args := [d1, d2, d3, d4, d5] }
  | _ => none }
def NeedsTellWrongFalsely : Prop := needsTellRow.holds Try.pinned (OpenSpec.ofChange needsTellWrong)

/- THE SECOND FORM. 'bulk': how many values and letters a reading holds, each counted each time it is reached (what is shared counts as often as it is met; a slice's spare places count too). A statement '..UptoSaid' is the law's where the arguments, and the package variables that the reading takes, are together of bulk at most 1048576: NARROWER than '..Said'. Prove '..Said' where nothing that the law and all that it calls make is longer than what came in: it says more and counts as full. Else prove '..UptoSaid'. A law counts once. -/
mutual
def uptoBulk {H : Type} : DataW H → Nat
  | .lit (.string bytes) => bytes.length + 1
  | .lit _ => 1
  | .nil => 1
  | .ptr d => uptoBulk d + 1
  | .slice elems spare => uptoBulkAll elems + uptoBulkAll spare + 1
  | .agg parts => uptoBulkAll parts + 1
  | .iface _ d => uptoBulk d + 1
  | .map entries => uptoBulkEntries entries + 1
  | .held _ => 1
def uptoBulkAll {H : Type} : List (DataW H) → Nat
  | [] => 0
  | d :: r => uptoBulk d + uptoBulkAll r
def uptoBulkEntries {H : Type} : List (Lit × DataW H) → Nat
  | [] => 0
  | x :: r => uptoBulkEntry x + uptoBulkEntries r
def uptoBulkEntry {H : Type} : Lit × DataW H → Nat
  | (.string bytes, d) => bytes.length + uptoBulk d + 1
  | (_, d) => uptoBulk d + 1
 end
def uptoSmall : (H : Type) → List (DataW H) → Bool := fun _ ds => decide (uptoBulkAll ds ≤ 1048576)
def OpenSpec.upto (s : _root_.Go.ChangeSpec) : _root_.Go.OpenSpec := { _root_.Go.OpenSpec.ofChange s with cond := some uptoSmall }

/-- 'florilegiumlaw09.NeedsRound', WHERE WHAT IT READS IS OF BULK AT MOST 1048576: true; the input reads as it did. -/
def needsRoundUptoRow : OpenClaim := { program := "ythehlnnfjmmnbaa", sum := "ceecaf53e4f2e018fb9a4a2c3185f63dd6587613d65424238da084a3376fa25a", func := "florilegium/florilegiumlaw09.NeedsRound", spec := "needsRound", inPlace := ["internal/bytealg.abigen_runtime_cmpstring"], unfollowed := true, recurses := true, apart := false, narrowed := true }
def NeedsRoundUptoSaid : Prop := needsRoundUptoRow.holds Try.pinned (OpenSpec.upto needsRoundSpec)

/-- 'florilegiumlaw09.NeedsKeep', WHERE WHAT IT READS IS OF BULK AT MOST 1048576: true; the input reads as it did. -/
def needsKeepUptoRow : OpenClaim := { program := "ythehlnnfjmmnbaa", sum := "ceecaf53e4f2e018fb9a4a2c3185f63dd6587613d65424238da084a3376fa25a", func := "florilegium/florilegiumlaw09.NeedsKeep", spec := "needsKeep", inPlace := ["internal/bytealg.abigen_runtime_cmpstring"], unfollowed := true, recurses := true, apart := false, narrowed := true }
def NeedsKeepUptoSaid : Prop := needsKeepUptoRow.holds Try.pinned (OpenSpec.upto needsKeepSpec)

/-- 'florilegiumlaw09.NeedsAll', WHERE WHAT IT READS IS OF BULK AT MOST 1048576: true; the input reads as it did. -/
def needsAllUptoRow : OpenClaim := { program := "ythehlnnfjmmnbaa", sum := "ceecaf53e4f2e018fb9a4a2c3185f63dd6587613d65424238da084a3376fa25a", func := "florilegium/florilegiumlaw09.NeedsAll", spec := "needsAll", inPlace := ["internal/bytealg.abigen_runtime_cmpstring"], unfollowed := true, recurses := true, apart := false, narrowed := true }
def NeedsAllUptoSaid : Prop := needsAllUptoRow.holds Try.pinned (OpenSpec.upto needsAllSpec)

/-- 'florilegiumlaw09.NeedsApart', WHERE WHAT IT READS IS OF BULK AT MOST 1048576: true; the input reads as it did. -/
def needsApartUptoRow : OpenClaim := { program := "ythehlnnfjmmnbaa", sum := "ceecaf53e4f2e018fb9a4a2c3185f63dd6587613d65424238da084a3376fa25a", func := "florilegium/florilegiumlaw09.NeedsApart", spec := "needsApart", inPlace := ["internal/bytealg.abigen_runtime_cmpstring"], unfollowed := true, recurses := true, apart := false, narrowed := true }
def NeedsApartUptoSaid : Prop := needsApartUptoRow.holds Try.pinned (OpenSpec.upto needsApartSpec)

/-- 'florilegiumlaw09.NeedsForms', WHERE WHAT IT READS IS OF BULK AT MOST 1048576: true; the input reads as it did. -/
def needsFormsUptoRow : OpenClaim := { program := "ythehlnnfjmmnbaa", sum := "ceecaf53e4f2e018fb9a4a2c3185f63dd6587613d65424238da084a3376fa25a", func := "florilegium/florilegiumlaw09.NeedsForms", spec := "needsForms", inPlace := ["internal/bytealg.abigen_runtime_cmpstring"], unfollowed := true, recurses := true, apart := false, narrowed := true }
def NeedsFormsUptoSaid : Prop := needsFormsUptoRow.holds Try.pinned (OpenSpec.upto needsFormsSpec)

/-- 'florilegiumlaw09.NeedsTell', WHERE WHAT IT READS IS OF BULK AT MOST 1048576: true; the input reads as it did. -/
def needsTellUptoRow : OpenClaim := { program := "ythehlnnfjmmnbaa", sum := "ceecaf53e4f2e018fb9a4a2c3185f63dd6587613d65424238da084a3376fa25a", func := "florilegium/florilegiumlaw09.NeedsTell", spec := "needsTell", inPlace := ["internal/bytealg.abigen_runtime_cmpstring"], unfollowed := true, recurses := true, apart := false, narrowed := true }
def NeedsTellUptoSaid : Prop := needsTellUptoRow.holds Try.pinned (OpenSpec.upto needsTellSpec)

end Rows
end Go.Proofs.Ythehlnnfjmmnbaa
