/-
  'florilegium/florilegiumlaw11.FactsErrors' returns true for every argument, and the arguments read behind the call as they read before. No condition but the given card's own (the listed package-level variables hold what the program's text lays; they are not read on this road).
  The way: the program's code is compiled into an abstract machine of one course (Am.. texts; proved sound over the model, whatever order is drawn, whatever room a slice gets); the machine runs the law in the kernel, once for each of the few values that the arguments are brought to.
-/
import Derived.Test.YtehgboiiphlfeaaGreatDoorRows
import Derived.WalkKit
import Derived.ProofKit
import Derived.OpenShut
import Derived.Test.YtehgboiiphlfeaaGreatDoorFE
import Derived.Test.YtehgboiiphlfeaaGreatDoorAmPost
import Derived.Test.YtehgboiiphlfeaaGreatDoorCards
import Derived.Test.YtehgboiiphlfeaaGreatDoorTie
import Derived.Lay
import Derived.LaidOnce
import Derived.SevenTiedAt
namespace Go.Proofs.YtehgboiiphlfeaaGreatDoor.factsErrors
open Go.ChangeShapes Go.WideShapes Go.ChangeAt Go.RowKit
set_option linter.unusedVariables false

theorem own : ownKnob Tryz.prog.godebug = none := by kernel_rfl

set_option maxRecDepth 100000 in
set_option maxHeartbeats 8000000 in
theorem lifted (os : Os) (started : os.Started) (H : Type) (enc : TypeId × Value → H) :
    ReturnsInHanded {} Tryz.checked os 6 .any (fun w args => (Rows.factsErrorsSpec.pre enc Tryz.prog Tryz.f6 [] false w args ∧ laidMetH Tryz.prog Rows.factsErrorsRow.laid w) ∧ sizedMet enc Tryz.prog Tryz.f6 (OpenSpec.ofChange Rows.factsErrorsSpec) false w args)
      (Rows.factsErrorsSpec.post enc Tryz.prog Tryz.f6 false true false false) := by
  refine returnsInHanded_of_change_and (C := Tryz.checked) (X := fun w _ => laidMetH Tryz.prog Rows.factsErrorsRow.laid w) (fun _ _ _ hh h => h.of_heap hh) own started (by kernel_rfl) Tryz.func6
    (ChangeSpec.witness_shaped (enc := enc) (C := Tryz.checked) (os := os) (X := fun w _ => laidMetH Tryz.prog Rows.factsErrorsRow.laid w) false (World.laidAll Tryz.prog os Rows.factsErrorsRow.laid) #[.int .i64 0] 8 (World.laidAll_os _ _ _)
      (World.shaped_of_ZipB (by as_aux_lemma => kernel_rfl) (by as_aux_lemma => kernel_rfl)) (by as_aux_lemma => kernel_rfl) (by as_aux_lemma => kernel_rfl) (by as_aux_lemma => kernel_rfl)
      (by rw [MakeChecks.laidMetH_plain _ _ _ (by as_aux_lemma => kernel_rfl)]; exact laidMet_laidAll _ (by as_aux_lemma => kernel_rfl) (by as_aux_lemma => kernel_rfl))) ?_
  intro W base args ds gs before hval0 hW _ _ _ _
  have hval : ∀ (j : Nat) t v, Tryz.f6.params[j]? = some t → args[j]? = some v → Value.okWide Tryz.prog W .any base t v := hval0
  have hW' := hW
  obtain ⟨p, q, hA0, hV, rfl, hfz, hnd⟩ := hW
  have hA : DataW.TrodAll enc Tryz.prog W 0 (fun _ => true) true Tryz.f6.params.toList args.toList ds p := hA0
  rw [Tryz.params6] at hA hval
  obtain ⟨v0, vs0, d0, ds0, p0, q0, hargs0, rfl, rfl, h0, r0⟩ := trodAll_cons hA
  obtain ⟨rfl, rfl, rfl⟩ := trodAll_nil r0
  obtain rfl : args = #[v0] := by cases args; simp_all
  obtain ⟨rfl, rfl⟩ := trodVars_none hV
  obtain ⟨a0, rfl, rfl, rfl, w0⟩ := open_int Tryz.underlying3 (hval 0 3 v0 rfl rfl) h0
  clear hA0 hval0
  simp only [List.append_nil] at hW'
  refine (AmTabFE.calls a0 W).mono fun e W' ⟨he, hg⟩ => ?_
  subst he
  exact ⟨_, rfl, AM.post_below (pa := []) (pv := []) hW' (fun _ _ _ => (trodAll_cons_mk (shut_bool Tryz.underlying4 _) trodAll_mk0)) (fun sp _ => (trodAll_cons_mk (shut_int Tryz.underlying3 w0) trodAll_mk0)) (fun _ _ => rfl) rfl
    hg (ok_one (by kernel_rfl) rfl (okWide_bool_mk Tryz.underlying4 _))⟩

theorem and2 {a b : Bool} (h1 : a = true) (h2 : b = true) : (a && b) = true := by rw [h1, h2]; rfl
theorem closed1 : Tryz.pinned.checked.prog.funcNamed Rows.factsErrorsRow.func = some 6 := by kernel_rfl
set_option maxHeartbeats 8000000 in
theorem closed2 : joinedFacts Tryz.pinned.checked.prog 6 Tryz.f6 Rows.factsErrorsSpec Rows.factsErrorsRow = true := by
  unfold joinedFacts
  repeat' with_reducible refine and2 ?_ ?_
  all_goals (as_aux_lemma => kernel_rfl)
theorem closed3 : Tryz.f6.isInstance Tryz.pinned.checked.prog Rows.factsErrorsRow.origin Rows.factsErrorsRow.targs :=
  of_decide_eq_true (by kernel_rfl)
set_option maxHeartbeats 8000000 in
theorem closed4 : Tryz.f6.isWrapper Tryz.pinned.checked.prog Rows.factsErrorsRow.wrapper Rows.factsErrorsRow.mainSum := by
  unfold Func.isWrapper; first | (rw [if_pos (by as_aux_lemma => decide +kernel)]; as_aux_lemma => kernel_rfl) | (rw [if_neg (by as_aux_lemma => decide +kernel)]; exact ⟨rfl, rfl⟩)
set_option maxHeartbeats 8000000 in
theorem over : Rows.FactsErrorsSaid :=
  OpenClaim.holds_of_wide 6 Tryz.f6 rfl rfl rfl rfl rfl rfl rfl ⟨rfl, rfl, rfl, rfl, rfl⟩ rfl rfl rfl rfl rfl closed1 Tryz.func6 closed2 closed3 closed4
    (fun os started H enc _ => lifted os started H enc)

theorem card1 : Rows.factsErrorsRow.wfByText (OpenSpec.ofChange Rows.factsErrorsSpec) = true := by kernel_rfl
theorem card2 : Tryz.pinned.checked.prog.mainIs = some (true, "2959c233b068c235d32f028bd16bd307a1b402c18dcdffcd6390cca5dcd9af1d".toList) := by kernel_rfl
theorem card3 : Tryz.prog.funcNamed "florilegium/florilegiumlaw11.FactsErrors" = some 6 := by kernel_rfl
theorem card4 : false = Tryz.pinned.checked.prog.looks [] := by kernel_rfl
theorem card5 : ([3].all fun u => !Tryz.prog.wantsStandIn u) = true := by kernel_rfl
theorem card6 : false = Rows.factsErrorsRow.goesBy Tryz.pinned.checked.prog := by kernel_rfl
/-- ████ THE STATEMENT ████ -/
theorem proved : Rows.FactsErrorsCardSaid :=
  Claim7.holds_tied_plain_at .later [] [.data, .pinned] true (true, "2959c233b068c235d32f028bd16bd307a1b402c18dcdffcd6390cca5dcd9af1d") false over (fun _ h => by cases h) card1 (fun _ h => by cases h) factsErrors_row_tie rfl ⟨rfl, rfl⟩ card2 rfl
    (fun f fn hf hfn => by
      obtain rfl : f = 6 := Option.some.inj (card3.symm.trans hf) |>.symm
      obtain rfl : fn = Tryz.f6 := (Option.some.inj (Tryz.func6.symm.trans hfn)).symm
      exact ⟨card4, fun j t ht => by
        rw [Tryz.params6] at ht
        have hm : t ∈ [3] := by simpa using Array.mem_of_getElem? ht
        exact (show Tryz.prog.wantsStandIn t = false by simpa using List.all_eq_true.1 card5 t hm)⟩)
    card6
#print axioms proved
end Go.Proofs.YtehgboiiphlfeaaGreatDoor.factsErrors

