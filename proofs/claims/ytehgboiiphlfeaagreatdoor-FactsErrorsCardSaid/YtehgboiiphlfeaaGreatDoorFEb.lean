/- The law's runs by the abstract machine: what they begin with. -/
import Derived.Test.YtehgboiiphlfeaaGreatDoorAmTabFE
import Derived.Test.YtehgboiiphlfeaaGreatDoorAmLaw3
import Derived.KernelRfl
namespace Go.Proofs.YtehgboiiphlfeaaGreatDoor.AmTabFE
open Go Go.AM Go.RowKit
noncomputable def tabA : FuncId → Option CF := table.find
noncomputable def extA : FuncId → List AV → Option AV := F.cmpF 175
theorem envA : Env Tryz.prog tabA extA :=
  ⟨F.BT.find_good goods, fun g args v _ h σ vs ha w => cmpA_ok Tryz.func175 (by kernel_rfl) (by kernel_rfl) (by kernel_rfl) (by kernel_rfl) g args v ((F.cmpF_eq 175 g args).symm.trans h) σ vs ha w⟩
def L1 : List AI := []
def L2 : List AI := [.bin p37 .add (.c (.int .i64 4)) (.t p36), .mov p1 (.t p37)]
noncomputable def S0 : Option (AT × AH) := lawPre tabA extA 3000 cf6.body 5 L1 .lf
theorem at0 : LawAt cf6.body 5 p1 p35 p36 (.c (.fn 17 [])) (.c (.int .i64 30)) L1 L2 :=
  ⟨by kernel_rfl, by kernel_rfl, by kernel_rfl, by kernel_rfl, by kernel_rfl, by kernel_rfl⟩
theorem pre0 : true = lawPreOk S0 p1 p35 (.c (.fn 17 [])) (.c (.int .i64 30)) 17 30 := by kernel_rfl
theorem within0 (a k : Int) (hk : 1 ≤ k) (hk2 : k < 4611686018427387904) : ∃ r, 0 ≤ r ∧ r < k ∧ ∀ H, callWith (exec tabA extA 3000) tabA extA (.fn 17 []) [.int .i64 a, .int .i64 k] H = some (.int .i64 r, H) := by
  have ht : tabA 17 = some cf17 := by kernel_rfl
  have gen : ∀ n f : Nat, f = n + 12 → ∃ r, 0 ≤ r ∧ r < k ∧ ∀ H, callWith (exec tabA extA f) tabA extA (.fn 17 []) [.int .i64 a, .int .i64 k] H = some (.int .i64 r, H) := by
    intro n f hf
    subst hf
    have h1 : Int.tmod a k < k := Int.tmod_lt_of_pos a (by omega)
    have h2 : -k < Int.tmod a k := Int.lt_tmod_of_pos a (by omega)
    have hw : ∀ m : Int, -k < m → m < k → wrapA .i64 m = m := by
      intro m h1 h2
      simp only [wrapA]
      split <;> omega
    have hk0 : ¬ k = 0 := by omega
    have hk1 : ¬ k < 1 := by omega
    by_cases hm : Int.tmod a k < 0
    · refine ⟨Int.tmod a k + k, by omega, by omega, fun H => ?_⟩
      have e2 := hw (Int.tmod a k + k) (by omega) (by omega)
      simp [callWith, ht, putArgs, cf17, exec, execOps, exec1, AM.val, AX.ev, AT.put, Tr.set, Tr.get, AM.putO, AI.dst, binV, isShift, kEq, ibin, intEq, hk0, hk1, e2, hm, AM.results, resultL, p1, p2, p5, p6, p7, p8, p9, p10, p11, p12, p13, p14, p15, p16, p17]
    · refine ⟨Int.tmod a k, by omega, by omega, fun H => ?_⟩
      simp [callWith, ht, putArgs, cf17, exec, execOps, exec1, AM.val, AX.ev, AT.put, Tr.set, Tr.get, AM.putO, AI.dst, binV, isShift, kEq, ibin, intEq, hk0, hk1, hm, AM.results, resultL, p1, p2, p5, p6, p7, p8, p9, p10, p11, p12, p13, p14, p15, p16, p17]
  exact gen 2988 3000 rfl
end Go.Proofs.YtehgboiiphlfeaaGreatDoor.AmTabFE
