import Derived.Test.YthehlnnfjmmnbaaAmN1
import Derived.Test.YthehlnnfjmmnbaaAmLaw
namespace Go.Proofs.Ythehlnnfjmmnbaa.AmTab
open Go Go.AM Go.RowKit

theorem within_all {tab ext} (ht : tab 9 = some cf9) (a k : Int) (hk : 1 ≤ k) (hk2 : k < 4611686018427387904) (n : Nat) :
    ∃ r, 0 ≤ r ∧ r < k ∧ ∀ H, callWith (exec tab ext (n + 12)) tab ext (.fn 9 []) [.int .i64 a, .int .i64 k] H = some (.int .i64 r, H) := by
  have h1 : Int.tmod a k < k := Int.tmod_lt_of_pos a (by omega)
  have h2 : -k < Int.tmod a k := Int.lt_tmod_of_pos a (by omega)
  have hw : ∀ m : Int, -k < m → m < k → wrapA .i64 m = m := by
    intro m h1 h2
    simp only [wrapA]
    split <;> omega
  have hk0 : ¬ k = 0 := by omega
  have hk1 : ¬ k < 1 := by omega
  by_cases hm : Int.tmod a k < 0
  · refine ⟨Int.tmod a k + k, by omega, by omega, fun H => ?_⟩
    have e1 := hw _ h2 h1
    have e2 := hw (Int.tmod a k + k) (by omega) (by omega)
    simp [callWith, ht, putArgs, cf9, exec, execOps, AM.val, AX.ev, AT.put, Tr.set, Tr.get, AM.putO, AI.dst, binV, kEq, ibin, intEq, hk0, hk1, e1, e2, hm, AM.results, resultL]
  · refine ⟨Int.tmod a k, by omega, by omega, fun H => ?_⟩
    have e1 := hw _ h2 h1
    simp [callWith, ht, putArgs, cf9, exec, execOps, AM.val, AX.ev, AT.put, Tr.set, Tr.get, AM.putO, AI.dst, binV, kEq, ibin, intEq, hk0, hk1, e1, hm, AM.results, resultL]

def tabA : FuncId → Option CF := AM.look table
def extA : FuncId → List AV → Option AV := cmpA 53
theorem envA : Env Try.prog tabA extA :=
  ⟨look_good goods, fun g args v _ h σ vs ha w => cmpA_ok Try.func53 (by kernel_rfl) (by kernel_rfl) (by kernel_rfl) (by kernel_rfl) g args v h σ vs ha w⟩
def A0 (a : Int) : AT := AT.put .lf .h (.int .i64 a)

theorem forms_args (a : Int) : lawArgs tabA extA cf7 2 1 (A0 a) = some (.fn 9 [], [.int .i64 a, .int .i64 6]) := by kernel_rfl
theorem forms0 (a : Int) : lawRun tabA extA cf7 2 1 (A0 a) 3000 (.int .i64 0) = some (.bool true) := by kernel_rfl
theorem forms1 (a : Int) : lawRun tabA extA cf7 2 1 (A0 a) 3000 (.int .i64 1) = some (.bool true) := by kernel_rfl
theorem forms2 (a : Int) : lawRun tabA extA cf7 2 1 (A0 a) 3000 (.int .i64 2) = some (.bool true) := by kernel_rfl
theorem forms3 (a : Int) : lawRun tabA extA cf7 2 1 (A0 a) 3000 (.int .i64 3) = some (.bool true) := by kernel_rfl
theorem forms4 (a : Int) : lawRun tabA extA cf7 2 1 (A0 a) 3000 (.int .i64 4) = some (.bool true) := by kernel_rfl
theorem forms5 (a : Int) : lawRun tabA extA cf7 2 1 (A0 a) 3000 (.int .i64 5) = some (.bool true) := by kernel_rfl

theorem needsForms_calls (a : Int) (w : World) : Calls Try.prog 7 #[.int .i64 a] w fun e w' => e = .returned (.bool true) ∧ Below w.heap.size w w' := by
  have hcall : ∃ r, 0 ≤ r ∧ r < 6 ∧ ∀ H, callWith (exec tabA extA 99) tabA extA (.fn 9 []) [.int .i64 a, .int .i64 6] H = some (.int .i64 r, H) := within_all rfl a 6 (by omega) (by omega) 87
  obtain ⟨r, h0, h1, hw⟩ := hcall
  have hrest : lawRun tabA extA cf7 2 1 (A0 a) 3000 (.int .i64 r) = some (.bool true) := by
    have : r = 0 ∨ r = 1 ∨ r = 2 ∨ r = 3 ∨ r = 4 ∨ r = 5 := by omega
    rcases this with rfl | rfl | rfl | rfl | rfl | rfl
    · exact forms0 a
    · exact forms1 a
    · exact forms2 a
    · exact forms3 a
    · exact forms4 a
    · exact forms5 a
  refine (law_ok envA Try.func7 (cf := cf7) (by kernel_rfl) (of_decide_eq_true (by kernel_rfl)) (args := [.int .i64 a]) (T0 := A0 a) rfl (j := 2) (i := 1) (by unfold lawShape; kernel_rfl) (forms_args a) hw hrest (by simp [VRelL, VRel]) w).mono ?_
  rintro e w' ⟨σ, u, hu, rfl, hb⟩
  simp only [VRel] at hu
  subst hu
  exact ⟨rfl, hb⟩
end Go.Proofs.Ythehlnnfjmmnbaa.AmTab
