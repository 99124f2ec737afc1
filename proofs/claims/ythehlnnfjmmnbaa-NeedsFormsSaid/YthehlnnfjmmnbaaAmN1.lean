import Derived.Test.YthehlnnfjmmnbaaAmTab
import Derived.Test.YthehlnnfjmmnbaaAmSound5
import Derived.KernelRfl
namespace Go.Proofs.Ythehlnnfjmmnbaa.AmTab
open Go Go.AM

theorem within_ok {tab ext} (ht : tab 9 = some cf9) (a k : Int) (hk : 1 ≤ k) (hk2 : k < 4611686018427387904) (n : Nat) (H : AH) :
    ∃ r, 0 ≤ r ∧ r < k ∧ callWith (exec tab ext (n + 12)) tab ext (.fn 9 []) [.int .i64 a, .int .i64 k] H = some (.int .i64 r, H) := by
  have h1 : Int.tmod a k < k := Int.tmod_lt_of_pos a (by omega)
  have h2 : -k < Int.tmod a k := Int.lt_tmod_of_pos a (by omega)
  have hw : ∀ m : Int, -k < m → m < k → wrapA .i64 m = m := by
    intro m h1 h2
    simp only [wrapA]
    split <;> omega
  have hk0 : ¬ k = 0 := by omega
  have hk1 : ¬ k < 1 := by omega
  by_cases hm : Int.tmod a k < 0
  · refine ⟨Int.tmod a k + k, by omega, by omega, ?_⟩
    have e1 := hw _ h2 h1
    have e2 := hw (Int.tmod a k + k) (by omega) (by omega)
    simp [callWith, ht, putArgs, cf9, exec, execOps, AM.val, AX.ev, AT.put, Tr.set, Tr.get, AM.putO, AI.dst, binV, kEq, ibin, intEq, hk0, hk1, e1, e2, hm, AM.results, resultL]
  · refine ⟨Int.tmod a k, by omega, by omega, ?_⟩
    have e1 := hw _ h2 h1
    simp [callWith, ht, putArgs, cf9, exec, execOps, AM.val, AX.ev, AT.put, Tr.set, Tr.get, AM.putO, AI.dst, binV, kEq, ibin, intEq, hk0, hk1, e1, hm, AM.results, resultL]
end Go.Proofs.Ythehlnnfjmmnbaa.AmTab
