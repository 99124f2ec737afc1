/- The law, by the abstract machine. -/
import Derived.Test.YtehgboiiphlfeaaGreatDoorFEr0
import Derived.Test.YtehgboiiphlfeaaGreatDoorFEr1
import Derived.Test.YtehgboiiphlfeaaGreatDoorFEr2
namespace Go.Proofs.YtehgboiiphlfeaaGreatDoor.AmTabFE
open Go Go.AM Go.RowKit
theorem calls (a : Int) (w : World) : Calls Tryz.prog 6 #[.int .i64 a] w fun e w' => e = .returned (.bool true) ∧ Below w.heap.size w w' := by
  obtain ⟨r, h0, h1, hw⟩ := within0 a 30 (by omega) (by omega)
  have hrun : true = lawRun3 tabA extA 3000 3000 (sufL 6 cf6.body) cf6.res L2 S0 p36 (.int .i64 r) := by
    have : r = 0 ∨ r = 1 ∨ r = 2 ∨ r = 3 ∨ r = 4 ∨ r = 5 ∨ r = 6 ∨ r = 7 ∨ r = 8 ∨ r = 9 ∨ r = 10 ∨ r = 11 ∨ r = 12 ∨ r = 13 ∨ r = 14 ∨ r = 15 ∨ r = 16 ∨ r = 17 ∨ r = 18 ∨ r = 19 ∨ r = 20 ∨ r = 21 ∨ r = 22 ∨ r = 23 ∨ r = 24 ∨ r = 25 ∨ r = 26 ∨ r = 27 ∨ r = 28 ∨ r = 29 := by omega
    rcases this with rfl | rfl | rfl | rfl | rfl | rfl | rfl | rfl | rfl | rfl | rfl | rfl | rfl | rfl | rfl | rfl | rfl | rfl | rfl | rfl | rfl | rfl | rfl | rfl | rfl | rfl | rfl | rfl | rfl | rfl
    · exact run0
    · exact run1
    · exact run2
    · exact run3
    · exact run4
    · exact run5
    · exact run6
    · exact run7
    · exact run8
    · exact run9
    · exact run10
    · exact run11
    · exact run12
    · exact run13
    · exact run14
    · exact run15
    · exact run16
    · exact run17
    · exact run18
    · exact run19
    · exact run20
    · exact run21
    · exact run22
    · exact run23
    · exact run24
    · exact run25
    · exact run26
    · exact run27
    · exact run28
    · exact run29
  exact law3_ok envA Tryz.func6 (cf := cf6) (by kernel_rfl) (of_decide_eq_true (by kernel_rfl)) (args := [.int .i64 a]) (T00 := .lf) (p := p1) (a := .int .i64 a) rfl at0 pre0 hw hrun (by simp [VRelL, VRel]) w
end Go.Proofs.YtehgboiiphlfeaaGreatDoor.AmTabFE
