/- FactsForms, run by the abstract machine. -/
import Derived.Test.YtehgboiiphlfeaaGreatDoorAmTabFF
import Derived.Test.YtehgboiiphlfeaaGreatDoorAmLaw2
import Derived.KernelRfl
namespace Go.Proofs.YtehgboiiphlfeaaGreatDoor.AmTabFF
open Go Go.AM Go.RowKit
noncomputable def tabA : FuncId → Option CF := table.find
noncomputable def extA : FuncId → List AV → Option AV := F.cmpF 175
theorem envA : Env Tryz.prog tabA extA :=
  ⟨F.BT.find_good goods, fun g args v _ h σ vs ha w => cmpA_ok Tryz.func175 (by kernel_rfl) (by kernel_rfl) (by kernel_rfl) (by kernel_rfl) g args v ((F.cmpF_eq 175 g args).symm.trans h) σ vs ha w⟩
theorem run1 : true = lawOk tabA extA 3000 cf5.body cf5.res (some (AT.put .lf .h (.bool true), H0)) := by kernel_rfl
theorem run0 : true = lawOk tabA extA 3000 cf5.body cf5.res (some (AT.put .lf .h (.bool false), H0)) := by kernel_rfl
theorem calls (b : Bool) (w : World) : Calls Tryz.prog 5 #[.bool b] w fun e w' => e = .returned (.bool true) ∧ Below w.heap.size w w' := by
  have hrun : true = lawOk tabA extA 3000 cf5.body cf5.res (some (AT.put .lf .h (.bool b), H0)) := by
    cases b
    · exact run0
    · exact run1
  exact law0_ok envA Tryz.func5 (cf := cf5) (by kernel_rfl) (of_decide_eq_true (by kernel_rfl)) (args := [.bool b]) (T0 := AT.put .lf .h (.bool b)) rfl hrun (by simp [VRelL, VRel]) w
end Go.Proofs.YtehgboiiphlfeaaGreatDoor.AmTabFF
