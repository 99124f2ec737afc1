/- The law's runs by the abstract machine, some of them. -/
import Derived.Test.YtehgboiiphlfeaaGreatDoorFEb
namespace Go.Proofs.YtehgboiiphlfeaaGreatDoor.AmTabFE
open Go Go.AM Go.RowKit
theorem run0 : true = lawRun3 tabA extA 3000 3000 (sufL 6 cf6.body) cf6.res L2 S0 p36 (.int .i64 0) := by kernel_rfl
theorem run1 : true = lawRun3 tabA extA 3000 3000 (sufL 6 cf6.body) cf6.res L2 S0 p36 (.int .i64 1) := by kernel_rfl
theorem run2 : true = lawRun3 tabA extA 3000 3000 (sufL 6 cf6.body) cf6.res L2 S0 p36 (.int .i64 2) := by kernel_rfl
theorem run3 : true = lawRun3 tabA extA 3000 3000 (sufL 6 cf6.body) cf6.res L2 S0 p36 (.int .i64 3) := by kernel_rfl
theorem run4 : true = lawRun3 tabA extA 3000 3000 (sufL 6 cf6.body) cf6.res L2 S0 p36 (.int .i64 4) := by kernel_rfl
theorem run5 : true = lawRun3 tabA extA 3000 3000 (sufL 6 cf6.body) cf6.res L2 S0 p36 (.int .i64 5) := by kernel_rfl
theorem run6 : true = lawRun3 tabA extA 3000 3000 (sufL 6 cf6.body) cf6.res L2 S0 p36 (.int .i64 6) := by kernel_rfl
theorem run7 : true = lawRun3 tabA extA 3000 3000 (sufL 6 cf6.body) cf6.res L2 S0 p36 (.int .i64 7) := by kernel_rfl
theorem run8 : true = lawRun3 tabA extA 3000 3000 (sufL 6 cf6.body) cf6.res L2 S0 p36 (.int .i64 8) := by kernel_rfl
theorem run9 : true = lawRun3 tabA extA 3000 3000 (sufL 6 cf6.body) cf6.res L2 S0 p36 (.int .i64 9) := by kernel_rfl
end Go.Proofs.YtehgboiiphlfeaaGreatDoor.AmTabFE
