/- The law's runs by the abstract machine, some of them. -/
import Derived.Test.YtehgboiiphlfeaaGreatDoorFEb
namespace Go.Proofs.YtehgboiiphlfeaaGreatDoor.AmTabFE
open Go Go.AM Go.RowKit
theorem run20 : true = lawRun3 tabA extA 3000 3000 (sufL 6 cf6.body) cf6.res L2 S0 p36 (.int .i64 20) := by kernel_rfl
theorem run21 : true = lawRun3 tabA extA 3000 3000 (sufL 6 cf6.body) cf6.res L2 S0 p36 (.int .i64 21) := by kernel_rfl
theorem run22 : true = lawRun3 tabA extA 3000 3000 (sufL 6 cf6.body) cf6.res L2 S0 p36 (.int .i64 22) := by kernel_rfl
theorem run23 : true = lawRun3 tabA extA 3000 3000 (sufL 6 cf6.body) cf6.res L2 S0 p36 (.int .i64 23) := by kernel_rfl
theorem run24 : true = lawRun3 tabA extA 3000 3000 (sufL 6 cf6.body) cf6.res L2 S0 p36 (.int .i64 24) := by kernel_rfl
theorem run25 : true = lawRun3 tabA extA 3000 3000 (sufL 6 cf6.body) cf6.res L2 S0 p36 (.int .i64 25) := by kernel_rfl
theorem run26 : true = lawRun3 tabA extA 3000 3000 (sufL 6 cf6.body) cf6.res L2 S0 p36 (.int .i64 26) := by kernel_rfl
theorem run27 : true = lawRun3 tabA extA 3000 3000 (sufL 6 cf6.body) cf6.res L2 S0 p36 (.int .i64 27) := by kernel_rfl
theorem run28 : true = lawRun3 tabA extA 3000 3000 (sufL 6 cf6.body) cf6.res L2 S0 p36 (.int .i64 28) := by kernel_rfl
theorem run29 : true = lawRun3 tabA extA 3000 3000 (sufL 6 cf6.body) cf6.res L2 S0 p36 (.int .i64 29) := by kernel_rfl
end Go.Proofs.YtehgboiiphlfeaaGreatDoor.AmTabFE
