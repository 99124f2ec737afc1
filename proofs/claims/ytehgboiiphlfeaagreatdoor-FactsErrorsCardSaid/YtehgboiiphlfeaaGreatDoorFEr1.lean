/- The law's runs by the abstract machine, some of them. -/
import Derived.Test.YtehgboiiphlfeaaGreatDoorFEb
namespace Go.Proofs.YtehgboiiphlfeaaGreatDoor.AmTabFE
open Go Go.AM Go.RowKit
theorem run10 : true = lawRun3 tabA extA 3000 3000 (sufL 6 cf6.body) cf6.res L2 S0 p36 (.int .i64 10) := by kernel_rfl
theorem run11 : true = lawRun3 tabA extA 3000 3000 (sufL 6 cf6.body) cf6.res L2 S0 p36 (.int .i64 11) := by kernel_rfl
theorem run12 : true = lawRun3 tabA extA 3000 3000 (sufL 6 cf6.body) cf6.res L2 S0 p36 (.int .i64 12) := by kernel_rfl
theorem run13 : true = lawRun3 tabA extA 3000 3000 (sufL 6 cf6.body) cf6.res L2 S0 p36 (.int .i64 13) := by kernel_rfl
theorem run14 : true = lawRun3 tabA extA 3000 3000 (sufL 6 cf6.body) cf6.res L2 S0 p36 (.int .i64 14) := by kernel_rfl
theorem run15 : true = lawRun3 tabA extA 3000 3000 (sufL 6 cf6.body) cf6.res L2 S0 p36 (.int .i64 15) := by kernel_rfl
theorem run16 : true = lawRun3 tabA extA 3000 3000 (sufL 6 cf6.body) cf6.res L2 S0 p36 (.int .i64 16) := by kernel_rfl
theorem run17 : true = lawRun3 tabA extA 3000 3000 (sufL 6 cf6.body) cf6.res L2 S0 p36 (.int .i64 17) := by kernel_rfl
theorem run18 : true = lawRun3 tabA extA 3000 3000 (sufL 6 cf6.body) cf6.res L2 S0 p36 (.int .i64 18) := by kernel_rfl
theorem run19 : true = lawRun3 tabA extA 3000 3000 (sufL 6 cf6.body) cf6.res L2 S0 p36 (.int .i64 19) := by kernel_rfl
end Go.Proofs.YtehgboiiphlfeaaGreatDoor.AmTabFE
