/-
  'nestboxlaw39.RunsVoid': the tie's closed facts: the variables' names.
-/
import Derived.Test.YtjbhfehboajpcaaGreatDoorAbT1
namespace Go.Proofs.YtjbhfehboajpcaaGreatDoor
open Go
set_option maxRecDepth 100000
theorem t_hn : varsNamedLaterB Tryz.prog (varsId Tryz.prog) tieList = true := by kernel_rfl
end Go.Proofs.YtjbhfehboajpcaaGreatDoor
