/-
  'nestboxlaw39.RunsVoid': the tie's closed facts: what is laid.
-/
import Derived.Test.YtjbhfehboajpcaaGreatDoorAbT1
namespace Go.Proofs.YtjbhfehboajpcaaGreatDoor
open Go
set_option maxRecDepth 100000
theorem t_h1 (os : Os) (tape : Nat → Question → Nat) : (DataW.laidRun Tryz.prog (varsWorld Tryz.prog 400 (varsId Tryz.prog) os tape).memory 8 (tieList.map (·.1))).map (·.1) = some tieList := by kernel_rfl
end Go.Proofs.YtjbhfehboajpcaaGreatDoor
