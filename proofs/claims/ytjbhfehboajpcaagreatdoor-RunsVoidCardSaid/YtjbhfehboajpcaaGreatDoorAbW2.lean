/-
  The chapter's example, 'nestboxlaw39.lives', answers true.
-/
import Derived.Test.YtjbhfehboajpcaaGreatDoorAbW1
namespace Go.Proofs.YtjbhfehboajpcaaGreatDoor
open Go Go.Ab
set_option maxRecDepth 100000

theorem lives_true : goodTrue (ev EE 1000 4 [] hp0) = true := by kernel_rfl
end Go.Proofs.YtjbhfehboajpcaaGreatDoor
