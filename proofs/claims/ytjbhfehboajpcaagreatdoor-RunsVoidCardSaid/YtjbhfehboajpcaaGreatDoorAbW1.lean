/-
  The seat of 'nestboxlaw39.RunsVoid': the evaluator's tables.
-/
import Derived.Test.YtjbhfehboajpcaaGreatDoorAbEnv
import Derived.Test.YtjbhfehboajpcaaGreatDoorAbO
import Derived.Test.YtjbhfehboajpcaaGreatDoorProg
import Derived.KernelRfl
namespace Go.Proofs.YtjbhfehboajpcaaGreatDoor
open Go Go.Ab
set_option maxRecDepth 100000

def exts : List (Nat × Extn) := [(77, .noEscape), (119, .makeNoZero 26), (120, .atomicStore), (148, .atomicLoad), (149, .atomicCAS), (253, .atomicAdd), (320, .atomicSwap), (357, .count), (377, .indexByte)]
noncomputable def EE : Env := envOf Tryz.prog exts
def hp0 : Heap := { next := 1000, tr := .nil, base := 8 }

/-- The answer is true. -/
def goodTrue : Ans → Bool
  | some (v, _) => isBool v true
  | none => false
end Go.Proofs.YtjbhfehboajpcaaGreatDoor
