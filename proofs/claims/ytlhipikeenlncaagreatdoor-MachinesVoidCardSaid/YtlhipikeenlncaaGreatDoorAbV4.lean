/-
  'nestboxlaw35.MachinesVoid', by the abstract evaluator: where the number is below zero.
-/
import Derived.Test.YtlhipikeenlncaaGreatDoorAbV1
namespace Go.Proofs.YtlhipikeenlncaaGreatDoor
open Go Go.Ab
set_option maxRecDepth 100000

theorem rest_neg (k c s x v15 v16 : Value) (m : Nat) : goodRes (evAt rest (frG x (.int .i64 (.negSucc (m + 1))) s v15 v16) (hp1 k c s)) = true := by kernel_rfl
theorem rest_one (k c s x v15 v16 : Value) : goodRes (evAt rest (frG x (.int .i64 (.negSucc 0)) s v15 v16) (hp1 k c s)) = true := by kernel_rfl

end Go.Proofs.YtlhipikeenlncaaGreatDoor
