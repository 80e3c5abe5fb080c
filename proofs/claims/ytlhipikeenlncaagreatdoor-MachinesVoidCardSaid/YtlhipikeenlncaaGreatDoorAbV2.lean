/-
  'nestboxlaw35.MachinesVoid', by the abstract evaluator: where the bytes are too many.
-/
import Derived.Test.YtlhipikeenlncaaGreatDoorAbV1
namespace Go.Proofs.YtlhipikeenlncaaGreatDoor
open Go Go.Ab
set_option maxRecDepth 100000

theorem rest_many (k c s x i v15 v16 : Value) : goodRes (evAt (condL (seqR mid)) (frG x i s v15 v16) (hp1 k c s)) = true := by kernel_rfl
end Go.Proofs.YtlhipikeenlncaaGreatDoor
