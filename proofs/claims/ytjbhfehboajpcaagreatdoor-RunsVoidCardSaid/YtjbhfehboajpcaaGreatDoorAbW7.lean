/-
  'nestboxref35.New' at a config that may be, and each number of connections: there is one.
-/
import Derived.Test.YtjbhfehboajpcaaGreatDoorAbW4
namespace Go.Proofs.YtjbhfehboajpcaaGreatDoor
open Go Go.Ab
set_option maxRecDepth 100000
theorem new5_k1 (b u t q y : Int) : evO E43 (at_ [(0, false), (6, true), (10, true)]) false 100 5 [cfgM b u t q y 1] hp0 0 (fun _ => isOne) =
    (bif !(mayI b u t q y) then false else bif !(IntKind.u64.wrap b == 0) then (bif (veq 30 (cfg b u t q y) (cfg b u t q y) && true) then true else false) else false) := by kernel_rfl
theorem new5_k2 (b u t q y : Int) : evO E43 (at_ [(0, false), (6, true), (10, true)]) false 100 5 [cfgM b u t q y 2] hp0 0 (fun _ => isOne) =
    (bif !(mayI b u t q y) then false else bif !(IntKind.u64.wrap b == 0) then (bif (veq 30 (cfg b u t q y) (cfg b u t q y) && true) then true else false) else false) := by kernel_rfl
theorem new5_k3 (b u t q y : Int) : evO E43 (at_ [(0, false), (6, true), (10, true)]) false 100 5 [cfgM b u t q y 3] hp0 0 (fun _ => isOne) =
    (bif !(mayI b u t q y) then false else bif !(IntKind.u64.wrap b == 0) then (bif (veq 30 (cfg b u t q y) (cfg b u t q y) && true) then true else false) else false) := by kernel_rfl
theorem new5_k4 (b u t q y : Int) : evO E43 (at_ [(0, false), (6, true), (10, true)]) false 100 5 [cfgM b u t q y 4] hp0 0 (fun _ => isOne) =
    (bif !(mayI b u t q y) then false else bif !(IntKind.u64.wrap b == 0) then (bif (veq 30 (cfg b u t q y) (cfg b u t q y) && true) then true else false) else false) := by kernel_rfl
theorem new5_k5 (b u t q y : Int) : evO E43 (at_ [(0, false), (6, true), (10, true)]) false 100 5 [cfgM b u t q y 5] hp0 0 (fun _ => isOne) =
    (bif !(mayI b u t q y) then false else bif !(IntKind.u64.wrap b == 0) then (bif (veq 30 (cfg b u t q y) (cfg b u t q y) && true) then true else false) else false) := by kernel_rfl
theorem new5_k6 (b u t q y : Int) : evO E43 (at_ [(0, false), (6, true), (10, true)]) false 100 5 [cfgM b u t q y 6] hp0 0 (fun _ => isOne) =
    (bif !(mayI b u t q y) then false else bif !(IntKind.u64.wrap b == 0) then (bif (veq 30 (cfg b u t q y) (cfg b u t q y) && true) then true else false) else false) := by kernel_rfl
theorem new5_k7 (b u t q y : Int) : evO E43 (at_ [(0, false), (6, true), (10, true)]) false 100 5 [cfgM b u t q y 7] hp0 0 (fun _ => isOne) =
    (bif !(mayI b u t q y) then false else bif !(IntKind.u64.wrap b == 0) then (bif (veq 30 (cfg b u t q y) (cfg b u t q y) && true) then true else false) else false) := by kernel_rfl
theorem new5_k8 (b u t q y : Int) : evO E43 (at_ [(0, false), (6, true), (10, true)]) false 100 5 [cfgM b u t q y 8] hp0 0 (fun _ => isOne) =
    (bif !(mayI b u t q y) then false else bif !(IntKind.u64.wrap b == 0) then (bif (veq 30 (cfg b u t q y) (cfg b u t q y) && true) then true else false) else false) := by kernel_rfl
theorem new5_k9 (b u t q y : Int) : evO E43 (at_ [(0, false), (6, true), (10, true)]) false 100 5 [cfgM b u t q y 9] hp0 0 (fun _ => isOne) =
    (bif !(mayI b u t q y) then false else bif !(IntKind.u64.wrap b == 0) then (bif (veq 30 (cfg b u t q y) (cfg b u t q y) && true) then true else false) else false) := by kernel_rfl
theorem new5_k10 (b u t q y : Int) : evO E43 (at_ [(0, false), (6, true), (10, true)]) false 100 5 [cfgM b u t q y 10] hp0 0 (fun _ => isOne) =
    (bif !(mayI b u t q y) then false else bif !(IntKind.u64.wrap b == 0) then (bif (veq 30 (cfg b u t q y) (cfg b u t q y) && true) then true else false) else false) := by kernel_rfl
theorem new5_k11 (b u t q y : Int) : evO E43 (at_ [(0, false), (6, true), (10, true)]) false 100 5 [cfgM b u t q y 11] hp0 0 (fun _ => isOne) =
    (bif !(mayI b u t q y) then false else bif !(IntKind.u64.wrap b == 0) then (bif (veq 30 (cfg b u t q y) (cfg b u t q y) && true) then true else false) else false) := by kernel_rfl
theorem new5_k12 (b u t q y : Int) : evO E43 (at_ [(0, false), (6, true), (10, true)]) false 100 5 [cfgM b u t q y 12] hp0 0 (fun _ => isOne) =
    (bif !(mayI b u t q y) then false else bif !(IntKind.u64.wrap b == 0) then (bif (veq 30 (cfg b u t q y) (cfg b u t q y) && true) then true else false) else false) := by kernel_rfl
theorem new5_k13 (b u t q y : Int) : evO E43 (at_ [(0, false), (6, true), (10, true)]) false 100 5 [cfgM b u t q y 13] hp0 0 (fun _ => isOne) =
    (bif !(mayI b u t q y) then false else bif !(IntKind.u64.wrap b == 0) then (bif (veq 30 (cfg b u t q y) (cfg b u t q y) && true) then true else false) else false) := by kernel_rfl
theorem new5_k14 (b u t q y : Int) : evO E43 (at_ [(0, false), (6, true), (10, true)]) false 100 5 [cfgM b u t q y 14] hp0 0 (fun _ => isOne) =
    (bif !(mayI b u t q y) then false else bif !(IntKind.u64.wrap b == 0) then (bif (veq 30 (cfg b u t q y) (cfg b u t q y) && true) then true else false) else false) := by kernel_rfl
theorem new5_k15 (b u t q y : Int) : evO E43 (at_ [(0, false), (6, true), (10, true)]) false 100 5 [cfgM b u t q y 15] hp0 0 (fun _ => isOne) =
    (bif !(mayI b u t q y) then false else bif !(IntKind.u64.wrap b == 0) then (bif (veq 30 (cfg b u t q y) (cfg b u t q y) && true) then true else false) else false) := by kernel_rfl
theorem new5_k16 (b u t q y : Int) : evO E43 (at_ [(0, false), (6, true), (10, true)]) false 100 5 [cfgM b u t q y 16] hp0 0 (fun _ => isOne) =
    (bif !(mayI b u t q y) then false else bif !(IntKind.u64.wrap b == 0) then (bif (veq 30 (cfg b u t q y) (cfg b u t q y) && true) then true else false) else false) := by kernel_rfl
theorem new5_k17 (b u t q y : Int) : evO E43 (at_ [(0, false), (6, true), (10, true)]) false 100 5 [cfgM b u t q y 17] hp0 0 (fun _ => isOne) =
    (bif !(mayI b u t q y) then false else bif !(IntKind.u64.wrap b == 0) then (bif (veq 30 (cfg b u t q y) (cfg b u t q y) && true) then true else false) else false) := by kernel_rfl
theorem new5_k18 (b u t q y : Int) : evO E43 (at_ [(0, false), (6, true), (10, true)]) false 100 5 [cfgM b u t q y 18] hp0 0 (fun _ => isOne) =
    (bif !(mayI b u t q y) then false else bif !(IntKind.u64.wrap b == 0) then (bif (veq 30 (cfg b u t q y) (cfg b u t q y) && true) then true else false) else false) := by kernel_rfl
theorem new5_k19 (b u t q y : Int) : evO E43 (at_ [(0, false), (6, true), (10, true)]) false 100 5 [cfgM b u t q y 19] hp0 0 (fun _ => isOne) =
    (bif !(mayI b u t q y) then false else bif !(IntKind.u64.wrap b == 0) then (bif (veq 30 (cfg b u t q y) (cfg b u t q y) && true) then true else false) else false) := by kernel_rfl
theorem new5_k20 (b u t q y : Int) : evO E43 (at_ [(0, false), (6, true), (10, true)]) false 100 5 [cfgM b u t q y 20] hp0 0 (fun _ => isOne) =
    (bif !(mayI b u t q y) then false else bif !(IntKind.u64.wrap b == 0) then (bif (veq 30 (cfg b u t q y) (cfg b u t q y) && true) then true else false) else false) := by kernel_rfl
theorem new5_k21 (b u t q y : Int) : evO E43 (at_ [(0, false), (6, true), (10, true)]) false 100 5 [cfgM b u t q y 21] hp0 0 (fun _ => isOne) =
    (bif !(mayI b u t q y) then false else bif !(IntKind.u64.wrap b == 0) then (bif (veq 30 (cfg b u t q y) (cfg b u t q y) && true) then true else false) else false) := by kernel_rfl
theorem new5_k22 (b u t q y : Int) : evO E43 (at_ [(0, false), (6, true), (10, true)]) false 100 5 [cfgM b u t q y 22] hp0 0 (fun _ => isOne) =
    (bif !(mayI b u t q y) then false else bif !(IntKind.u64.wrap b == 0) then (bif (veq 30 (cfg b u t q y) (cfg b u t q y) && true) then true else false) else false) := by kernel_rfl
theorem new5_k23 (b u t q y : Int) : evO E43 (at_ [(0, false), (6, true), (10, true)]) false 100 5 [cfgM b u t q y 23] hp0 0 (fun _ => isOne) =
    (bif !(mayI b u t q y) then false else bif !(IntKind.u64.wrap b == 0) then (bif (veq 30 (cfg b u t q y) (cfg b u t q y) && true) then true else false) else false) := by kernel_rfl
theorem new5_k24 (b u t q y : Int) : evO E43 (at_ [(0, false), (6, true), (10, true)]) false 100 5 [cfgM b u t q y 24] hp0 0 (fun _ => isOne) =
    (bif !(mayI b u t q y) then false else bif !(IntKind.u64.wrap b == 0) then (bif (veq 30 (cfg b u t q y) (cfg b u t q y) && true) then true else false) else false) := by kernel_rfl
theorem new5_k25 (b u t q y : Int) : evO E43 (at_ [(0, false), (6, true), (10, true)]) false 100 5 [cfgM b u t q y 25] hp0 0 (fun _ => isOne) =
    (bif !(mayI b u t q y) then false else bif !(IntKind.u64.wrap b == 0) then (bif (veq 30 (cfg b u t q y) (cfg b u t q y) && true) then true else false) else false) := by kernel_rfl
theorem new5_k26 (b u t q y : Int) : evO E43 (at_ [(0, false), (6, true), (10, true)]) false 100 5 [cfgM b u t q y 26] hp0 0 (fun _ => isOne) =
    (bif !(mayI b u t q y) then false else bif !(IntKind.u64.wrap b == 0) then (bif (veq 30 (cfg b u t q y) (cfg b u t q y) && true) then true else false) else false) := by kernel_rfl
theorem new5_k27 (b u t q y : Int) : evO E43 (at_ [(0, false), (6, true), (10, true)]) false 100 5 [cfgM b u t q y 27] hp0 0 (fun _ => isOne) =
    (bif !(mayI b u t q y) then false else bif !(IntKind.u64.wrap b == 0) then (bif (veq 30 (cfg b u t q y) (cfg b u t q y) && true) then true else false) else false) := by kernel_rfl
theorem new5_k28 (b u t q y : Int) : evO E43 (at_ [(0, false), (6, true), (10, true)]) false 100 5 [cfgM b u t q y 28] hp0 0 (fun _ => isOne) =
    (bif !(mayI b u t q y) then false else bif !(IntKind.u64.wrap b == 0) then (bif (veq 30 (cfg b u t q y) (cfg b u t q y) && true) then true else false) else false) := by kernel_rfl
theorem new5_k29 (b u t q y : Int) : evO E43 (at_ [(0, false), (6, true), (10, true)]) false 100 5 [cfgM b u t q y 29] hp0 0 (fun _ => isOne) =
    (bif !(mayI b u t q y) then false else bif !(IntKind.u64.wrap b == 0) then (bif (veq 30 (cfg b u t q y) (cfg b u t q y) && true) then true else false) else false) := by kernel_rfl
theorem new5_k30 (b u t q y : Int) : evO E43 (at_ [(0, false), (6, true), (10, true)]) false 100 5 [cfgM b u t q y 30] hp0 0 (fun _ => isOne) =
    (bif !(mayI b u t q y) then false else bif !(IntKind.u64.wrap b == 0) then (bif (veq 30 (cfg b u t q y) (cfg b u t q y) && true) then true else false) else false) := by kernel_rfl
theorem new5_k31 (b u t q y : Int) : evO E43 (at_ [(0, false), (6, true), (10, true)]) false 100 5 [cfgM b u t q y 31] hp0 0 (fun _ => isOne) =
    (bif !(mayI b u t q y) then false else bif !(IntKind.u64.wrap b == 0) then (bif (veq 30 (cfg b u t q y) (cfg b u t q y) && true) then true else false) else false) := by kernel_rfl
theorem new5_k32 (b u t q y : Int) : evO E43 (at_ [(0, false), (6, true), (10, true)]) false 100 5 [cfgM b u t q y 32] hp0 0 (fun _ => isOne) =
    (bif !(mayI b u t q y) then false else bif !(IntKind.u64.wrap b == 0) then (bif (veq 30 (cfg b u t q y) (cfg b u t q y) && true) then true else false) else false) := by kernel_rfl
theorem new5_k33 (b u t q y : Int) : evO E43 (at_ [(0, false), (6, true), (10, true)]) false 100 5 [cfgM b u t q y 33] hp0 0 (fun _ => isOne) =
    (bif !(mayI b u t q y) then false else bif !(IntKind.u64.wrap b == 0) then (bif (veq 30 (cfg b u t q y) (cfg b u t q y) && true) then true else false) else false) := by kernel_rfl
theorem new5_k34 (b u t q y : Int) : evO E43 (at_ [(0, false), (6, true), (10, true)]) false 100 5 [cfgM b u t q y 34] hp0 0 (fun _ => isOne) =
    (bif !(mayI b u t q y) then false else bif !(IntKind.u64.wrap b == 0) then (bif (veq 30 (cfg b u t q y) (cfg b u t q y) && true) then true else false) else false) := by kernel_rfl
theorem new5_k35 (b u t q y : Int) : evO E43 (at_ [(0, false), (6, true), (10, true)]) false 100 5 [cfgM b u t q y 35] hp0 0 (fun _ => isOne) =
    (bif !(mayI b u t q y) then false else bif !(IntKind.u64.wrap b == 0) then (bif (veq 30 (cfg b u t q y) (cfg b u t q y) && true) then true else false) else false) := by kernel_rfl
theorem new5_k36 (b u t q y : Int) : evO E43 (at_ [(0, false), (6, true), (10, true)]) false 100 5 [cfgM b u t q y 36] hp0 0 (fun _ => isOne) =
    (bif !(mayI b u t q y) then false else bif !(IntKind.u64.wrap b == 0) then (bif (veq 30 (cfg b u t q y) (cfg b u t q y) && true) then true else false) else false) := by kernel_rfl
theorem new5_k37 (b u t q y : Int) : evO E43 (at_ [(0, false), (6, true), (10, true)]) false 100 5 [cfgM b u t q y 37] hp0 0 (fun _ => isOne) =
    (bif !(mayI b u t q y) then false else bif !(IntKind.u64.wrap b == 0) then (bif (veq 30 (cfg b u t q y) (cfg b u t q y) && true) then true else false) else false) := by kernel_rfl
theorem new5_k38 (b u t q y : Int) : evO E43 (at_ [(0, false), (6, true), (10, true)]) false 100 5 [cfgM b u t q y 38] hp0 0 (fun _ => isOne) =
    (bif !(mayI b u t q y) then false else bif !(IntKind.u64.wrap b == 0) then (bif (veq 30 (cfg b u t q y) (cfg b u t q y) && true) then true else false) else false) := by kernel_rfl
theorem new5_k39 (b u t q y : Int) : evO E43 (at_ [(0, false), (6, true), (10, true)]) false 100 5 [cfgM b u t q y 39] hp0 0 (fun _ => isOne) =
    (bif !(mayI b u t q y) then false else bif !(IntKind.u64.wrap b == 0) then (bif (veq 30 (cfg b u t q y) (cfg b u t q y) && true) then true else false) else false) := by kernel_rfl
theorem new5_k40 (b u t q y : Int) : evO E43 (at_ [(0, false), (6, true), (10, true)]) false 100 5 [cfgM b u t q y 40] hp0 0 (fun _ => isOne) =
    (bif !(mayI b u t q y) then false else bif !(IntKind.u64.wrap b == 0) then (bif (veq 30 (cfg b u t q y) (cfg b u t q y) && true) then true else false) else false) := by kernel_rfl
theorem new5_k41 (b u t q y : Int) : evO E43 (at_ [(0, false), (6, true), (10, true)]) false 100 5 [cfgM b u t q y 41] hp0 0 (fun _ => isOne) =
    (bif !(mayI b u t q y) then false else bif !(IntKind.u64.wrap b == 0) then (bif (veq 30 (cfg b u t q y) (cfg b u t q y) && true) then true else false) else false) := by kernel_rfl
theorem new5_k42 (b u t q y : Int) : evO E43 (at_ [(0, false), (6, true), (10, true)]) false 100 5 [cfgM b u t q y 42] hp0 0 (fun _ => isOne) =
    (bif !(mayI b u t q y) then false else bif !(IntKind.u64.wrap b == 0) then (bif (veq 30 (cfg b u t q y) (cfg b u t q y) && true) then true else false) else false) := by kernel_rfl
theorem new5_k43 (b u t q y : Int) : evO E43 (at_ [(0, false), (6, true), (10, true)]) false 100 5 [cfgM b u t q y 43] hp0 0 (fun _ => isOne) =
    (bif !(mayI b u t q y) then false else bif !(IntKind.u64.wrap b == 0) then (bif (veq 30 (cfg b u t q y) (cfg b u t q y) && true) then true else false) else false) := by kernel_rfl
theorem new5_k44 (b u t q y : Int) : evO E43 (at_ [(0, false), (6, true), (10, true)]) false 100 5 [cfgM b u t q y 44] hp0 0 (fun _ => isOne) =
    (bif !(mayI b u t q y) then false else bif !(IntKind.u64.wrap b == 0) then (bif (veq 30 (cfg b u t q y) (cfg b u t q y) && true) then true else false) else false) := by kernel_rfl
theorem new5_k45 (b u t q y : Int) : evO E43 (at_ [(0, false), (6, true), (10, true)]) false 100 5 [cfgM b u t q y 45] hp0 0 (fun _ => isOne) =
    (bif !(mayI b u t q y) then false else bif !(IntKind.u64.wrap b == 0) then (bif (veq 30 (cfg b u t q y) (cfg b u t q y) && true) then true else false) else false) := by kernel_rfl
theorem new5_k46 (b u t q y : Int) : evO E43 (at_ [(0, false), (6, true), (10, true)]) false 100 5 [cfgM b u t q y 46] hp0 0 (fun _ => isOne) =
    (bif !(mayI b u t q y) then false else bif !(IntKind.u64.wrap b == 0) then (bif (veq 30 (cfg b u t q y) (cfg b u t q y) && true) then true else false) else false) := by kernel_rfl
theorem new5_k47 (b u t q y : Int) : evO E43 (at_ [(0, false), (6, true), (10, true)]) false 100 5 [cfgM b u t q y 47] hp0 0 (fun _ => isOne) =
    (bif !(mayI b u t q y) then false else bif !(IntKind.u64.wrap b == 0) then (bif (veq 30 (cfg b u t q y) (cfg b u t q y) && true) then true else false) else false) := by kernel_rfl
theorem new5_k48 (b u t q y : Int) : evO E43 (at_ [(0, false), (6, true), (10, true)]) false 100 5 [cfgM b u t q y 48] hp0 0 (fun _ => isOne) =
    (bif !(mayI b u t q y) then false else bif !(IntKind.u64.wrap b == 0) then (bif (veq 30 (cfg b u t q y) (cfg b u t q y) && true) then true else false) else false) := by kernel_rfl
theorem new5_k49 (b u t q y : Int) : evO E43 (at_ [(0, false), (6, true), (10, true)]) false 100 5 [cfgM b u t q y 49] hp0 0 (fun _ => isOne) =
    (bif !(mayI b u t q y) then false else bif !(IntKind.u64.wrap b == 0) then (bif (veq 30 (cfg b u t q y) (cfg b u t q y) && true) then true else false) else false) := by kernel_rfl
theorem new5_k50 (b u t q y : Int) : evO E43 (at_ [(0, false), (6, true), (10, true)]) false 100 5 [cfgM b u t q y 50] hp0 0 (fun _ => isOne) =
    (bif !(mayI b u t q y) then false else bif !(IntKind.u64.wrap b == 0) then (bif (veq 30 (cfg b u t q y) (cfg b u t q y) && true) then true else false) else false) := by kernel_rfl
theorem new5_k51 (b u t q y : Int) : evO E43 (at_ [(0, false), (6, true), (10, true)]) false 100 5 [cfgM b u t q y 51] hp0 0 (fun _ => isOne) =
    (bif !(mayI b u t q y) then false else bif !(IntKind.u64.wrap b == 0) then (bif (veq 30 (cfg b u t q y) (cfg b u t q y) && true) then true else false) else false) := by kernel_rfl
theorem new5_k52 (b u t q y : Int) : evO E43 (at_ [(0, false), (6, true), (10, true)]) false 100 5 [cfgM b u t q y 52] hp0 0 (fun _ => isOne) =
    (bif !(mayI b u t q y) then false else bif !(IntKind.u64.wrap b == 0) then (bif (veq 30 (cfg b u t q y) (cfg b u t q y) && true) then true else false) else false) := by kernel_rfl
theorem new5_k53 (b u t q y : Int) : evO E43 (at_ [(0, false), (6, true), (10, true)]) false 100 5 [cfgM b u t q y 53] hp0 0 (fun _ => isOne) =
    (bif !(mayI b u t q y) then false else bif !(IntKind.u64.wrap b == 0) then (bif (veq 30 (cfg b u t q y) (cfg b u t q y) && true) then true else false) else false) := by kernel_rfl
theorem new5_k54 (b u t q y : Int) : evO E43 (at_ [(0, false), (6, true), (10, true)]) false 100 5 [cfgM b u t q y 54] hp0 0 (fun _ => isOne) =
    (bif !(mayI b u t q y) then false else bif !(IntKind.u64.wrap b == 0) then (bif (veq 30 (cfg b u t q y) (cfg b u t q y) && true) then true else false) else false) := by kernel_rfl
theorem new5_k55 (b u t q y : Int) : evO E43 (at_ [(0, false), (6, true), (10, true)]) false 100 5 [cfgM b u t q y 55] hp0 0 (fun _ => isOne) =
    (bif !(mayI b u t q y) then false else bif !(IntKind.u64.wrap b == 0) then (bif (veq 30 (cfg b u t q y) (cfg b u t q y) && true) then true else false) else false) := by kernel_rfl
theorem new5_k56 (b u t q y : Int) : evO E43 (at_ [(0, false), (6, true), (10, true)]) false 100 5 [cfgM b u t q y 56] hp0 0 (fun _ => isOne) =
    (bif !(mayI b u t q y) then false else bif !(IntKind.u64.wrap b == 0) then (bif (veq 30 (cfg b u t q y) (cfg b u t q y) && true) then true else false) else false) := by kernel_rfl
theorem new5_k57 (b u t q y : Int) : evO E43 (at_ [(0, false), (6, true), (10, true)]) false 100 5 [cfgM b u t q y 57] hp0 0 (fun _ => isOne) =
    (bif !(mayI b u t q y) then false else bif !(IntKind.u64.wrap b == 0) then (bif (veq 30 (cfg b u t q y) (cfg b u t q y) && true) then true else false) else false) := by kernel_rfl
theorem new5_k58 (b u t q y : Int) : evO E43 (at_ [(0, false), (6, true), (10, true)]) false 100 5 [cfgM b u t q y 58] hp0 0 (fun _ => isOne) =
    (bif !(mayI b u t q y) then false else bif !(IntKind.u64.wrap b == 0) then (bif (veq 30 (cfg b u t q y) (cfg b u t q y) && true) then true else false) else false) := by kernel_rfl
theorem new5_k59 (b u t q y : Int) : evO E43 (at_ [(0, false), (6, true), (10, true)]) false 100 5 [cfgM b u t q y 59] hp0 0 (fun _ => isOne) =
    (bif !(mayI b u t q y) then false else bif !(IntKind.u64.wrap b == 0) then (bif (veq 30 (cfg b u t q y) (cfg b u t q y) && true) then true else false) else false) := by kernel_rfl
theorem new5_k60 (b u t q y : Int) : evO E43 (at_ [(0, false), (6, true), (10, true)]) false 100 5 [cfgM b u t q y 60] hp0 0 (fun _ => isOne) =
    (bif !(mayI b u t q y) then false else bif !(IntKind.u64.wrap b == 0) then (bif (veq 30 (cfg b u t q y) (cfg b u t q y) && true) then true else false) else false) := by kernel_rfl
theorem new5_k61 (b u t q y : Int) : evO E43 (at_ [(0, false), (6, true), (10, true)]) false 100 5 [cfgM b u t q y 61] hp0 0 (fun _ => isOne) =
    (bif !(mayI b u t q y) then false else bif !(IntKind.u64.wrap b == 0) then (bif (veq 30 (cfg b u t q y) (cfg b u t q y) && true) then true else false) else false) := by kernel_rfl
theorem new5_k62 (b u t q y : Int) : evO E43 (at_ [(0, false), (6, true), (10, true)]) false 100 5 [cfgM b u t q y 62] hp0 0 (fun _ => isOne) =
    (bif !(mayI b u t q y) then false else bif !(IntKind.u64.wrap b == 0) then (bif (veq 30 (cfg b u t q y) (cfg b u t q y) && true) then true else false) else false) := by kernel_rfl
theorem new5_k63 (b u t q y : Int) : evO E43 (at_ [(0, false), (6, true), (10, true)]) false 100 5 [cfgM b u t q y 63] hp0 0 (fun _ => isOne) =
    (bif !(mayI b u t q y) then false else bif !(IntKind.u64.wrap b == 0) then (bif (veq 30 (cfg b u t q y) (cfg b u t q y) && true) then true else false) else false) := by kernel_rfl
theorem new5_k64 (b u t q y : Int) : evO E43 (at_ [(0, false), (6, true), (10, true)]) false 100 5 [cfgM b u t q y 64] hp0 0 (fun _ => isOne) =
    (bif !(mayI b u t q y) then false else bif !(IntKind.u64.wrap b == 0) then (bif (veq 30 (cfg b u t q y) (cfg b u t q y) && true) then true else false) else false) := by kernel_rfl
theorem new5_all (b u t q y n : Int) (h1 : 1 ≤ n) (h2 : n ≤ 64) : evO E43 (at_ [(0, false), (6, true), (10, true)]) false 100 5 [cfgM b u t q y n] hp0 0 (fun _ => isOne) =
    (bif !(mayI b u t q y) then false else bif !(IntKind.u64.wrap b == 0) then (bif (veq 30 (cfg b u t q y) (cfg b u t q y) && true) then true else false) else false) := by
  rcases (show n = 1 ∨ n = 2 ∨ n = 3 ∨ n = 4 ∨ n = 5 ∨ n = 6 ∨ n = 7 ∨ n = 8 ∨ n = 9 ∨ n = 10 ∨ n = 11 ∨ n = 12 ∨ n = 13 ∨ n = 14 ∨ n = 15 ∨ n = 16 ∨ n = 17 ∨ n = 18 ∨ n = 19 ∨ n = 20 ∨ n = 21 ∨ n = 22 ∨ n = 23 ∨ n = 24 ∨ n = 25 ∨ n = 26 ∨ n = 27 ∨ n = 28 ∨ n = 29 ∨ n = 30 ∨ n = 31 ∨ n = 32 ∨ n = 33 ∨ n = 34 ∨ n = 35 ∨ n = 36 ∨ n = 37 ∨ n = 38 ∨ n = 39 ∨ n = 40 ∨ n = 41 ∨ n = 42 ∨ n = 43 ∨ n = 44 ∨ n = 45 ∨ n = 46 ∨ n = 47 ∨ n = 48 ∨ n = 49 ∨ n = 50 ∨ n = 51 ∨ n = 52 ∨ n = 53 ∨ n = 54 ∨ n = 55 ∨ n = 56 ∨ n = 57 ∨ n = 58 ∨ n = 59 ∨ n = 60 ∨ n = 61 ∨ n = 62 ∨ n = 63 ∨ n = 64 by omega) with rfl | rfl | rfl | rfl | rfl | rfl | rfl | rfl | rfl | rfl | rfl | rfl | rfl | rfl | rfl | rfl | rfl | rfl | rfl | rfl | rfl | rfl | rfl | rfl | rfl | rfl | rfl | rfl | rfl | rfl | rfl | rfl | rfl | rfl | rfl | rfl | rfl | rfl | rfl | rfl | rfl | rfl | rfl | rfl | rfl | rfl | rfl | rfl | rfl | rfl | rfl | rfl | rfl | rfl | rfl | rfl | rfl | rfl | rfl | rfl | rfl | rfl | rfl | rfl
  · exact new5_k1 b u t q y
  · exact new5_k2 b u t q y
  · exact new5_k3 b u t q y
  · exact new5_k4 b u t q y
  · exact new5_k5 b u t q y
  · exact new5_k6 b u t q y
  · exact new5_k7 b u t q y
  · exact new5_k8 b u t q y
  · exact new5_k9 b u t q y
  · exact new5_k10 b u t q y
  · exact new5_k11 b u t q y
  · exact new5_k12 b u t q y
  · exact new5_k13 b u t q y
  · exact new5_k14 b u t q y
  · exact new5_k15 b u t q y
  · exact new5_k16 b u t q y
  · exact new5_k17 b u t q y
  · exact new5_k18 b u t q y
  · exact new5_k19 b u t q y
  · exact new5_k20 b u t q y
  · exact new5_k21 b u t q y
  · exact new5_k22 b u t q y
  · exact new5_k23 b u t q y
  · exact new5_k24 b u t q y
  · exact new5_k25 b u t q y
  · exact new5_k26 b u t q y
  · exact new5_k27 b u t q y
  · exact new5_k28 b u t q y
  · exact new5_k29 b u t q y
  · exact new5_k30 b u t q y
  · exact new5_k31 b u t q y
  · exact new5_k32 b u t q y
  · exact new5_k33 b u t q y
  · exact new5_k34 b u t q y
  · exact new5_k35 b u t q y
  · exact new5_k36 b u t q y
  · exact new5_k37 b u t q y
  · exact new5_k38 b u t q y
  · exact new5_k39 b u t q y
  · exact new5_k40 b u t q y
  · exact new5_k41 b u t q y
  · exact new5_k42 b u t q y
  · exact new5_k43 b u t q y
  · exact new5_k44 b u t q y
  · exact new5_k45 b u t q y
  · exact new5_k46 b u t q y
  · exact new5_k47 b u t q y
  · exact new5_k48 b u t q y
  · exact new5_k49 b u t q y
  · exact new5_k50 b u t q y
  · exact new5_k51 b u t q y
  · exact new5_k52 b u t q y
  · exact new5_k53 b u t q y
  · exact new5_k54 b u t q y
  · exact new5_k55 b u t q y
  · exact new5_k56 b u t q y
  · exact new5_k57 b u t q y
  · exact new5_k58 b u t q y
  · exact new5_k59 b u t q y
  · exact new5_k60 b u t q y
  · exact new5_k61 b u t q y
  · exact new5_k62 b u t q y
  · exact new5_k63 b u t q y
  · exact new5_k64 b u t q y
end Go.Proofs.YtjbhfehboajpcaaGreatDoor
