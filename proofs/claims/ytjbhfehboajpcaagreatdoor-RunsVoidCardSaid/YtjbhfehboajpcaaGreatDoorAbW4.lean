/-
  'nestboxref35.New': whether there is a machine of a config.
-/
import Derived.Test.YtjbhfehboajpcaaGreatDoorAbW3
namespace Go.Proofs.YtjbhfehboajpcaaGreatDoor
open Go Go.Ab
set_option maxRecDepth 100000

noncomputable def E43 : Env := withPrims EE [(43, pMay)]

/-- There is none: (nil, ErrArg). -/
def isNone : Ans → Bool
  | some (.tuple vs, _) => match vs.toList with
    | [.pointer none, .int .i64 e] => e == 1
    | _ => false
  | _ => false
/-- There is one. -/
def isOne : Ans → Bool
  | some (.tuple vs, _) => match vs.toList with
    | [.pointer (some _), .int .i64 e] => e == 0
    | _ => false
  | _ => false

def at_ (l : List (Nat × Bool)) (i : Nat) : Option Bool := match l with
  | [] => none
  | x :: r => bif Nat.beq x.1 i then some x.2 else at_ r i

def cfg (b u t q y : Int) : Value := .agg #[.int .i64 b, .int .i64 u, .int .i64 t, .int .i64 q, .int .i64 y]
def cfgM (b u t q y n : Int) : Value := .agg #[.int .i64 b, .int .i64 u, .int .i64 t, .int .i64 q, .int .i64 y, .int .i64 n]

theorem new5_may (b u t q y n : Int) : evO E43 (at_ [(0, true)]) false 100 5 [cfgM b u t q y n] hp0 0 (fun _ => isNone) =
    (bif !(mayI b u t q y) then true else false) := by kernel_rfl

theorem new5_few (b u t q y n : Int) : evO E43 (at_ [(0, false), (6, true), (10, true), (15, true)]) false 100 5 [cfgM b u t q y n] hp0 0 (fun _ => isNone) =
    (bif !(mayI b u t q y) then false else bif !(IntKind.u64.wrap b == 0) then (bif (veq 30 (cfg b u t q y) (cfg b u t q y) && true) then (bif decide (n < 1) then true else false) else false) else false) := by kernel_rfl

theorem new5_many (b u t q y n : Int) : evO E43 (at_ [(0, false), (6, true), (10, true), (15, false), (19, true)]) false 100 5 [cfgM b u t q y n] hp0 0 (fun _ => isNone) =
    (bif !(mayI b u t q y) then false else bif !(IntKind.u64.wrap b == 0) then (bif (veq 30 (cfg b u t q y) (cfg b u t q y) && true) then (bif decide (n < 1) then false else bif decide (n > 64) then true else false) else false) else false) := by kernel_rfl

theorem new5_1 (b u t q y : Int) : evO E43 (at_ [(0, false), (6, true), (10, true)]) false 100 5 [cfgM b u t q y 1] hp0 0 (fun _ => isOne) =
    (bif !(mayI b u t q y) then false else bif !(IntKind.u64.wrap b == 0) then (bif (veq 30 (cfg b u t q y) (cfg b u t q y) && true) then true else false) else false) := by kernel_rfl
theorem new5_64 (b u t q y : Int) : evO E43 (at_ [(0, false), (6, true), (10, true)]) false 100 5 [cfgM b u t q y 64] hp0 0 (fun _ => isOne) =
    (bif !(mayI b u t q y) then false else bif !(IntKind.u64.wrap b == 0) then (bif (veq 30 (cfg b u t q y) (cfg b u t q y) && true) then true else false) else false) := by kernel_rfl
end Go.Proofs.YtjbhfehboajpcaaGreatDoor
