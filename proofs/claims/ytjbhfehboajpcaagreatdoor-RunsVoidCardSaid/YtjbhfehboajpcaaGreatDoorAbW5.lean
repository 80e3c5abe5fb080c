/-
  'nestboxlaw39.RunsVoid': what it comes to, whatever the config, the bytes, and the number.
-/
import Derived.Test.YtjbhfehboajpcaaGreatDoorAbW4
namespace Go.Proofs.YtjbhfehboajpcaaGreatDoor
open Go Go.Ab
set_option maxRecDepth 100000

def goodI (b u t q y n : Int) : Bool := mayI b u t q y && decide (1 ≤ n ∧ n ≤ 64)

/-- The contract of 'lives'. -/
def pLives (args : List Value) (h : Heap) : Pri := match args with
  | [] => .ans (.bool true) h
  | _ => .walk
/-- The contract of 'nestboxref35.New': which machine there is is not told. -/
def pNew (args : List Value) (h : Heap) : Pri := match args with
  | [.agg cs] => match cs.toList with
    | [.int .i64 b, .int .i64 u, .int .i64 t, .int .i64 q, .int .i64 y, .int .i64 n] => .test (goodI b u t q y n) (.ans (.tuple #[.chan none, .int .i64 0]) h) (.ans (.tuple #[.pointer none, .int .i64 1]) h)
    | _ => .walk
  | _ => .walk

noncomputable def E1 : Env := withPrims EE [(4, pLives), (64, pMay), (5, pNew)]

/-- The first word of a world. -/
def wordI (b : Int) : Int := IntKind.u64.wrap (IntKind.u64.wrap (IntKind.u8.wrap b) + IntKind.u64.wrap (256 * IntKind.u64.wrap (IntKind.u8.wrap 0)))
def minI (m : Int) : Int := if (0 : Int) < m then 0 else m
noncomputable def lawO (D : List (Nat × Bool)) (b u t q y n : Int) (s : Value) (m : Int) : Bool := evO E1 (at_ D) false 100 3 [cfgM b u t q y n, s, .int .i64 m] hp0 0 (fun _ => goodTrue)

theorem law_many (b u t q y n : Int) (a : Addr) (len cap : Nat) (m : Int) : lawO [(0, true)] b u t q y n (.slice (some a) len cap) m = (bif decide ((len : Int) > 300) then true else false) := by kernel_rfl
end Go.Proofs.YtjbhfehboajpcaaGreatDoor
