/-
  'nestboxlaw39.RunsVoid': what it comes to, whatever the config, the bytes, and the number: law_more.
-/
import Derived.Test.YtjbhfehboajpcaaGreatDoorAbW5
namespace Go.Proofs.YtjbhfehboajpcaaGreatDoor
open Go Go.Ab
set_option maxRecDepth 100000

theorem law_more_n (b u t q y n : Int) (m : Int) : lawO [(0, false), (3, true), (5, false), (7, false), (14, true), (20, true), (25, false), (29, true), (266, true)] b u t q y n (.slice none 0 0) m =
    (bif (veq 30 (.int .i64 n) (.int .i64 n) && true) then (bif goodI b u t q y n then false else (bif !(mayI b u t q y) then false else (bif (veq 30 (.int .u64 (wordI b)) (.int .u64 (wordI b)) && true) then (bif (veq 30 (cfg b u t q y) (cfg b u t q y) && (veq 30 (cfg b u t q y) (cfg b u t q y) && (veq 30 (cfg b u t q y) (cfg b u t q y) && true))) then (bif decide (n < 1) then false else (bif decide (n > 64) then (bif decide ((0 : Int) ≥ (if (0 : Int) < m then 0 else m)) then true else false) else false)) else false) else false))) else false) := by kernel_rfl

theorem law_more_s (b u t q y n : Int) (a : Addr) (len cap : Nat) (m : Int) : lawO [(0, false), (3, true), (5, false), (7, false), (14, true), (20, true), (25, false), (29, true), (266, true)] b u t q y n (.slice (some a) len cap) m =
    (bif decide ((len : Int) > 300) then false else (bif (veq 30 (.int .i64 n) (.int .i64 n) && true) then (bif goodI b u t q y n then false else (bif !(mayI b u t q y) then false else (bif (veq 30 (.int .u64 (wordI b)) (.int .u64 (wordI b)) && true) then (bif (veq 30 (cfg b u t q y) (cfg b u t q y) && (veq 30 (cfg b u t q y) (cfg b u t q y) && (veq 30 (cfg b u t q y) (cfg b u t q y) && true))) then (bif decide (n < 1) then false else (bif decide (n > 64) then (bif decide ((0 : Int) ≥ (if (0 : Int) < m then 0 else m)) then true else false) else false)) else false) else false))) else false)) := by kernel_rfl
end Go.Proofs.YtjbhfehboajpcaaGreatDoor
