/-
  'nestboxref10.May' and 'worlds.May': whether a config may be.
-/
import Derived.Test.YtjbhfehboajpcaaGreatDoorAbW1
import Derived.Test.YtjbhfehboajpcaaGreatDoorAbPrim
namespace Go.Proofs.YtjbhfehboajpcaaGreatDoor
open Go Go.Ab
set_option maxRecDepth 100000

def kOf : Ans → Option Bool
  | some (.bool b, _) => some b
  | _ => none

theorem kOf_some {r : Ans} {b : Bool} (h : kOf r = some b) : ∃ h', r = some (.bool b, h') := by
  unfold kOf at h
  split at h
  · rename_i c h'; cases h; exact ⟨h', rfl⟩
  · cases h

def mayI (b u t q y : Int) : Bool := decide (1 ≤ b ∧ b ≤ 12 ∧ 1 ≤ u ∧ u ≤ 65536 ∧ 0 ≤ t ∧ t ≤ 16 ∧ 1 ≤ q ∧ q ≤ 8 ∧ 2 ≤ y ∧ y ≤ 256)

theorem may43_tree (b u t q y : Int) : evK EE 100 43 [.agg #[.int .i64 b, .int .i64 u, .int .i64 t, .int .i64 q, .int .i64 y]] hp0 kOf =
    (bif decide (b < 1) then some false else bif decide (b > 12) then some false else bif decide (u < 1) then some false else bif decide (u > 65536) then some false else
      bif decide (t ≥ 0) then (bif decide (t ≤ 16) then (bif decide (q ≥ 1) then (bif decide (q ≤ 8) then (bif decide (y ≥ 2) then some (decide (y ≤ 256)) else some false) else some false) else some false) else some false) else some false) := by kernel_rfl

theorem may64_tree (b u t q y : Int) : evK EE 100 64 [.agg #[.int .i64 b, .int .i64 u, .int .i64 t, .int .i64 q, .int .i64 y]] hp0 kOf =
    (bif decide (b < 1) then some false else bif decide (b > 12) then some false else bif decide (u < 1) then some false else bif decide (u > 65536) then some false else
      bif decide (t < 0) then some false else bif decide (t > 16) then some false else bif decide (q < 1) then some false else bif decide (q > 8) then some false else bif decide (y < 2) then some false else bif decide (y > 256) then some false else some true) := by kernel_rfl

theorem may43_ev (b u t q y : Int) : ∃ h', ev EE 100 43 [.agg #[.int .i64 b, .int .i64 u, .int .i64 t, .int .i64 q, .int .i64 y]] hp0 = some (.bool (mayI b u t q y), h') := by
  refine kOf_some ?_
  rw [← evK_eq 100 43 _ hp0 kOf, may43_tree]
  unfold mayI
  simp only [Bool.cond_decide]
  repeat' split
  all_goals first
    | (congr 1; symm; simp only [decide_eq_false_iff_not]; omega)
    | (congr 1; rw [decide_eq_decide]; omega)

theorem may64_ev (b u t q y : Int) : ∃ h', ev EE 100 64 [.agg #[.int .i64 b, .int .i64 u, .int .i64 t, .int .i64 q, .int .i64 y]] hp0 = some (.bool (mayI b u t q y), h') := by
  refine kOf_some ?_
  rw [← evK_eq 100 64 _ hp0 kOf, may64_tree]
  unfold mayI
  simp only [Bool.cond_decide]
  repeat' split
  all_goals first
    | (congr 1; symm; simp only [decide_eq_false_iff_not]; omega)
    | (congr 1; symm; simp only [decide_eq_true_eq]; omega)

/-- The contract: of a config's five numbers. -/
def pMay (args : List Value) (h : Heap) : Pri := match args with
  | [.agg cs] => match cs.toList with
    | [.int .i64 b, .int .i64 u, .int .i64 t, .int .i64 q, .int .i64 y] => .ans (.bool (mayI b u t q y)) h
    | _ => .walk
  | _ => .walk
end Go.Proofs.YtjbhfehboajpcaaGreatDoor
