/-
  The abstract evaluator: a call's contract out of what the evaluator says of it.
-/
import Derived.Test.YtjbhfehboajpcaaGreatDoorAbEnv
import Derived.Below
namespace Go.Ab
open Go Go.RowKit

/-- What names whatever memory: each package-level variable where it lies; the arguments' memory behind. -/
def injOf (G : Nat) (ls : List Loc) (b : Nat) : Option Loc := if b < G then some ⟨b, 0, 0⟩ else ls[b - G]?

theorem injOf_arg (G : Nat) (ls : List Loc) (i : Nat) : injOf G ls (G + i) = ls[i]? := by
  unfold injOf
  rw [if_neg (by omega), show G + i - G = i by omega]

theorem hrel_empty {G N : Nat} {ls : List Loc} (w : World) (h : G + ls.length ≤ N) : HRel (injOf G ls) { next := N, tr := .nil, base := G } w where
  blk := fun _ _ hb => by cases hb
  apartF := fun _ _ _ _ _ _ _ hb => by cases hb
  fresh := fun b hb => by
    unfold injOf
    rw [if_neg (by simp at hb; omega)]
    exact List.getElem?_eq_none (by simp at hb; omega)
  glob := fun g hg => ⟨0, by unfold injOf; rw [if_pos hg]⟩

theorem Grow.below {ρ ρ' : Inj} {h h' : Heap} {w w' : World} (g : Grow ρ h w ρ' h' w') (hno : ∀ b x, h.get b = some x → ¬ x.rw) : Below w.heap.size w w' :=
  ⟨g.os, g.tape, g.output, g.size, fun k hk => g.frame k hk fun b x _ hb hx _ => absurd hx (hno b x hb)⟩

/-- A call that touches nothing of what was there. -/
theorem calls_of_ev {P : Program} {E : Env} {G N n : Nat} (hS : CallSound P G (ev E n)) {f : FuncId} {args args' : List Value} {v : Value} {h' : Heap} (hev : ev E n f args { next := N, tr := .nil, base := G } = some (v, h')) {ls : List Loc} (hN : G + ls.length ≤ N)
    (w : World) (ha : VRels (injOf G ls) args args') : Calls P f args'.toArray w fun e w' => ∃ v' ρ', e = .returned v' ∧ VRel ρ' v v' ∧ Below w.heap.size w w' := by
  have := hS f args _ v h' hev (injOf G ls) w args' (hrel_empty w hN) rfl ha none 0
  exact (callsIn_wide.1 this).mono fun e w' ⟨v', ρ', h1, h2, h3⟩ => ⟨v', ρ', h1, h2, h3.below fun b x hb => by cases hb⟩
end Go.Ab
