/-
  The abstract evaluator: contracts in the place of functions.
-/
import Derived.Test.YtjbhfehboajpcaaGreatDoorAbTop
import Derived.Test.YtjbhfehboajpcaaGreatDoorAbK
namespace Go.Ab
open Go Go.RowKit

/-- A table of contracts. -/
def tableOf : List (Nat × (List Value → Heap → Pri)) → Nat → Option (List Value → Heap → Pri)
  | [], _ => none
  | x :: r, f => bif Nat.beq x.1 f then some x.2 else tableOf r f

theorem tableOf_mem : ∀ (l : List (Nat × (List Value → Heap → Pri))) (f : Nat) (p : List Value → Heap → Pri), tableOf l f = some p → (f, p) ∈ l := by
  intro l
  induction l with
  | nil => intro f k h; cases h
  | cons x l ih =>
    intro f k h
    simp only [tableOf, nbeq] at h
    by_cases e : x.1 = f
    · simp only [e, decide_true, cond_true] at h
      cases h
      rw [← e]; simp
    · simp only [e, decide_false, cond_false] at h
      exact List.mem_cons_of_mem _ (ih f k h)

def withPrims (E : Env) (l : List (Nat × (List Value → Heap → Pri))) : Env := { E with prim := tableOf l }

variable {P : Program} {exts : List (Nat × Extn)} {G : Nat}

theorem prims_sound (hz : okZero P = true) (hc : okFuncs P G = true) (hx : ∀ x ∈ exts, ExtAt P x) (hm : P.follows .mixedOrders = true) (l : List (Nat × (List Value → Heap → Pri)))
    (hl : l.all (fun x => ((envOf P exts).fn x.1).isSome) = true) (hok : ∀ x ∈ l, CallSound P G (fun g args h => if g = x.1 then (x.2 args h).out.getD none else none)) (n : Nat) : CallSound P G (ev (withPrims (envOf P exts) l) n) := by
  have h0 := envOf_ok hz hc hx
  have hE : EnvOk2 P (withPrims (envOf P exts) l) := {
    info := h0.info, und := h0.und, zero := h0.zero, cmp := h0.cmp, call := h0.call, ext := h0.ext
    primCall := fun f p hp args w => by
      have hm := tableOf_mem l f p hp
      have := List.all_eq_true.1 hl _ hm
      obtain ⟨fn, hfn⟩ := Option.isSome_iff_exists.1 this
      exact h0.call f fn hfn args w }
  have hF : FnsOk P (withPrims (envOf P exts) l) G := ⟨(envOf_fns (exts := exts) hc).fn, (envOf_fns (exts := exts) hc).code⟩
  refine ev_sound hE hm hF (fun f p hp => ?_) n
  exact hok _ (tableOf_mem l f p hp)

/-- Nothing that was there has turned. -/
theorem grow_of_below {ρ : Inj} {h : Heap} {w w' : World} (hr : HRel ρ h w) (hb : Below w.heap.size w w') : Grow ρ h w ρ h w' :=
  grow_keep hr hb.size hb.block ⟨hb.os, hb.tape, hb.output⟩

/-- A value that names no memory is related to itself alone. -/
theorem VRel.plain_any : ∀ (d : Nat) {ρ : Inj} {v v' : Value}, plainD d v = true → VRel ρ v v' → v' = v := by
  intro d
  induction d with
  | zero => intro ρ v v' h; simp [plainD] at h
  | succ d ih =>
    have hl : ∀ {ρ : Inj} {l l' : List Value}, l.all (plainD d) = true → VRels ρ l l' → l' = l := by
      intro ρ l
      induction l with
      | nil => intro l' _ h; exact h.nil_inv
      | cons a l ih2 =>
        intro l' hp h
        obtain ⟨y, r, rfl, hy, hr⟩ := h.cons_inv
        simp only [List.all_cons, Bool.and_eq_true] at hp
        rw [ih hp.1 hy, ih2 hp.2 hr]
    intro ρ v v' h hv
    unfold plainD at h
    split at h
    · cases hv; rfl
    · cases hv; rfl
    · cases hv; rfl
    · cases hv; rfl
    · cases hv; rfl
    · cases hv; rfl
    · cases hv; rfl
    · cases hv; rfl
    · cases hv with | iface hx => rw [ih h hx]
    · obtain ⟨a', rfl, ha⟩ := hv.agg_inv
      rw [Array.toList_inj.1 (hl h ha)]
    · obtain ⟨a', rfl, ha⟩ := hv.tuple_inv
      rw [Array.toList_inj.1 (hl h ha)]
    · rename_i f a b
      simp only [Bool.and_eq_true] at h
      cases hv with
      | func hf ha hb ea eb =>
        rename_i a' b'
        have h1 : VRels ρ a.toList a'.toList := ⟨by simpa using ha, fun i x y hx hy => ea i x y (by simpa using hx) (by simpa using hy)⟩
        have h2 : VRels ρ b.toList b'.toList := ⟨by simpa using hb, fun i x y hx hy => eb i x y (by simpa using hx) (by simpa using hy)⟩
        rw [Array.toList_inj.1 (hl h.1.2 h1), Array.toList_inj.1 (hl h.2 h2)]
      | yield => simp at h
    · cases h

theorem VRels.plain_any {d : Nat} : ∀ {ρ : Inj} {l l' : List Value}, l.all (plainD d) = true → VRels ρ l l' → l' = l := by
  intro ρ l
  induction l with
  | nil => intro l' _ h; exact h.nil_inv
  | cons a l ih2 =>
    intro l' hp h
    obtain ⟨y, r, rfl, hy, hr⟩ := h.cons_inv
    simp only [List.all_cons, Bool.and_eq_true] at hp
    rw [VRel.plain_any d hp.1 hy, ih2 hp.2 hr]

/-- What is less told: the second value tells of memory nothing that the first one does not. -/
def Blurs (u v : Value) : Prop := ∀ (ρ : Inj) (u' : Value), VRel ρ u u' → ∀ ρ2 : Inj, VRel ρ2 v u'

theorem Blurs.plain {v : Value} (h : plainD 50 v = true) : Blurs v v := fun _ u' hu _ => by
  rw [VRel.plain_any 50 h hu]; exact plain_rel 50 v h

/-- A function of values alone, that leaves what there is as it is. -/
theorem prim_pure {E : Env} (hS : ∀ n, CallSound P G (ev E n)) {f : FuncId} {p : List Value → Heap → Pri}
    (hp : ∀ a h v h1, (p a h).out = some (some (v, h1)) → h1 = h ∧ a.all (plainD 50) = true ∧ ∃ n N u h', G ≤ N ∧ ev E n f a { next := N, tr := .nil, base := G } = some (u, h') ∧ Blurs u v) :
    CallSound P G (fun g args h => if g = f then (p args h).out.getD none else none) := by
  intro g args h v h1 hev ρ w args' hr hb ha r k
  simp only at hev
  split at hev
  · rename_i hg
    subst hg
    have hev : (p args h).out = some (some (v, h1)) := by
      cases ho : (p args h).out with
      | none => rw [ho] at hev; cases hev
      | some x => rw [ho] at hev; simp only [Option.getD_some] at hev; rw [hev]
    obtain ⟨rfl, hpl, n, N, u, h', hN, he, hbl⟩ := hp args h v h1 hev
    have hargs : args' = args := ha.plain_any hpl
    subst hargs
    have := hS n g args' _ u h' he (injOf G []) w args' (hrel_empty w (by simpa using hN)) rfl (VRels.of_all fun x hx => plain_rel 50 x (List.all_eq_true.1 hpl x hx)) r k
    exact this.mono fun e w' ⟨v', ρ', e1, e2, e3⟩ => ⟨v', ρ, e1, hbl _ _ e2 ρ, grow_of_below hr (e3.below fun b x hb => by cases hb)⟩
  · cases hev
end Go.Ab
