/-
  The abstract evaluator: its tables, out of a program.
-/
import Derived.Test.YtjbhfehboajpcaaGreatDoorAbFunc
import Derived.Laws.Externs
import Derived.ClosedOfChecked
namespace Go.Ab
open Go

def extOf : List (Nat × Extn) → Nat → Option Extn
  | [], _ => none
  | x :: r, f => bif Nat.beq x.1 f then some x.2 else extOf r f

theorem extOf_mem : ∀ (l : List (Nat × Extn)) (f : Nat) (k : Extn), extOf l f = some k → (f, k) ∈ l := by
  intro l
  induction l with
  | nil => intro f k h; cases h
  | cons x l ih =>
    intro f k h
    simp only [extOf, nbeq] at h
    by_cases e : x.1 = f
    · simp only [e, decide_true, cond_true] at h
      cases h
      rw [← e]; simp
    · simp only [e, decide_false, cond_false] at h
      exact List.mem_cons_of_mem _ (ih f k h)

def infoOf (P : Program) (t : TypeId) : Option TypeInfo := (trOf P.types.toList).get t
def undOf (P : Program) (t : TypeId) : Option TypeDesc := match infoOf P t with
  | some i => match i.desc with
    | .named _ u => match infoOf P u with | some j => some j.desc | none => none
    | d => some d
  | none => none

def envOf (P : Program) (exts : List (Nat × Extn)) : Env where
  info := infoOf P
  und := undOf P
  fn := fun f => match (trOf P.funcs.toList).get f with
    | some fn => if fn.body.isSome then some fn else none
    | none => none
  ext := extOf exts
  prim := fun _ => none
  cmp := fun t => !P.stoodInHeld t && !P.eqGuardType P.depth t

theorem infoOf_eq {P : Program} {t : TypeId} {i : TypeInfo} (h : infoOf P t = some i) : P.info? t = some i ∧ i ∈ P.types.toList := by
  unfold infoOf at h
  rw [trOf_get] at h
  have hm := List.mem_of_getElem? h
  rw [Array.getElem?_toList] at h
  have hlt := (Array.getElem?_eq_some_iff.1 h).1
  exact ⟨by rw [ClosedOfChecked.info_lt hlt]; exact h, hm⟩

theorem undOf_eq {P : Program} {t : TypeId} {d : TypeDesc} (h : undOf P t = some d) : P.underlying t = some d := by
  unfold undOf at h
  split at h
  · rename_i i hi
    obtain ⟨h1, _⟩ := infoOf_eq hi
    unfold Program.underlying
    rw [h1]
    obtain ⟨desc, _⟩ := i
    dsimp only at h
    cases desc <;> first | exact h | skip
    dsimp only at h
    split at h
    · rename_i j hj
      cases h
      simp [(infoOf_eq hj).1]
    · cases h
  · cases h

def okZero (P : Program) : Bool := P.types.toList.all fun i => match i.zero with
  | some z => plainD 50 z
  | none => true
def okFuncs (P : Program) (G : Nat) : Bool := P.funcs.toList.all fun fn => match fn.body with
  | some c => !(fn.name == "runtime.NumGoroutine") && okCode G false c
  | none => true

def ExtAt (P : Program) (x : Nat × Extn) : Prop :=
  ∃ fn, P.funcs[x.1]? = some fn ∧ (fn.name == "runtime.NumGoroutine") = false ∧ fn.body.isNone = true ∧ Extern.findNext fn = none ∧ Extern.find fn = some (extSem x.2)

variable {P : Program} {exts : List (Nat × Extn)} {G : Nat}

theorem envOf_fn {f : FuncId} {fn : Func} (h : (envOf P exts).fn f = some fn) : P.funcs[f]? = some fn ∧ fn.body.isSome = true := by
  simp only [envOf, trOf_get, Array.getElem?_toList] at h
  split at h
  · rename_i fn' hf
    split at h
    · rename_i hb; cases h; exact ⟨hf, hb⟩
    · cases h
  · cases h

theorem funcs_all (h : okFuncs P G = true) {f : FuncId} {fn : Func} {c : Code} (hf : P.funcs[f]? = some fn) (hb : fn.body = some c) : (fn.name == "runtime.NumGoroutine") = false ∧ okCode G false c = true := by
  have := List.all_eq_true.1 h fn (by simpa using Array.mem_of_getElem? hf)
  rw [hb] at this
  simpa using this

theorem envOf_ok (hz : okZero P = true) (hc : okFuncs P G = true) (hx : ∀ x ∈ exts, ExtAt P x) : EnvOk2 P (envOf P exts) where
  info := fun t i h => (infoOf_eq h).1
  und := fun t d h => undOf_eq h
  zero := fun t i z hi hzz => by
    have := List.all_eq_true.1 hz i (infoOf_eq hi).2
    rw [hzz] at this
    exact this
  cmp := fun t h => by
    have h : (!P.stoodInHeld t && !P.eqGuardType P.depth t) = true := h
    simpa using h
  call := fun f fn hf args w => by
    obtain ⟨h1, h2⟩ := envOf_fn hf
    obtain ⟨c, hc'⟩ := Option.isSome_iff_exists.1 h2
    obtain ⟨h3, _⟩ := funcs_all hc h1 hc'
    have h3 : fn.name ≠ "runtime.NumGoroutine" := by simpa using h3
    simp [callFunc, h1, h3, hc']
  ext := fun f k hf args w => by
    obtain ⟨fn, h1, h2, h3, h4, h5⟩ := hx (f, k) (extOf_mem _ _ _ hf)
    rw [run_callFunc_extern h1 h2 h3 h4 h5]
    simp only [Sem.run_bind]
    congr 1
  primCall := fun _ _ hf => by cases hf

theorem envOf_fns (hc : okFuncs P G = true) : FnsOk P (envOf P exts) G where
  fn := fun _ _ hf => (envOf_fn hf).1
  code := fun _ _ _ hf hb => (funcs_all hc (envOf_fn hf).1 hb).2

theorem envOf_prims : PrimOk P (envOf P exts) G := fun _ _ hf => by cases hf

theorem envOf_sound (hz : okZero P = true) (hc : okFuncs P G = true) (hx : ∀ x ∈ exts, ExtAt P x) (hm : P.follows .mixedOrders = true) (n : Nat) : CallSound P G (ev (envOf P exts) n) :=
  ev_sound (envOf_ok hz hc hx) hm (envOf_fns hc) envOf_prims n
end Go.Ab
