/-
  The abstract evaluator: a region whose order is the text's.
-/
import Derived.Test.YtjbhfehboajpcaaGreatDoorAbCall
namespace Go.Ab
open Go

section
variable {P : Program} {E : Env} {ρ : Inj} {h : Heap} {w : World}

theorem isBool_rel {v v' : Value} (hv : VRel ρ v v') (c : Bool) : isBool v c = isBool v' c := by
  cases hv <;> rfl

theorem wants_eq {fr : Fr} {a : Act} (hf : FrRel ρ fr a) (ops : Array Oper) (o : Oper) : wants ops.toList fr o = Region.wanted o (yielded ops a.tmps) := by
  unfold wants Region.wanted
  split
  · rename_i e; rw [e]
  · rename_i j want e
    rw [e]
    simp only [Array.getElem?_toList, yielded]
    cases hj : ops[j]? with
    | none => simp
    | some oj =>
      simp only [Option.bind_some]
      cases hd : oj.dst with
      | none => simp
      | some d =>
        simp only [Option.bind_some]
        have hl := lget_rel hf d
        have hb := isBool_rel hl want
        revert hb
        generalize isBool (lget fr d) want = bb
        rw [Array.getD_eq_getD_getElem?]
        cases ht : a.tmps[d]? with
        | none =>
          intro hb
          rw [hb]
          simp [undef, isBool]
        | some t =>
          intro hb
          rw [hb]
          simp only [Option.getD_some]
          cases t <;> simp [isBool]

/-- What a walk ends in, when the evaluator ends in a frame and a heap. -/
def Ends (ρ : Inj) (h : Heap) (w : World) (fr' : Fr) (h' : Heap) (ds : List Deferred) (a' : Act) (w' : World) : Prop :=
  ∃ ρ', FrRel ρ' fr' a' ∧ a'.defers = ds ∧ Grow ρ h w ρ' h' w'

theorem FrRel.mono {ρ' : Inj} (hle : ρ.le ρ') {fr : Fr} {a : Act} (hf : FrRel ρ fr a) : FrRel ρ' fr a := FrRelT.mono hle hf

theorem put_defers (a : Act) (d : Option Tmp) (v : Value) : (a.put d v).defers = a.defers := by cases d <;> rfl

theorem evSeq_wp (hE : EnvOk2 P E) {G : Nat} {cf : FuncId → List Value → Heap → Ans} {yl : Nat → List Value → Heap → Ans} (hs : Sound P E G cf yl) {ops : Array Oper} (hok : ∀ o ∈ ops.toList, okOp G o.op = true) (r : Option Nat) (d : Nat)
    {ρ0 : Inj} {h0 : Heap} {w0 : World} {ds : List Deferred} {fr' : Fr} {h' : Heap} {Q : Exit → Act → World → Prop} (hQ : ∀ a' w', Ends ρ0 h0 w0 fr' h' ds a' w' → Q .normal a' w') :
    ∀ (os pre : List Oper), ops.toList = pre ++ os → ∀ (fr : Fr) (h : Heap) (ρ : Inj) (a : Act) (w : World), FrRel ρ fr a → a.defers = ds → h.base = G → Grow ρ0 h0 w0 ρ h w →
      evSeq E cf yl ops.toList os fr h = some (fr', h') → wpOpsIn (wideR r) d P ops Q (List.range' pre.length os.length) a w := by
  intro os
  induction os with
  | nil =>
    intro pre _ fr h ρ a w hf hd _ hg hev
    simp [evSeq] at hev
    obtain ⟨rfl, rfl⟩ := hev
    exact hQ a w ⟨ρ, hf, hd, hg⟩
  | cons o os ih =>
    intro pre hpre fr h ρ a w hf hd hb hg hev
    have hi : ops[pre.length]? = some o := by
      rw [← Array.getElem?_toList, hpre]; simp
    have hmem : o ∈ ops.toList := by rw [hpre]; simp
    simp only [List.length_cons, List.range'_succ, wpOpsIn, hi]
    have hrest : ops.toList = (pre ++ [o]) ++ os := by rw [hpre]; simp
    have hlen : (pre ++ [o]).length = pre.length + 1 := by simp
    have hw := wants_eq hf ops o
    simp only [evSeq] at hev
    split at hev
    · rename_i hwant
      rw [hw] at hwant
      rw [if_pos hwant]
      split at hev
      · rename_i v h1 hop
        refine evOp_then hE hs hg.rel hb hf (by rw [hb]; exact hok o hmem) hop r d _ _ (fun v' ρ' w' hv hg' => ?_)
        rw [← hlen]
        exact ih (pre ++ [o]) hrest _ h1 ρ' _ w' (put_rel (hf.mono hg'.inj) o.dst hv) (by rw [put_defers]; exact hd) (by rw [hg'.base]; exact hb) (hg.trans hg') hev
      · cases hev
    · rename_i hwant
      rw [hw] at hwant
      rw [if_neg hwant]
      refine ⟨fun _ _ => trivial, ?_⟩
      rw [← hlen]
      exact ih (pre ++ [o]) hrest _ h ρ _ w (put_rel hf o.dst VRel.undef) (by rw [put_defers]; exact hd) hb hg hev
end
end Go.Ab
