/-
  The abstract evaluator: operators of two operands, and of one.
-/
import Derived.Test.YtjbhfehboajpcaaGreatDoorAbPure
namespace Go.Ab
open Go

section
variable {P : Program} {E : Env} {ρ : Inj} {h : Heap} {w : World}

theorem binInt_rel {op : BinOp} {t : TypeId} {k : IntKind} {a b : Int} {v : Value} (hs : op ≠ .shl ∧ op ≠ .shr) (hv : binInt op k a b = some v) :
    VRel ρ v v ∧ ∀ w, (binOp op t (.int k a) (.int k b)).run P w = .ok v w := by
  cases op <;> simp only [binInt] at hv <;> first
    | (cases hv; exact ⟨.int _ _, fun w => by simp only [binOp]; rw [if_neg (by simp)]; rfl⟩)
    | (cases hv; exact ⟨.bool _, fun w => by simp only [binOp]; rw [if_neg (by simp)]; rfl⟩)
    | (split at hv
       · cases hv
       · rename_i hb; cases hv; exact ⟨.int _ _, fun w => by simp [binOp, Op.intDiv, hb]⟩)
    | (simp at hs; done)
    | cases hv

theorem binStr_rel {op : BinOp} {t : TypeId} {a b : ByteArray} {v : Value} (hs : op ≠ .shl ∧ op ≠ .shr) (hv : binStr op a b = some v) :
    VRel ρ v v ∧ ∀ w, (binOp op t (.string a) (.string b)).run P w = .ok v w := by
  cases op <;> simp only [binStr] at hv <;> first
    | (cases hv; exact ⟨.bool _, fun w => by simp [binOp, Op.stringOp]⟩)
    | (split at hv
       · rename_i hb; cases hv
         refine ⟨.string _, fun w => ?_⟩
         have h1 : ¬ (((a.size + b.size : Nat) : Int) > IntKind.i64.max) := by
           unfold most at hb
           simp only [IntKind.max_i64]
           omega
         simp only [binOp, Op.stringOp]
         rw [if_neg h1]; rfl
       · cases hv)
    | (simp at hs; done)
    | cases hv

/-- What is compared, but for two integers and two texts. -/
def notScalar : Value → Value → Prop
  | .int _ _, .int _ _ => False
  | .string _, .string _ => False
  | _, _ => True

theorem binEq_form {d : Nat} {t : TypeId} {x y x' y' : Value} {b : Bool} (hx : VRel ρ x x') (hy : VRel ρ y y') (hn : notScalar x y) (he : eqIn E d t x y = some b) :
    binOp .eql t x' y' = (do pure (.bool (← Op.equal t x' y'))) ∧ binOp .neq t x' y' = (do pure (.bool (!(← Op.equal t x' y')))) := by
  cases d with
  | zero => simp [eqIn] at he
  | succ d =>
    unfold eqIn at he
    split at he
    all_goals first
      | exact absurd hn id
      | cases he; done
      | (cases hx <;> cases hy <;> exact ⟨rfl, rfl⟩)

theorem eqGuard_rel (hE : EnvOk P E) {op : BinOp} {d : Nat} {t : TypeId} {x y x' y' : Value} {ox oy : Operand} {b : Bool} (hx : VRel ρ x x') (hy : VRel ρ y y')
    (hag : ∀ xs ys, x = .agg xs → y = .agg ys → E.cmp t = true)
    (hnil : bothNil x y = true → isNilConst ox = true ∨ isNilConst oy = true) (he : eqIn E d t x y = some b) (w : World) : (eqGuard op t ox oy x' y').run P w = .ok () w := by
  have hconst : ∀ o, isNilConst o = true → ∃ c, o = .const c := fun o ho => by
    cases o <;> simp [isNilConst] at ho; exact ⟨_, rfl⟩
  cases d with
  | zero => simp [eqIn] at he
  | succ d =>
    unfold eqIn at he
    split at he
    all_goals first
      | (cases hx <;> cases hy <;> cases op <;> rfl)
      | (rename_i xs ys _
         obtain ⟨xs', rfl, hxs⟩ := hx.agg_inv
         obtain ⟨ys', rfl, hys⟩ := hy.agg_inv
         exact run_eqGuard_agg w op t ox oy xs' ys' (hE.cmp t (hag _ _ rfl rfl)).2)
      | (cases hx; cases hy
         rcases hnil rfl with hc | hc
         · obtain ⟨c, rfl⟩ := hconst _ hc; rw [eqGuard_nil_constL]; rfl
         · obtain ⟨c, rfl⟩ := hconst _ hc; rw [eqGuard_nil_constR]; rfl)
      | cases he

theorem eqGuard_none {op : BinOp} {t : TypeId} {x y : Value} {ox oy : Operand} (ho : op ≠ .eql ∧ op ≠ .neq) : eqGuard op t ox oy x y = pure () := by
  cases op <;> first | rfl | (simp at ho; done)

theorem eqGuard_int {op : BinOp} {t : TypeId} {k j : IntKind} {a b : Int} {ox oy : Operand} : eqGuard op t ox oy (.int k a) (.int j b) = pure () := by cases op <;> rfl
theorem eqGuard_str {op : BinOp} {t : TypeId} {a b : ByteArray} {ox oy : Operand} : eqGuard op t ox oy (.string a) (.string b) = pure () := by cases op <;> rfl

theorem run_equal_eq {t : TypeId} {x y : Value} {b : Bool} {w : World} (hq : (Op.equalIn 10000 t x y).run P w = .ok b w) :
    ((do pure (.bool (← Op.equal t x y)) : Sem Value)).run P w = .ok (.bool b) w ∧ ((do pure (.bool (!(← Op.equal t x y))) : Sem Value)).run P w = .ok (.bool !b) w := by
  constructor <;> simp [Op.equal, Op.maxDepth, hq]

theorem binop_rel (hE : EnvOk P E) {op : BinOp} {t : TypeId} {x y x' y' v : Value} {ox oy : Operand} (hx : VRel ρ x x') (hy : VRel ρ y y')
    (hv : binop E op t (isNilConst ox) (isNilConst oy) x y = some v) :
    ∃ v', VRel ρ v v' ∧ ∀ w, (do eqGuard op t ox oy x' y'; binOp op t x' y' : Sem Value).run P w = .ok v' w := by
  unfold binop at hv
  split at hv
  · -- shl
    split at hv
    · cases hv
    · rename_i hb; cases hv; cases hx; cases hy
      exact ⟨_, .int _ _, fun w => by rw [eqGuard_int]; simp [binOp, Op.shift, hb]⟩
  · split at hv
    · cases hv
    · rename_i hb; cases hv; cases hx; cases hy
      exact ⟨_, .int _ _, fun w => by rw [eqGuard_int]; simp [binOp, Op.shift, hb]⟩
  · -- two integers
    rename_i k a k' b hs1 hs2
    split at hv
    · rename_i hk
      subst hk
      cases hx; cases hy
      have hs : op ≠ .shl ∧ op ≠ .shr := ⟨fun e => by subst e; exact hs1 rfl, fun e => by subst e; exact hs2 rfl⟩
      obtain ⟨h1, h2⟩ := binInt_rel (ρ := ρ) (P := P) (t := t) hs hv
      exact ⟨v, h1, fun w => by rw [eqGuard_int]; simpa using h2 w⟩
    · cases hv
  · -- two texts
    cases hx; cases hy
    have hs : op ≠ .shl ∧ op ≠ .shr := ⟨fun e => by subst e; simp [binStr] at hv, fun e => by subst e; simp [binStr] at hv⟩
    obtain ⟨h1, h2⟩ := binStr_rel (ρ := ρ) (P := P) (t := t) hs hv
    exact ⟨v, h1, fun w => by rw [eqGuard_str]; simpa using h2 w⟩
  · -- two aggregates
    rename_i xs ys
    split at hv
    · rename_i hc
      split at hv
      · rename_i b he
        cases hv
        have hg := fun w => eqGuard_rel (ox := ox) (oy := oy) (op := .eql) hE hx hy (fun _ _ _ _ => hc) (fun e => by simp [bothNil] at e) he w
        obtain ⟨xs', rfl, hxs⟩ := hx.agg_inv
        obtain ⟨ys', rfl, hys⟩ := hy.agg_inv
        have hq := fun w => eqIn_rel hE 20 10000 (by omega) t _ _ _ _ b hx hy he w
        exact ⟨_, .bool b, fun w => by simp only [Sem.run_bind, hg w, Result.andThen_ok]; exact (run_equal_eq (hq w)).1⟩
      · cases hv
    · cases hv
  · rename_i xs ys
    split at hv
    · rename_i hc
      split at hv
      · rename_i b he
        cases hv
        have hg := fun w => eqGuard_rel (ox := ox) (oy := oy) (op := .neq) hE hx hy (fun _ _ _ _ => hc) (fun e => by simp [bothNil] at e) he w
        obtain ⟨xs', rfl, hxs⟩ := hx.agg_inv
        obtain ⟨ys', rfl, hys⟩ := hy.agg_inv
        have hq := fun w => eqIn_rel hE 20 10000 (by omega) t _ _ _ _ b hx hy he w
        exact ⟨_, .bool !b, fun w => by simp only [Sem.run_bind, hg w, Result.andThen_ok]; exact (run_equal_eq (hq w)).2⟩
      · cases hv
    · cases hv
  · -- others
    rename_i hni hns hna
    split at hv
    · cases hv
    · rename_i hnil
      split at hv
      · rename_i b he
        cases hv
        have hn : notScalar x y := by
          unfold notScalar
          split
          · exact hni _ _ _ _ rfl rfl
          · exact hns _ _ rfl rfl
          · trivial
        have hg := fun w => eqGuard_rel (ox := ox) (oy := oy) (op := .eql) hE hx hy (fun xs ys e1 e2 => absurd e2 (hna _ _ e1)) (fun e => by simp [e] at hnil; rcases Bool.eq_false_or_eq_true (isNilConst ox) with h1 | h1 <;> simp_all) he w
        have hq := fun w => eqIn_rel hE 20 10000 (by omega) t _ _ _ _ b hx hy he w
        exact ⟨_, .bool b, fun w => by simp only [Sem.run_bind, hg w, Result.andThen_ok]; rw [(binEq_form hx hy hn he).1]; exact (run_equal_eq (hq w)).1⟩
      · cases hv
  · rename_i hni hns hna
    split at hv
    · cases hv
    · rename_i hnil
      split at hv
      · rename_i b he
        cases hv
        have hn : notScalar x y := by
          unfold notScalar
          split
          · exact hni _ _ _ _ rfl rfl
          · exact hns _ _ rfl rfl
          · trivial
        have hg := fun w => eqGuard_rel (ox := ox) (oy := oy) (op := .neq) hE hx hy (fun xs ys e1 e2 => absurd e2 (hna _ _ e1)) (fun e => by simp [e] at hnil; rcases Bool.eq_false_or_eq_true (isNilConst ox) with h1 | h1 <;> simp_all) he w
        have hq := fun w => eqIn_rel hE 20 10000 (by omega) t _ _ _ _ b hx hy he w
        exact ⟨_, .bool !b, fun w => by simp only [Sem.run_bind, hg w, Result.andThen_ok]; rw [(binEq_form hx hy hn he).2]; exact (run_equal_eq (hq w)).2⟩
      · cases hv
  · cases hv

theorem unop_rel {op : UnOp} {x x' v : Value} (hx : VRel ρ x x') (hv : unop op x = some v) : ∃ v', VRel ρ v v' ∧ ∀ w, (Op.unary op x').run P w = .ok v' w := by
  unfold unop at hv
  split at hv
  · cases hv; cases hx; exact ⟨_, .int _ _, fun w => rfl⟩
  · cases hv; cases hx; exact ⟨_, .int _ _, fun w => rfl⟩
  · cases hv; cases hx; exact ⟨_, .bool _, fun w => rfl⟩
  · cases hv
end
end Go.Ab
