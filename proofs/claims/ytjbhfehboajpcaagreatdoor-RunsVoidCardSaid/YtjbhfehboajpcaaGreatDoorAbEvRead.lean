/-
  The abstract evaluator: an operation that only reckons or reads does in the model what it does here.
-/
import Derived.Test.YtjbhfehboajpcaaGreatDoorAbSlice
namespace Go.Ab
open Go

section
variable {P : Program} {E : Env} {ρ : Inj} {h : Heap} {w : World}

theorem typeAssert_rel (hE : EnvOk P E) {x x' v : Value} {xt t : TypeId} {ok : Bool} (hx : VRel ρ x x') (hv : typeAssert E x t ok = some v) :
    ∃ v', VRel ρ v v' ∧ ∀ w, (Instr.typeAssert x' xt t ok).run P w = .ok v' w := by
  unfold typeAssert at hv
  split at hv
  · cases hv
  · rename_i d hni hu
    split at hv
    · rename_i hok
      subst hok
      split at hv
      · rename_i z hz
        cases hv; cases hx
        refine ⟨_, VRels.toTuple (a' := #[z, .bool false]) (by simp; exact .cons (zero_rel hE hz) (.cons (.bool _) .nil)), fun w => ?_⟩
        simp only [Instr.typeAssert, Sem.run_bind, run_und hE hu, Result.andThen_ok]
        cases d <;> first
          | exact (hni _ rfl).elim
          | simp [run_zero hE hz]
      · cases hv
    · cases hv
  · rename_i d u y hni hu
    cases hx with
    | iface hy =>
      split at hv
      · rename_i ht
        subst ht
        cases hv
        cases ok
        · refine ⟨_, hy, fun w => ?_⟩
          simp only [Instr.typeAssert, Sem.run_bind, run_und hE hu, Result.andThen_ok]
          cases d <;> first
            | exact (hni _ rfl).elim
            | simp
        · refine ⟨_, VRels.toTuple (a' := #[_, .bool true]) (by simp; exact .cons hy (.cons (.bool _) .nil)), fun w => ?_⟩
          simp only [Instr.typeAssert, Sem.run_bind, run_und hE hu, Result.andThen_ok]
          cases d <;> first
            | exact (hni _ rfl).elim
            | simp
      · rename_i ht
        split at hv
        · rename_i hok
          subst hok
          split at hv
          · rename_i z hz
            cases hv
            refine ⟨_, VRels.toTuple (a' := #[z, .bool false]) (by simp; exact .cons (zero_rel hE hz) (.cons (.bool _) .nil)), fun w => ?_⟩
            simp only [Instr.typeAssert, Sem.run_bind, run_und hE hu, Result.andThen_ok]
            cases d <;> first
              | exact (hni _ rfl).elim
              | simp [run_zero hE hz, ht]
          · cases hv
        · cases hv
  · cases hv

theorem lenOf_rel (hE : EnvOk P E) (hr : HRel ρ h w) {t : TypeId} {ty : TypeId} {x x' v : Value} {ats : Array TypeId} {args : Array Value} (ht : ats[0]? = some t) (ha : args[0]? = some x') (hx : VRel ρ x x') (hv : lenOf E h t x = some v) :
    VRel ρ v v ∧ (Builtin.len_ ats ty args).run P w = .ok v w := by
  unfold lenOf at hv
  split at hv
  · rename_i hu; cases hv; cases hx
    exact ⟨.int _ _, by simp only [Builtin.len_, ht, ha, Sem.run_bind, run_und hE hu, Result.andThen_ok]; rfl⟩
  · rename_i hu; cases hv
    exact ⟨.int _ _, by simp only [Builtin.len_, ht, ha, Sem.run_bind, run_und hE hu, Result.andThen_ok]; rfl⟩
  · rename_i hu; cases hv
    refine ⟨.int _ _, ?_⟩
    simp only [Builtin.len_, ht, ha, Sem.run_bind, run_und hE hu, Result.andThen_ok]
    cases hx <;> rfl
  · rename_i hu; cases hv; cases hx
    exact ⟨.int _ _, by simp only [Builtin.len_, ht, ha, Sem.run_bind, run_und hE hu, Result.andThen_ok]; rfl⟩
  · rename_i hu
    split at hv
    · rename_i hg
      cases hv
      cases hx with
      | map hb h0 =>
        obtain ⟨l, hl, hbk⟩ := hr.blk _ _ hg trivial
        rw [hb] at hl; cases hl
        obtain ⟨_, es', hw, hrel⟩ := hbk
        refine ⟨.int _ _, ?_⟩
        simp only [Builtin.len_, ht, ha, Sem.run_bind, run_und hE hu, Result.andThen_ok]
        have hlen := hrel.1
        simp at hlen
        simp [getObj, Sem.run, hw, goInt, hlen]
    · cases hv
  · cases hv

theorem capOf_rel (hE : EnvOk P E) {t : TypeId} {ty : TypeId} {x x' v : Value} {ats : Array TypeId} {args : Array Value} (ht : ats[0]? = some t) (ha : args[0]? = some x') (hx : VRel ρ x x') (hv : capOf E t x = some v) :
    VRel ρ v v ∧ ∀ w, (Builtin.cap_ ats ty args).run P w = .ok v w := by
  unfold capOf at hv
  split at hv
  · rename_i hu; cases hv
    exact ⟨.int _ _, fun w => by simp only [Builtin.cap_, ht, ha, Sem.run_bind, run_und hE hu, Result.andThen_ok]; rfl⟩
  · rename_i a n c hu
    split at hv
    · rename_i hc
      cases hv
      refine ⟨.int _ _, fun w => ?_⟩
      simp only [Builtin.cap_, ht, ha, Sem.run_bind, run_und hE hu, Result.andThen_ok]
      generalize hq : Value.slice a n c = q at hx
      cases hx <;> cases hq <;> first
        | rfl
        | omega
    · cases hv
  · cases hv

theorem intsOf_spec {k : IntKind} : ∀ (l : List Value) (is : List Int), intsOf k l = some is → l = is.map (.int k) := by
  intro l
  induction l with
  | nil => intro is hi; simp [intsOf] at hi; subst hi; rfl
  | cons v l ih =>
    intro is hi
    unfold intsOf at hi
    split at hi
    · rename_i e; cases e
    · rename_i k' n r e
      cases e
      split at hi
      · rename_i hk
        split at hi
        · rename_i r' hr
          cases hi
          simp [hk, ih _ hr]
        · cases hi
      · cases hi
    · cases hi

theorem maxMin_rel {big : Bool} {vs vs' : List Value} {v : Value} (hx : VRels ρ vs vs') (hv : maxMin big vs = some v) {ats : Array TypeId} {ty : TypeId} :
    VRel ρ v v ∧ ∀ w, (if big then Builtin.max_ ats ty vs'.toArray else Builtin.min_ ats ty vs'.toArray : Sem Value).run P w = .ok v w := by
  unfold maxMin at hv
  split at hv
  · rename_i k n r
    split at hv
    · rename_i l hl
      cases hv
      have hints := intsOf_spec _ _ hl
      have : vs' = .int k n :: r := ints_rel hx (fun v hv => by
        simp only [List.mem_cons] at hv
        rcases hv with rfl | hv
        · exact ⟨_, _, rfl⟩
        · rw [hints] at hv; simp at hv; obtain ⟨a, _, rfl⟩ := hv; exact ⟨_, _, rfl⟩)
      subst this
      refine ⟨.int _ _, fun w => ?_⟩
      clear hx hl
      subst hints
      cases big
      · simp only [Builtin.min_, Bool.false_eq_true, if_false]
        induction l generalizing n with
        | nil => simp
        | cons a l ih => simp only [List.map_cons, List.foldlM_cons, Sem.run_bind, List.foldl_cons]; simp [Builtin.min2]; exact ih _
      · simp only [Builtin.max_, if_true]
        induction l generalizing n with
        | nil => simp
        | cons a l ih => simp only [List.map_cons, List.foldlM_cons, Sem.run_bind, List.foldl_cons]; simp [Builtin.max2]; exact ih _
    · cases hv
  · cases hv

/-! ### Frames -/
def FrRel (ρ : Inj) (fr : Fr) (a : Act) : Prop := FrRelT ρ fr a.tmps

theorem lget_rel {fr : Fr} {a : Act} (hf : FrRel ρ fr a) (t : Nat) : VRel ρ (lget fr t) (a.tmps.getD t undef) := hf.2 t

theorem val_rel (hr : HRel ρ h w) {fr : Fr} {a : Act} (hf : FrRel ρ fr a) {x : Operand} (hx : okOpnd h.base x = true) : VRel ρ (val fr x) (a.eval x) := by
  cases x with
  | tmp t =>
    have := lget_rel hf t
    simpa [val, Act.eval, Array.getD_eq_getD_getElem?, List.getD_eq_getElem?_getD] using this
  | const v => exact plain_rel 50 v hx
  | global g =>
    obtain ⟨n, hn⟩ := hr.glob g (by simpa [okOpnd] using hx)
    have := VRel.ptr (ρ := ρ) (o := 0) hn
    simpa [val, Act.eval] using this
  | func f => exact .func (fun l e => by cases e) rfl rfl (fun i x y hx => by simp at hx) (fun i x y hx => by simp at hx)

theorem put_rel {fr : Fr} {a : Act} (hf : FrRel ρ fr a) (d : Option Tmp) {v v' : Value} (hv : VRel ρ v v') : FrRel ρ (put fr d v) (a.put d v') := by
  cases d with
  | none => exact hf
  | some t =>
    have := lset_rel hf t hv
    simpa [FrRel, put, Act.put] using this

theorem ops_rel (hr : HRel ρ h w) {fr : Fr} {a : Act} (hf : FrRel ρ fr a) {o : Op} (ho : okOp h.base o = true) {x : Operand} (hx : x ∈ o.operands.toList) : VRel ρ (val fr x) (a.eval x) :=
  val_rel hr hf ((List.all_eq_true.1 ho) x hx)

theorem vals_rel (hr : HRel ρ h w) {fr : Fr} {a : Act} (hf : FrRel ρ fr a) : ∀ (xs : List Operand), (∀ x ∈ xs, okOpnd h.base x = true) → VRels ρ (xs.map (val fr)) (xs.map a.eval) := by
  intro xs
  induction xs with
  | nil => intro _; exact VRels.nil
  | cons x xs ih => intro hx; exact .cons (val_rel hr hf (hx x (by simp))) (ih fun y hy => hx y (by simp [hy]))

theorem orel_map (hr : HRel ρ h w) {fr : Fr} {a : Act} (hf : FrRel ρ fr a) {x : Option Operand} (hx : ∀ y, x = some y → okOpnd h.base y = true) : ORel ρ (x.map (val fr)) (x.map a.eval) := by
  cases x with
  | none => exact .none
  | some y => exact .some (val_rel hr hf (hx y rfl))

theorem evRead_rel (hE : EnvOk P E) (hr : HRel ρ h w) {fr : Fr} {a : Act} (hf : FrRel ρ fr a) {o : Oper} (ho : okOp h.base o.op = true) {v : Value} (hv : evRead E fr h o.op = some v) :
    ∃ v', VRel ρ v v' ∧ (execOp a.eval o).run P w = .ok (.value v') w := by
  obtain ⟨dst, op, type, pos, after, guard⟩ := o
  have hop : ∀ x ∈ op.operands.toList, okOpnd h.base x = true := List.all_eq_true.1 ho
  have hvr : ∀ x ∈ op.operands.toList, VRel ρ (val fr x) (a.eval x) := fun x hx => val_rel hr hf (hop x hx)
  unfold evRead at hv
  dsimp only at hv
  split at hv
  · cases hv; exact ⟨_, hvr _ (by simp [Op.operands]), rfl⟩
  · cases hv; exact ⟨_, hvr _ (by simp [Op.operands]), rfl⟩
  · -- pick
    rename_i c x y
    split at hv
    · rename_i t ht
      cases hv
      have hc := hvr c (by simp [Op.operands])
      rw [ht] at hc
      have hb := bool_of_rel hc
      cases t
      · exact ⟨_, hvr y (by simp [Op.operands]), by simp [execOp, hb, asBool]⟩
      · exact ⟨_, hvr x (by simp [Op.operands]), by simp [execOp, hb, asBool]⟩
    · cases hv
  · -- build
    rename_i t ps
    have hl := vals_rel hr hf (ps.toList.map (·.2)) (fun x hx => hop x (by simp [Op.operands]; simpa using hx))
    obtain ⟨v', h1, h2⟩ := build_rel (P := P) hE (ps := ps.toList.map fun p => (p.1, val fr p.2)) (ps' := ps.toList.map fun p => (p.1, a.eval p.2)) (by simp) (by simpa [Function.comp_def] using hl) hv
    refine ⟨v', h1, ?_⟩
    have := h2 w
    simp only [execOp, Sem.run_bind]
    rw [show (ps.map fun x => (x.1, a.eval x.2)) = (ps.toList.map fun p => (p.1, a.eval p.2)).toArray from Array.toList_inj.1 (by simp)]
    rw [this]; rfl
  · -- nilCheck
    rename_i x
    obtain ⟨v', h1, h2⟩ := nilCheck_rel (P := P) (o := ⟨dst, .nilCheck x, type, pos, after, guard⟩) (a := a) (hvr x (by simp [Op.operands])) rfl rfl hv
    exact ⟨v', h1, h2 w⟩
  · -- binOp
    rename_i op t x y yt
    obtain ⟨v', h1, h2⟩ := binop_rel (P := P) hE (hvr x (by simp [Op.operands])) (hvr y (by simp [Op.operands])) hv
    exact ⟨v', h1, by simp only [execOp, Sem.run_bind] at h2 ⊢; rw [h2 w]; rfl⟩
  · rename_i op t x
    obtain ⟨v', h1, h2⟩ := unop_rel (P := P) (hvr x (by simp [Op.operands])) hv
    exact ⟨v', h1, by simp only [execOp, Sem.run_bind, h2 w]; rfl⟩
  · -- makeInterface
    rename_i t x
    split at hv
    · cases hv
    · rename_i d hu hni
      cases hv
      refine ⟨_, .iface (hvr x (by simp [Op.operands])), ?_⟩
      simp only [execOp, Instr.makeInterface, Sem.run_bind, run_und hE hni, Result.andThen_ok]
      cases d <;> first
        | exact (hu _ rfl).elim
        | rfl
    · cases hv
  · -- makeFunc
    rename_i f first cap
    split at hv
    · cases hv
    · rename_i hny
      cases hv
      have h1 := vals_rel hr hf first.toList (fun x hx => hop x (by simp [Op.operands]; exact .inl (by simpa using hx)))
      have h2 := vals_rel hr hf cap.toList (fun x hx => hop x (by simp [Op.operands]; exact .inr (by simpa using hx)))
      refine ⟨.func f (first.map a.eval) (cap.map a.eval), .func (fun l e => hny l e) (by simp) (by simp) (fun i x y hx hy => ?_) (fun i x y hx hy => ?_), rfl⟩
      · exact h1.2 i x y (by simpa using hx) (by simpa using hy)
      · exact h2.2 i x y (by simpa using hx) (by simpa using hy)
  · -- slice
    rename_i t x lo hi mx
    obtain ⟨v', h1, h2⟩ := slice_rel (P := P) hE (hvr x (by simp [Op.operands])) (orel_map hr hf (x := lo) (fun y hy => hop y (by simp [Op.operands, hy]))) (orel_map hr hf (x := hi) (fun y hy => hop y (by simp [Op.operands, hy]))) (orel_map hr hf (x := mx) (fun y hy => hop y (by simp [Op.operands, hy]))) hv
    exact ⟨v', h1, by simp only [execOp, Sem.run_bind, h2 w]; rfl⟩
  · rename_i t x f
    obtain ⟨v', h1, h2⟩ := fieldAddr_rel (P := P) hE (hvr x (by simp [Op.operands])) hv
    exact ⟨v', h1, by simp only [execOp, Sem.run_bind, h2 w]; rfl⟩
  · rename_i t x f
    obtain ⟨v', h1, h2⟩ := field_rel (P := P) hE (hvr x (by simp [Op.operands])) hv
    exact ⟨v', h1, by simp only [execOp, Sem.run_bind, h2 w]; rfl⟩
  · rename_i t x i
    obtain ⟨v', h1, h2⟩ := indexAddr_rel (P := P) hE (hvr x (by simp [Op.operands])) (hvr i (by simp [Op.operands])) hv
    exact ⟨v', h1, by simp only [execOp, Sem.run_bind, h2 w]; rfl⟩
  · rename_i t x i
    obtain ⟨v', h1, h2⟩ := index_rel (P := P) hE (hvr x (by simp [Op.operands])) (hvr i (by simp [Op.operands])) hv
    exact ⟨v', h1, by simp only [execOp, Sem.run_bind, h2 w]; rfl⟩
  · rename_i x xt t ok
    obtain ⟨v', h1, h2⟩ := typeAssert_rel (P := P) hE (xt := xt) (hvr x (by simp [Op.operands])) hv
    exact ⟨v', h1, by simp only [execOp, Sem.run_bind, h2 w]; rfl⟩
  · -- extract
    rename_i t i
    split at hv
    · rename_i vs ht
      have hc := hvr t (by simp [Op.operands])
      rw [ht] at hc
      obtain ⟨vs', he, hvs⟩ := hc.tuple_inv
      obtain ⟨y, hy, hxy⟩ := hvs.get (by simpa using hv)
      refine ⟨y, hxy, ?_⟩
      have hy' : vs'[i]? = some y := by simpa using hy
      simp [execOp, Instr.extract, he, hy']
    · cases hv
  · rename_i s d x
    split at hv
    · obtain ⟨v', h1, h2⟩ := convPtr_rel (P := P) hE hr (hvr x (by simp [Op.operands])) hv
      exact ⟨v', h1, by simp only [execOp, Sem.run_bind, h2]; rfl⟩
    · obtain ⟨v', h1, h2⟩ := convert_rel (P := P) hE hr (hvr x (by simp [Op.operands])) hv
      exact ⟨v', h1, by simp only [execOp, Sem.run_bind, h2]; rfl⟩
  · rename_i t x
    obtain ⟨v', h1, h2⟩ := load_rel (P := P) hE hr (hvr x (by simp [Op.operands])) hv
    exact ⟨v', h1, by simp only [execOp, Sem.run_bind, h2]; rfl⟩
  · rename_i t m k ok
    obtain ⟨v', h1, h2⟩ := lookup_rel (P := P) hE hr (hvr m (by simp [Op.operands])) (hvr k (by simp [Op.operands])) hv
    exact ⟨v', h1, by simp only [execOp, Sem.run_bind, h2]; rfl⟩
  · -- len, cap, max, min
    rename_i c
    obtain ⟨callee, args, ats⟩ := c
    dsimp only at hv
    have hargs : ∀ x ∈ args.toList, x ∈ (Op.call ⟨callee, args, ats⟩).operands.toList := fun x hx => by
      simp [Op.operands, Call.operands]; right; simpa using hx
    split at hv
    · split at hv
      · rename_i t x ht hx
        have := lenOf_rel (P := P) (ty := type) (ats := ats) (args := args.map a.eval) hE hr ht (by simp [hx]) (hvr x (hargs x (by simpa using Array.mem_of_getElem? hx))) hv
        exact ⟨v, this.1, by simp only [execOp, resolve, Sem.run_bind, Sem.run_pure, Result.andThen_ok, invoke, builtin, this.2]⟩
      · cases hv
    · split at hv
      · rename_i t x ht hx
        have := capOf_rel (P := P) (ty := type) (ats := ats) (args := args.map a.eval) hE ht (by simp [hx]) (hvr x (hargs x (by simpa using Array.mem_of_getElem? hx))) hv
        exact ⟨v, this.1, by simp only [execOp, resolve, Sem.run_bind, Sem.run_pure, Result.andThen_ok, invoke, builtin, this.2 w]⟩
      · cases hv
    · have hl := vals_rel hr hf args.toList (fun x hx => hop x (hargs x hx))
      have := maxMin_rel (P := P) (ats := ats) (ty := type) hl hv
      refine ⟨v, this.1, ?_⟩
      have h2 := this.2 w
      simp at h2
      simp only [execOp, resolve, Sem.run_bind, Sem.run_pure, Result.andThen_ok, invoke, builtin]
      rw [show args.map a.eval = (args.toList.map a.eval).toArray from Array.toList_inj.1 (by simp), h2]; rfl
    · have hl := vals_rel hr hf args.toList (fun x hx => hop x (hargs x hx))
      have := maxMin_rel (P := P) (ats := ats) (ty := type) hl hv
      refine ⟨v, this.1, ?_⟩
      have h2 := this.2 w
      simp at h2
      simp only [execOp, resolve, Sem.run_bind, Sem.run_pure, Result.andThen_ok, invoke, builtin]
      rw [show args.map a.eval = (args.toList.map a.eval).toArray from Array.toList_inj.1 (by simp), h2]; rfl
    · cases hv
  · cases hv
end
end Go.Ab
