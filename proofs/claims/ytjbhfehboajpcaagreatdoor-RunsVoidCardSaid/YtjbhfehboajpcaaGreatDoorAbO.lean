/-
  The abstract evaluator, with continuations, and with tests of which the outcome is laid down ahead (by their number): where an outcome is another one, the rest is given up ('bad'). Where it does not come to 'bad', it comes to what the evaluator comes to.
-/
import Derived.Test.YtjbhfehboajpcaaGreatDoorAbK
namespace Go.Ab
open Go

section
variable (E : Env) {A : Type} (D : Nat → Option Bool) (bad : A)

/-- A test: the one way, or the other one. -/
def tst (i : Nat) (t : Bool) (x y : A) : A := match D i with
  | some true => bif t then x else bad
  | some false => bif t then bad else y
  | none => bif t then x else y

/-- A call, with what is done with its answer; how many tests there were. -/
abbrev CfO (A : Type) := FuncId → List Value → Heap → Nat → (Nat → Ans → A) → A

def priO : Pri → Nat → (Nat → Ans → A) → (Nat → A) → A
  | .ans v h, i, k, _ => k i (some (v, h))
  | .fail, i, k, _ => k i none
  | .walk, i, _, w => w i
  | .test b x y, i, k, w => tst D bad i b (priO x (i + 1) k w) (priO y (i + 1) k w)

def evCallFnO (cfO : CfO A) (f : FuncId) (args : List Value) (h : Heap) (i : Nat) (k : Nat → Ans → A) : A := priO D bad (primOf E f args h) i k
  fun i => match E.ext f with
    | some e => k i (extern E h e args)
    | none => cfO f args h i k

def evInvokeO (cfO : CfO A) (yl : Nat → List Value → Heap → Ans) (f : Value) (args : List Value) (h : Heap) (i : Nat) (k : Nat → Ans → A) : A := match f with
  | .func (.func g) first cap => evCallFnO E D bad cfO g (first.toList ++ args ++ cap.toList) h i k
  | .func (.yield l) first _ => k i (yl l (first.toList ++ args) h)
  | .func (.method name) first _ => match first.toList ++ args with
    | .iface t v :: rest => match methodOf E h t v name with
      | some (g, r) => evCallFnO E D bad cfO g (r :: rest) h i k
      | none => k i none
    | _ => k i none
  | _ => k i none

def evHeavyO (cfO : CfO A) (yl : Nat → List Value → Heap → Ans) (fr : Fr) (h : Heap) (o : Op) (i : Nat) (k : Nat → Ans → A) : A := match o with
  | .call c => match c.callee with
    | .value f => evInvokeO E D bad cfO yl (val fr f) (c.args.toList.map (val fr)) h i k
    | .invoke r name => match val fr r with
      | .iface t v => match methodOf E h t v name with
        | some (g, rc) => evCallFnO E D bad cfO g (rc :: c.args.toList.map (val fr)) h i k
        | none => k i none
      | _ => k i none
    | _ => k i (evHeavy E (fun _ _ _ => none) yl fr h o)
  | _ => k i (evHeavy E (fun _ _ _ => none) yl fr h o)

/-- Operations that read at most: a choice parts the rest. -/
def evReadO (fr : Fr) (h : Heap) (o : Op) (i : Nat) (k : Nat → Option Value → A) : A := match o with
  | .pick c a b => match val fr c with
    | .bool t => tst D bad i t (k (i + 1) (some (val fr a))) (k (i + 1) (some (val fr b)))
    | _ => k i none
  | o => k i (evRead E fr h o)

def evOpO (cfO : CfO A) (yl : Nat → List Value → Heap → Ans) (fr : Fr) (h : Heap) (o : Op) (i : Nat) (k : Nat → Ans → A) : A := match kind E o with
  | .heavy => evHeavyO E D bad cfO yl fr h o i k
  | .light => match evLight E fr h.next o with | some (v, b) => k i (some (v, h.push b)) | none => k i none
  | _ => evReadO E D bad fr h o i fun i r => match r with
    | some v => k i (some (v, h))
    | none => k i none

/-- Is an operation wanted? The one way, or the other one; the outcome is laid into the frame. -/
def guardO (ops : List Oper) (fr : Fr) (o : Oper) (i : Nat) (x y : Nat → Fr → A) : A := match o.guard with
  | none => x i fr
  | some (j, want) => match ops[j]? with
    | some oj => match oj.dst with
      | some d => match lget fr d with
        | .bool b => tst D bad i b (bif want then x (i + 1) (lset fr d (.bool true)) else y (i + 1) (lset fr d (.bool true))) (bif want then y (i + 1) (lset fr d (.bool false)) else x (i + 1) (lset fr d (.bool false)))
        | _ => y i fr
      | none => y i fr
    | none => y i fr

def evSeqO (cfO : CfO A) (yl : Nat → List Value → Heap → Ans) (all : List Oper) : List Oper → Fr → Heap → Nat → (Nat → Option (Fr × Heap) → A) → A
  | [], fr, h, i, k => k i (some (fr, h))
  | o :: os, fr, h, i, k => guardO D bad all fr o i
      (fun i fr => evOpO E D bad cfO yl fr h o.op i fun i r => match r with
        | some (v, h') => evSeqO cfO yl all os (put fr o.dst v) h' i k
        | none => k i none)
      (fun i fr => evSeqO cfO yl all os (put fr o.dst undef) h i k)

def evDrawO (cfO : CfO A) (yl : Nat → List Value → Heap → Ans) (all : List Oper) (base : Nat) : List (Oper × Nat) → Nat → RS → Nat → (Nat → Option RS → A) → A
  | [], _, s, i, k => k i (some s)
  | (o, bf) :: os, n, s, i, k => guardO D bad all s.fr o i
      (fun i fr => match kind E o.op with
      | .pure => evReadO E D bad fr s.h o.op i fun i r => match r with
        | some v => evDrawO cfO yl all base os (n + 1) { s with fr := put fr o.dst v } i k
        | none => k i none
      | .light => match evLight E fr (base + n) o.op with
        | some (v, b) => evDrawO cfO yl all base os (n + 1) { s with fr := put fr o.dst v, pend := ⟨n, base + n, b⟩ :: s.pend } i k
        | none => k i none
      | .read => match evRead E fr (addPend bf s.pend s.h) o.op with
        | some v => tst D bad i (s.snaps.all (fun x => bf.testBit x.1 || sameAt E bf s.pend fr o.op v x.2))
            (evDrawO cfO yl all base os (n + 1) { s with fr := put fr o.dst v, reads := ⟨n, bf, fr, o.op, v⟩ :: s.reads } (i + 1) k)
            (k (i + 1) none)
        | none => k i none
      | .heavy => bif s.snaps.all (fun x => bf.testBit x.1) then
          evHeavyO E D bad cfO yl fr (addPend bf s.pend s.h) o.op i fun i r => match r with
            | some (v, h') => tst D bad i (s.reads.all (fun q => bf.testBit q.at_ || sameAt E q.before (dropPend bf s.pend) q.fr q.op q.v h'))
                (evDrawO cfO yl all base os (n + 1) { fr := put fr o.dst v, h := h', pend := dropPend bf s.pend, snaps := (n, s.h) :: s.snaps, reads := s.reads } (i + 1) k)
                (k (i + 1) none)
            | none => k i none
        else k i none)
      (fun i fr => evDrawO cfO yl all base os (n + 1) { s with fr := put fr o.dst undef } i k)

def evRegionO (cfO : CfO A) (yl : Nat → List Value → Heap → Ans) (ops : Array Oper) (draw : Bool) (fr : Fr) (h : Heap) (i : Nat) (k : Nat → Option (Fr × Heap) → A) : A :=
  bif draw then
    evDrawO E D bad cfO yl ops.toList h.next (ops.toList.zip (Region.before ops).toList) 0 { fr, h := { h with next := h.next + ops.size }, pend := [], snaps := [], reads := [] } i fun i r => match r with
    | some s => k i (some (s.fr, allPend s.pend s.h))
    | none => k i none
  else evSeqO E D bad cfO yl ops.toList ops.toList fr h i k

abbrev RunO (A : Type) := Code → Fr → Heap → Nat → (Nat → Res → A) → A

def loopNO (body : Fr → Heap → Nat → (Nat → Res → A) → A) : Nat → Fr → Heap → Nat → (Nat → Res → A) → A
  | 0, _, _, i, k => k i none
  | n + 1, fr, h, i, k => body fr h i fun i r => match r with
    | some (.normal, fr', h') => loopNO body n fr' h' i k
    | r => k i r

def scopeNO (run : RunO A) (body : Code) : Nat → Fr → Heap → Code → Nat → (Nat → Res → A) → A
  | 0, _, _, _, i, k => k i none
  | n + 1, fr, h, c, i, k => run c fr h i fun i r => match r with
    | some (.goto l, fr', h') => match findLabel body l with
      | some rest => scopeNO run body n fr' h' rest i k
      | none => k i (some (.goto l, fr', h'))
    | r => k i r

def evCodeO (cf : FuncId → List Value → Heap → Ans) (cfO : CfO A) (yl : Nat → List Value → Heap → Ans) (run : Code → Fr → Heap → Res) (runO : RunO A) (n : Nat) : Code → Fr → Heap → Nat → (Nat → Res → A) → A
  | .skip, fr, h, i, k => k i (some (.normal, fr, h))
  | .region _ ops draw, fr, h, i, k => evRegionO E D bad cfO yl ops draw fr h i fun i r => match r with
    | some (fr', h') => k i (some (.normal, fr', h'))
    | none => k i none
  | .seq a b, fr, h, i, k => evCodeO cf cfO yl run runO n a fr h i fun i r => match r with
    | some (.normal, fr', h') => evCodeO cf cfO yl run runO n b fr' h' i k
    | r => k i r
  | .cond c a b, fr, h, i, k => match val fr c with
    | .bool t => tst D bad i t (evCodeO cf cfO yl run runO n a fr h (i + 1) k) (evCodeO cf cfO yl run runO n b fr h (i + 1) k)
    | _ => k i none
  | .block id b, fr, h, i, k => evCodeO cf cfO yl run runO n b fr h i fun i r => match r with
    | some (.exit j, fr', h') => bif Nat.beq j id then k i (some (.normal, fr', h')) else k i (some (.exit j, fr', h'))
    | r => k i r
  | .loop b, fr, h, i, k => loopNO (evCodeO cf cfO yl run runO n b) n fr h i k
  | .rangeFunc f ps as body, fr, h, i, k => k i (evCode E cf yl run n (.rangeFunc f ps as body) fr h)
  | .exit id, fr, h, i, k => k i (some (.exit id, fr, h))
  | .scope b, fr, h, i, k => scopeNO runO b n fr h b i k
  | .label _, fr, h, i, k => k i (some (.normal, fr, h))
  | .goto l, fr, h, i, k => k i (some (.goto l, fr, h))
  | .ret, fr, h, i, k => k i (some (.ret, fr, h))
  | .refuse _, _, _, i, k => k i none

def evBodyO (run : RunO A) (fn : Func) (args : List Value) (h : Heap) (i : Nat) (k : Nat → Ans → A) : A := match fn.body with
  | none => k i none
  | some c => run c (frOf args fn.ntmps) h i fun i r => k i (ansOf E fn r)

def runO : Nat → RunO A
  | 0 => fun _ _ _ i k => k i none
  | n + 1 => evCodeO E D bad (callN E n) (fun f args h i k => match E.fn f with | some fn => evBodyO E (runO n) fn args h i k | none => k i none) (evYield (run E n)) (run E n) (runO n) n

def evO (n : Nat) (f : FuncId) (args : List Value) (h : Heap) (i : Nat) (k : Nat → Ans → A) : A := match E.fn f with
  | some fn => evBodyO E (runO E D bad n) fn args h i k
  | none => k i none

/-! ### It comes to the same, or to 'bad' -/
variable {E} {D} {bad}

def Ok {α : Type} (bad : A) (k : Nat → α → A) (v : α) (a : A) : Prop := (∃ i, a = k i v) ∨ a = bad
def Fits {α : Type} (bad : A) (m : (Nat → α → A) → A) (v : α) : Prop := ∀ k, Ok bad k v (m k)

theorem Ok.ret {α : Type} {k : Nat → α → A} (i : Nat) (v : α) : Ok bad k v (k i v) := .inl ⟨i, rfl⟩
theorem Fits.then {α β : Type} {m : (Nat → α → A) → A} {v : α} {f : Nat → α → A} {k : Nat → β → A} {u : β} (h : Fits bad m v) (hf : ∀ i, Ok bad k u (f i v)) : Ok bad k u (m f) := by
  rcases h f with ⟨i, e⟩ | e
  · rw [e]; exact hf i
  · exact .inr e
theorem Ok.tst {α : Type} {k : Nat → α → A} {i : Nat} {t : Bool} {x y : A} {v : α} (hx : t = true → Ok bad k v x) (hy : t = false → Ok bad k v y) : Ok bad k v (tst D bad i t x y) := by
  unfold Ab.tst
  cases t with
  | true => cases D i with
    | none => exact hx rfl
    | some d => cases d with
      | true => exact hx rfl
      | false => exact .inr rfl
  | false => cases D i with
    | none => exact hy rfl
    | some d => cases d with
      | true => exact .inr rfl
      | false => exact hy rfl

def FitsCall (bad : A) (cfO : CfO A) (cf : FuncId → List Value → Heap → Ans) : Prop := ∀ f args h i, Fits bad (cfO f args h i) (cf f args h)
def FitsRun (bad : A) (runO : RunO A) (run : Code → Fr → Heap → Res) : Prop := ∀ c fr h i, Fits bad (runO c fr h i) (run c fr h)

theorem priO_ok {k : Nat → Ans → A} {w : Nat → A} {u : Ans} (hw : ∀ i, Ok bad k u (w i)) : ∀ (p : Pri) (i : Nat), Ok bad k (match p.out with | some r => r | none => u) (priO D bad p i k w) := by
  intro p
  induction p with
  | ans v h => intro i; exact Ok.ret i _
  | fail => intro i; exact Ok.ret i _
  | walk => intro i; exact hw i
  | test b x y ihx ihy =>
    intro i
    refine Ok.tst (fun hb => ?_) (fun hb => ?_)
    · have := ihx (i + 1); simpa only [Pri.out, hb, cond_true] using this
    · have := ihy (i + 1); simpa only [Pri.out, hb, cond_false] using this

theorem evCallFnO_fits {cfO : CfO A} {cf : FuncId → List Value → Heap → Ans} (hc : FitsCall bad cfO cf) (f : FuncId) (args : List Value) (h : Heap) (i : Nat) : Fits bad (evCallFnO E D bad cfO f args h i) (evCallFn E cf f args h) := by
  intro k
  unfold evCallFnO evCallFn
  refine priO_ok (fun i => ?_) _ i
  cases E.ext f with
  | some e => exact Ok.ret i _
  | none => exact hc f args h i k

theorem evInvokeO_fits {cfO : CfO A} {cf : FuncId → List Value → Heap → Ans} (hc : FitsCall bad cfO cf) (yl : Nat → List Value → Heap → Ans) (f : Value) (args : List Value) (h : Heap) (i : Nat) : Fits bad (evInvokeO E D bad cfO yl f args h i) (evInvoke E cf yl f args h) := by
  intro k
  cases f with
  | func fn first cap => cases fn with
    | func g => exact evCallFnO_fits hc _ _ _ _ k
    | yield l => exact Ok.ret i _
    | method name =>
      simp only [evInvokeO, evInvoke]
      generalize first.toList ++ args = al
      cases al with
      | nil => exact Ok.ret i _
      | cons x rest => cases x with
        | iface t v =>
          simp only []
          cases methodOf E h t v name with
          | none => exact Ok.ret i _
          | some x => exact evCallFnO_fits hc _ _ _ _ k
        | _ => exact Ok.ret i _
    | _ => exact Ok.ret i _
  | _ => exact Ok.ret i _

theorem evHeavyO_fits {cfO : CfO A} {cf : FuncId → List Value → Heap → Ans} (hc : FitsCall bad cfO cf) (yl : Nat → List Value → Heap → Ans) (fr : Fr) (h : Heap) (o : Op) (i : Nat) : Fits bad (evHeavyO E D bad cfO yl fr h o i) (evHeavy E cf yl fr h o) := by
  intro k
  cases o with
  | call c =>
    obtain ⟨callee, args, ats⟩ := c
    cases callee with
    | value f => exact evInvokeO_fits hc _ _ _ _ _ k
    | invoke r name =>
      simp only [evHeavyO, evHeavy]
      cases val fr r with
      | iface t v =>
        simp only []
        cases methodOf E h t v name with
        | none => exact Ok.ret i _
        | some x => exact evCallFnO_fits hc _ _ _ _ k
      | _ => exact Ok.ret i _
    | builtin b => cases b <;> exact Ok.ret i _
  | next it s => cases s <;> exact Ok.ret i _
  | _ => exact Ok.ret i _

theorem evReadO_fits (fr : Fr) (h : Heap) (o : Op) (i : Nat) : Fits bad (evReadO E D bad fr h o i) (evRead E fr h o) := by
  intro k
  cases o with
  | pick c a b =>
    simp only [evReadO, evRead]
    cases val fr c with
    | bool t => exact Ok.tst (fun ht => by subst ht; exact Ok.ret _ _) (fun ht => by subst ht; exact Ok.ret _ _)
    | _ => exact Ok.ret i _
  | _ => exact Ok.ret i _

theorem evOpO_fits {cfO : CfO A} {cf : FuncId → List Value → Heap → Ans} (hc : FitsCall bad cfO cf) (yl : Nat → List Value → Heap → Ans) (fr : Fr) (h : Heap) (o : Op) (i : Nat) : Fits bad (evOpO E D bad cfO yl fr h o i) (evOp E cf yl fr h o) := by
  intro k
  unfold evOpO evOp
  have hr : Ok bad k (match evRead E fr h o with | some v => some (v, h) | none => none) (evReadO E D bad fr h o i fun i r => match r with | some v => k i (some (v, h)) | none => k i none) := by
    refine (evReadO_fits fr h o i).then fun i => ?_
    cases evRead E fr h o <;> exact Ok.ret i _
  cases kind E o with
  | heavy => exact evHeavyO_fits hc _ _ _ _ _ k
  | light => simp only []; cases evLight E fr h.next o with
    | none => exact Ok.ret i _
    | some x => exact Ok.ret i _
  | pure => exact hr
  | read => exact hr

theorem guardO_ok {α : Type} {k : Nat → α → A} (ops : List Oper) (fr : Fr) (o : Oper) (i : Nat) {x y : Nat → Fr → A} {u v : α} (hx : ∀ i, Ok bad k u (x i fr)) (hy : ∀ i, Ok bad k v (y i fr)) :
    Ok bad k (if wants ops fr o then u else v) (guardO D bad ops fr o i x y) := by
  cases hg : o.guard with
  | none => simp only [guardO, wants, hg, if_true]; exact hx i
  | some g =>
    obtain ⟨j, want⟩ := g
    cases hj : ops[j]? with
    | none => simp only [guardO, wants, hg, hj]; exact hy i
    | some oj =>
      cases hd : oj.dst with
      | none => simp only [guardO, wants, hg, hj, hd]; exact hy i
      | some d =>
        simp only [guardO, wants, hg, hj, hd]
        have key : ∀ w, lget fr d = w → Ok bad k (if isBool w want = true then u else v) (match w with
            | .bool b => Ab.tst D bad i b (bif want then x (i + 1) (lset fr d (.bool true)) else y (i + 1) (lset fr d (.bool true))) (bif want then y (i + 1) (lset fr d (.bool false)) else x (i + 1) (lset fr d (.bool false)))
            | _ => y i fr) := by
          intro w hv
          cases w with
          | bool b =>
            have hs := lset_same fr d b hv
            refine Ok.tst (fun hb => ?_) (fun hb => ?_)
            · subst hb
              rw [hs]
              cases want with
              | true => exact hx _
              | false => exact hy _
            · subst hb
              rw [hs]
              cases want with
              | true => exact hy _
              | false => exact hx _
          | _ => exact hy i
        exact key _ rfl

theorem evSeqO_fits {cfO : CfO A} {cf : FuncId → List Value → Heap → Ans} (hc : FitsCall bad cfO cf) (yl : Nat → List Value → Heap → Ans) (all : List Oper) :
    ∀ (os : List Oper) (fr : Fr) (h : Heap) (i : Nat), Fits bad (evSeqO E D bad cfO yl all os fr h i) (evSeq E cf yl all os fr h) := by
  intro os
  induction os with
  | nil => intro fr h i k; exact Ok.ret i _
  | cons o os ih =>
    intro fr h i k
    simp only [evSeqO, evSeq]
    refine guardO_ok all fr o i (fun i => ?_) (fun i => ih _ _ i k)
    refine (evOpO_fits hc yl fr h o.op i).then fun i => ?_
    cases evOp E cf yl fr h o.op with
    | none => exact Ok.ret i _
    | some x => exact ih _ _ i k

theorem evDrawO_fits {cfO : CfO A} {cf : FuncId → List Value → Heap → Ans} (hc : FitsCall bad cfO cf) (yl : Nat → List Value → Heap → Ans) (all : List Oper) (base : Nat) :
    ∀ (os : List (Oper × Nat)) (n : Nat) (s : RS) (i : Nat), Fits bad (evDrawO E D bad cfO yl all base os n s i) (evDraw E cf yl all base os n s) := by
  intro os
  induction os with
  | nil => intro n s i k; exact Ok.ret i _
  | cons ob os ih =>
    intro n s i k
    obtain ⟨o, bf⟩ := ob
    simp only [evDrawO, evDraw]
    refine guardO_ok all s.fr o i (fun i => ?_) (fun i => ih _ _ i k)
    cases kind E o.op with
    | pure =>
      simp only []
      refine (evReadO_fits s.fr s.h o.op i).then fun i => ?_
      cases evRead E s.fr s.h o.op with
      | none => exact Ok.ret i _
      | some v => exact ih _ _ i k
    | light =>
      simp only []
      cases evLight E s.fr (base + n) o.op with
      | none => exact Ok.ret i _
      | some x => exact ih _ _ i k
    | read =>
      simp only []
      cases evRead E s.fr (addPend bf s.pend s.h) o.op with
      | none => exact Ok.ret i _
      | some v =>
        simp only []
        exact Ok.tst (fun ht => by rw [if_pos ht]; exact ih _ _ _ k) (fun ht => by rw [ht, if_neg Bool.false_ne_true]; exact Ok.ret _ _)
    | heavy =>
      simp only [Bool.cond_eq_ite]
      by_cases hb : (s.snaps.all fun x => bf.testBit x.1) = true
      · simp only [if_pos hb]
        refine (evHeavyO_fits hc yl s.fr (addPend bf s.pend s.h) o.op i).then fun i => ?_
        cases evHeavy E cf yl s.fr (addPend bf s.pend s.h) o.op with
        | none => exact Ok.ret i _
        | some x =>
          obtain ⟨v, h'⟩ := x
          simp only []
          exact Ok.tst (fun ht => by rw [if_pos ht]; exact ih _ _ _ k) (fun ht => by rw [ht, if_neg Bool.false_ne_true]; exact Ok.ret _ _)
      · simp only [if_neg hb]
        exact Ok.ret i _

theorem evRegionO_fits {cfO : CfO A} {cf : FuncId → List Value → Heap → Ans} (hc : FitsCall bad cfO cf) (yl : Nat → List Value → Heap → Ans) (ops : Array Oper) (draw : Bool) (fr : Fr) (h : Heap) (i : Nat) : Fits bad (evRegionO E D bad cfO yl ops draw fr h i) (evRegion E cf yl ops draw fr h) := by
  intro k
  unfold evRegionO evRegion
  cases draw with
  | false => exact evSeqO_fits hc _ _ _ _ _ _ k
  | true =>
    simp only [cond_true, if_true]
    refine (evDrawO_fits hc yl ops.toList h.next _ 0 _ i).then fun i => ?_
    generalize evDraw E cf yl ops.toList h.next (ops.toList.zip (Region.before ops).toList) 0 _ = r
    cases r <;> exact Ok.ret i _

theorem loopNO_fits {bodyO : Fr → Heap → Nat → (Nat → Res → A) → A} {body : Fr → Heap → Res} (hb : ∀ fr h i, Fits bad (bodyO fr h i) (body fr h)) :
    ∀ (n : Nat) (fr : Fr) (h : Heap) (i : Nat), Fits bad (loopNO bodyO n fr h i) (loopN body n fr h) := by
  intro n
  induction n with
  | zero => intro fr h i k; exact Ok.ret i _
  | succ n ih =>
    intro fr h i k
    simp only [loopNO, loopN]
    refine (hb fr h i).then fun i => ?_
    generalize body fr h = r
    rcases r with _ | ⟨e, fr', h'⟩
    · exact Ok.ret i _
    · cases e <;> first | exact ih _ _ i k | exact Ok.ret i _

theorem scopeNO_fits {runO : RunO A} {run : Code → Fr → Heap → Res} (hr : FitsRun bad runO run) (body : Code) :
    ∀ (n : Nat) (fr : Fr) (h : Heap) (c : Code) (i : Nat), Fits bad (scopeNO runO body n fr h c i) (scopeN run body n fr h c) := by
  intro n
  induction n with
  | zero => intro fr h c i k; exact Ok.ret i _
  | succ n ih =>
    intro fr h c i k
    simp only [scopeNO, scopeN]
    refine (hr c fr h i).then fun i => ?_
    generalize run c fr h = r
    rcases r with _ | ⟨e, fr', h'⟩
    · exact Ok.ret i _
    · cases e with
      | goto l =>
        simp only []
        cases findLabel body l with
        | none => exact Ok.ret i _
        | some rest => exact ih _ _ _ i k
      | _ => exact Ok.ret i _

theorem evCodeO_fits {cfO : CfO A} {cf : FuncId → List Value → Heap → Ans} (hc : FitsCall bad cfO cf) (yl : Nat → List Value → Heap → Ans) {runO : RunO A} {run : Code → Fr → Heap → Res} (hr : FitsRun bad runO run) (n : Nat) :
    ∀ (c : Code) (fr : Fr) (h : Heap) (i : Nat), Fits bad (evCodeO E D bad cf cfO yl run runO n c fr h i) (evCode E cf yl run n c fr h) := by
  intro c
  induction c with
  | region id ops draw =>
    intro fr h i k
    simp only [evCodeO, evCode]
    refine (evRegionO_fits hc yl ops draw fr h i).then fun i => ?_
    generalize evRegion E cf yl ops draw fr h = r
    rcases r with _ | ⟨fr', h'⟩ <;> exact Ok.ret i _
  | seq a b iha ihb =>
    intro fr h i k
    simp only [evCodeO, evCode]
    refine (iha fr h i).then fun i => ?_
    generalize evCode E cf yl run n a fr h = r
    rcases r with _ | ⟨e, fr', h'⟩
    · exact Ok.ret i _
    · cases e <;> first | exact ihb _ _ i k | exact Ok.ret i _
  | cond c a b iha ihb =>
    intro fr h i k
    simp only [evCodeO, evCode]
    cases val fr c with
    | bool t =>
      refine Ok.tst (fun ht => ?_) (fun ht => ?_)
      · subst ht; exact iha _ _ _ k
      · subst ht; exact ihb _ _ _ k
    | _ => exact Ok.ret i _
  | block id b ih =>
    intro fr h i k
    simp only [evCodeO, evCode]
    refine (ih fr h i).then fun i => ?_
    generalize evCode E cf yl run n b fr h = r
    rcases r with _ | ⟨e, fr', h'⟩
    · exact Ok.ret i _
    · cases e with
      | exit j => simp only []; cases Nat.beq j id <;> exact Ok.ret i _
      | _ => exact Ok.ret i _
  | loop b ih =>
    intro fr h i k
    exact loopNO_fits ih n fr h i k
  | scope b ih =>
    intro fr h i k
    exact scopeNO_fits hr b n fr h b i k
  | _ => intro fr h i k; exact Ok.ret i _

theorem evBodyO_fits {runO : RunO A} {run : Code → Fr → Heap → Res} (hr : FitsRun bad runO run) (fn : Func) (args : List Value) (h : Heap) (i : Nat) : Fits bad (evBodyO E runO fn args h i) (evBody E run fn args h) := by
  intro k
  unfold evBodyO evBody
  cases fn.body with
  | none => exact Ok.ret i _
  | some c =>
    simp only []
    exact (hr c _ h i).then fun i => Ok.ret i _

theorem runO_fits : ∀ n : Nat, FitsRun bad (runO E D bad n) (run E n) := by
  intro n
  induction n with
  | zero => intro c fr h i k; exact Ok.ret i _
  | succ n ih =>
    intro c fr h i k
    refine evCodeO_fits (cf := callN E n) (fun f args h i k => ?_) _ ih n c fr h i k
    unfold callN
    cases E.fn f with
    | none => exact Ok.ret i _
    | some fn => exact evBodyO_fits ih fn args h i k

theorem evO_fits (n : Nat) (f : FuncId) (args : List Value) (h : Heap) (i : Nat) : Fits bad (evO E D bad n f args h i) (ev E n f args h) := by
  intro k
  unfold evO ev
  cases E.fn f with
  | none => exact Ok.ret i _
  | some fn => exact evBodyO_fits (runO_fits n) fn args h i k

/-- What is true of the answer that is come to. -/
theorem evO_true {D : Nat → Option Bool} {n : Nat} {f : FuncId} {args : List Value} {h : Heap} {good : Ans → Bool} (hev : evO E D false n f args h 0 (fun _ => good) = true) : good (ev E n f args h) = true := by
  rcases evO_fits (E := E) (D := D) (bad := false) n f args h 0 (fun _ => good) with ⟨i, e⟩ | e
  · have e : _ = good (ev E n f args h) := e
    rw [← e]; exact hev
  · rw [e] at hev; cases hev
end
end Go.Ab
