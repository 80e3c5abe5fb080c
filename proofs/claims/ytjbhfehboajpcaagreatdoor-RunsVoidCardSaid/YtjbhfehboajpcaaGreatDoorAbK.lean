/-
  The abstract evaluator, with continuations: a test of which the outcome is open parts the whole rest. It comes to what the evaluator comes to.
-/
import Derived.Test.YtjbhfehboajpcaaGreatDoorAbDefs
namespace Go.Ab
open Go

section
variable (E : Env) {A : Type}

/-- A call, with what is done with its answer. -/
abbrev CfK (A : Type) := FuncId → List Value → Heap → (Ans → A) → A

def priK : Pri → (Ans → A) → A → A
  | .ans v h, k, _ => k (some (v, h))
  | .fail, k, _ => k none
  | .walk, _, w => w
  | .test b x y, k, w => bif b then priK x k w else priK y k w

def evCallFnK (cfK : CfK A) (f : FuncId) (args : List Value) (h : Heap) (k : Ans → A) : A := priK (primOf E f args h) k
  (match E.ext f with
    | some e => k (extern E h e args)
    | none => cfK f args h k)

def evInvokeK (cfK : CfK A) (yl : Nat → List Value → Heap → Ans) (f : Value) (args : List Value) (h : Heap) (k : Ans → A) : A := match f with
  | .func (.func g) first cap => evCallFnK E cfK g (first.toList ++ args ++ cap.toList) h k
  | .func (.yield l) first _ => k (yl l (first.toList ++ args) h)
  | .func (.method name) first _ => match first.toList ++ args with
    | .iface t v :: rest => match methodOf E h t v name with
      | some (g, r) => evCallFnK E cfK g (r :: rest) h k
      | none => k none
    | _ => k none
  | _ => k none

def evHeavyK (cfK : CfK A) (yl : Nat → List Value → Heap → Ans) (fr : Fr) (h : Heap) (o : Op) (k : Ans → A) : A := match o with
  | .call c => match c.callee with
    | .value f => evInvokeK E cfK yl (val fr f) (c.args.toList.map (val fr)) h k
    | .invoke r name => match val fr r with
      | .iface t v => match methodOf E h t v name with
        | some (g, rc) => evCallFnK E cfK g (rc :: c.args.toList.map (val fr)) h k
        | none => k none
      | _ => k none
    | _ => k (evHeavy E (fun _ _ _ => none) yl fr h o)
  | _ => k (evHeavy E (fun _ _ _ => none) yl fr h o)

/-- Operations that read at most: a choice parts the rest. -/
def evReadK (fr : Fr) (h : Heap) (o : Op) (k : Option Value → A) : A := match o with
  | .pick c a b => match val fr c with
    | .bool t => bif t then k (some (val fr a)) else k (some (val fr b))
    | _ => k none
  | o => k (evRead E fr h o)

def evOpK (cfK : CfK A) (yl : Nat → List Value → Heap → Ans) (fr : Fr) (h : Heap) (o : Op) (k : Ans → A) : A := match kind E o with
  | .heavy => evHeavyK E cfK yl fr h o k
  | .light => match evLight E fr h.next o with | some (v, b) => k (some (v, h.push b)) | none => k none
  | _ => evReadK E fr h o fun
    | some v => k (some (v, h))
    | none => k none

/-- Is an operation wanted? The one way, or the other one; the outcome is laid into the frame. -/
def guardK (ops : List Oper) (fr : Fr) (o : Oper) (x y : Fr → A) : A := match o.guard with
  | none => x fr
  | some (j, want) => match ops[j]? with
    | some oj => match oj.dst with
      | some d => match lget fr d with
        | .bool b => bif b then (bif want then x (lset fr d (.bool true)) else y (lset fr d (.bool true))) else (bif want then y (lset fr d (.bool false)) else x (lset fr d (.bool false)))
        | _ => y fr
      | none => y fr
    | none => y fr

def evSeqK (cfK : CfK A) (yl : Nat → List Value → Heap → Ans) (all : List Oper) : List Oper → Fr → Heap → (Option (Fr × Heap) → A) → A
  | [], fr, h, k => k (some (fr, h))
  | o :: os, fr, h, k => guardK all fr o
      (fun fr => evOpK E cfK yl fr h o.op fun
        | some (v, h') => evSeqK cfK yl all os (put fr o.dst v) h' k
        | none => k none)
      (fun fr => evSeqK cfK yl all os (put fr o.dst undef) h k)

def evDrawK (cfK : CfK A) (yl : Nat → List Value → Heap → Ans) (all : List Oper) (base : Nat) : List (Oper × Nat) → Nat → RS → (Option RS → A) → A
  | [], _, s, k => k (some s)
  | (o, bf) :: os, i, s, k => guardK all s.fr o
      (fun fr => match kind E o.op with
      | .pure => evReadK E fr s.h o.op fun
        | some v => evDrawK cfK yl all base os (i + 1) { s with fr := put fr o.dst v } k
        | none => k none
      | .light => match evLight E fr (base + i) o.op with
        | some (v, b) => evDrawK cfK yl all base os (i + 1) { s with fr := put fr o.dst v, pend := ⟨i, base + i, b⟩ :: s.pend } k
        | none => k none
      | .read => match evRead E fr (addPend bf s.pend s.h) o.op with
        | some v => bif s.snaps.all (fun x => bf.testBit x.1 || sameAt E bf s.pend fr o.op v x.2) then
            evDrawK cfK yl all base os (i + 1) { s with fr := put fr o.dst v, reads := ⟨i, bf, fr, o.op, v⟩ :: s.reads } k
          else k none
        | none => k none
      | .heavy => bif s.snaps.all (fun x => bf.testBit x.1) then
          evHeavyK E cfK yl fr (addPend bf s.pend s.h) o.op fun
            | some (v, h') => bif s.reads.all (fun q => bf.testBit q.at_ || sameAt E q.before (dropPend bf s.pend) q.fr q.op q.v h') then
                evDrawK cfK yl all base os (i + 1) { fr := put fr o.dst v, h := h', pend := dropPend bf s.pend, snaps := (i, s.h) :: s.snaps, reads := s.reads } k
              else k none
            | none => k none
        else k none)
      (fun fr => evDrawK cfK yl all base os (i + 1) { s with fr := put fr o.dst undef } k)

def evRegionK (cfK : CfK A) (yl : Nat → List Value → Heap → Ans) (ops : Array Oper) (draw : Bool) (fr : Fr) (h : Heap) (k : Option (Fr × Heap) → A) : A :=
  bif draw then
    evDrawK E cfK yl ops.toList h.next (ops.toList.zip (Region.before ops).toList) 0 { fr, h := { h with next := h.next + ops.size }, pend := [], snaps := [], reads := [] } fun
    | some s => k (some (s.fr, allPend s.pend s.h))
    | none => k none
  else evSeqK E cfK yl ops.toList ops.toList fr h k

abbrev RunK (A : Type) := Code → Fr → Heap → (Res → A) → A

def loopNK (body : Fr → Heap → (Res → A) → A) : Nat → Fr → Heap → (Res → A) → A
  | 0, _, _, k => k none
  | n + 1, fr, h, k => body fr h fun
    | some (.normal, fr', h') => loopNK body n fr' h' k
    | r => k r

def scopeNK (run : RunK A) (body : Code) : Nat → Fr → Heap → Code → (Res → A) → A
  | 0, _, _, _, k => k none
  | n + 1, fr, h, c, k => run c fr h fun
    | some (.goto l, fr', h') => match findLabel body l with
      | some rest => scopeNK run body n fr' h' rest k
      | none => k (some (.goto l, fr', h'))
    | r => k r

def evCodeK (cf : FuncId → List Value → Heap → Ans) (cfK : CfK A) (yl : Nat → List Value → Heap → Ans) (run : Code → Fr → Heap → Res) (runK : RunK A) (n : Nat) : Code → Fr → Heap → (Res → A) → A
  | .skip, fr, h, k => k (some (.normal, fr, h))
  | .region _ ops draw, fr, h, k => evRegionK E cfK yl ops draw fr h fun
    | some (fr', h') => k (some (.normal, fr', h'))
    | none => k none
  | .seq a b, fr, h, k => evCodeK cf cfK yl run runK n a fr h fun
    | some (.normal, fr', h') => evCodeK cf cfK yl run runK n b fr' h' k
    | r => k r
  | .cond c a b, fr, h, k => match val fr c with
    | .bool t => bif t then evCodeK cf cfK yl run runK n a fr h k else evCodeK cf cfK yl run runK n b fr h k
    | _ => k none
  | .block id b, fr, h, k => evCodeK cf cfK yl run runK n b fr h fun
    | some (.exit j, fr', h') => bif Nat.beq j id then k (some (.normal, fr', h')) else k (some (.exit j, fr', h'))
    | r => k r
  | .loop b, fr, h, k => loopNK (evCodeK cf cfK yl run runK n b) n fr h k
  | .rangeFunc f ps as body, fr, h, k => k (evCode E cf yl run n (.rangeFunc f ps as body) fr h)
  | .exit id, fr, h, k => k (some (.exit id, fr, h))
  | .scope b, fr, h, k => scopeNK runK b n fr h b k
  | .label _, fr, h, k => k (some (.normal, fr, h))
  | .goto l, fr, h, k => k (some (.goto l, fr, h))
  | .ret, fr, h, k => k (some (.ret, fr, h))
  | .refuse _, _, _, k => k none

/-- What a function answers, out of the end of its code. -/
def ansOf (fn : Func) : Res → Ans
  | some (.normal, fr', h') | some (.ret, fr', h') => match resultsOf E fr' h' fn.results.toList with
    | some [v] => some (v, h')
    | some vs => some (.tuple vs.toArray, h')
    | none => none
  | _ => none

def evBodyK (run : RunK A) (fn : Func) (args : List Value) (h : Heap) (k : Ans → A) : A := match fn.body with
  | none => k none
  | some c => run c (frOf args fn.ntmps) h fun r => k (ansOf E fn r)

def callN (n : Nat) (f : FuncId) (args : List Value) (h : Heap) : Ans := match E.fn f with | some fn => evBody E (run E n) fn args h | none => none

def runK : Nat → RunK A
  | 0 => fun _ _ _ k => k none
  | n + 1 => evCodeK E (callN E n) (fun f args h k => match E.fn f with | some fn => evBodyK E (runK n) fn args h k | none => k none) (evYield (run E n)) (run E n) (runK n) n

def evK (n : Nat) (f : FuncId) (args : List Value) (h : Heap) (k : Ans → A) : A := match E.fn f with
  | some fn => evBodyK E (runK E n) fn args h k
  | none => k none

/-! ### It comes to the same -/
variable {E}

theorem priK_eq (k : Ans → A) (w : A) : ∀ p : Pri, priK p k w = match p.out with | some r => k r | none => w := by
  intro p
  induction p with
  | ans v h => rfl
  | fail => rfl
  | walk => rfl
  | test b x y ihx ihy => cases b <;> simp only [priK, Pri.out, cond_true, cond_false, ihx, ihy]

theorem evCallFnK_eq {cfK : CfK A} {cf : FuncId → List Value → Heap → Ans} (hc : ∀ f args h k, cfK f args h k = k (cf f args h)) (f : FuncId) (args : List Value) (h : Heap) (k : Ans → A) :
    evCallFnK E cfK f args h k = k (evCallFn E cf f args h) := by
  unfold evCallFnK evCallFn
  rw [priK_eq]
  cases (primOf E f args h).out with
  | some r => rfl
  | none => cases E.ext f with
    | some e => rfl
    | none => exact hc _ _ _ _

theorem evInvokeK_eq {cfK : CfK A} {cf : FuncId → List Value → Heap → Ans} (hc : ∀ f args h k, cfK f args h k = k (cf f args h)) (yl : Nat → List Value → Heap → Ans) (f : Value) (args : List Value) (h : Heap) (k : Ans → A) :
    evInvokeK E cfK yl f args h k = k (evInvoke E cf yl f args h) := by
  cases f with
  | func fn first cap => cases fn with
    | func g => exact evCallFnK_eq hc _ _ _ _
    | yield l => rfl
    | method name =>
      simp only [evInvokeK, evInvoke]
      generalize first.toList ++ args = al
      cases al with
      | nil => rfl
      | cons x rest => cases x with
        | iface t v =>
          simp only []
          cases methodOf E h t v name with
          | none => rfl
          | some x => exact evCallFnK_eq hc _ _ _ _
        | _ => rfl
    | _ => rfl
  | _ => rfl

theorem evHeavyK_eq {cfK : CfK A} {cf : FuncId → List Value → Heap → Ans} (hc : ∀ f args h k, cfK f args h k = k (cf f args h)) (yl : Nat → List Value → Heap → Ans) (fr : Fr) (h : Heap) (o : Op) (k : Ans → A) :
    evHeavyK E cfK yl fr h o k = k (evHeavy E cf yl fr h o) := by
  cases o with
  | call c =>
    obtain ⟨callee, args, ats⟩ := c
    cases callee with
    | value f => exact evInvokeK_eq hc _ _ _ _ _
    | invoke r name =>
      simp only [evHeavyK, evHeavy]
      cases val fr r with
      | iface t v =>
        simp only []
        cases methodOf E h t v name with
        | none => rfl
        | some x => exact evCallFnK_eq hc _ _ _ _
      | _ => rfl
    | builtin b => cases b <;> rfl
  | next it s => cases s <;> rfl
  | _ => rfl

theorem evReadK_eq (fr : Fr) (h : Heap) (o : Op) (k : Option Value → A) : evReadK E fr h o k = k (evRead E fr h o) := by
  cases o with
  | pick c a b =>
    simp only [evReadK, evRead]
    cases val fr c <;> first | rfl | (rename_i t; cases t <;> rfl)
  | _ => rfl

theorem evOpK_eq {cfK : CfK A} {cf : FuncId → List Value → Heap → Ans} (hc : ∀ f args h k, cfK f args h k = k (cf f args h)) (yl : Nat → List Value → Heap → Ans) (fr : Fr) (h : Heap) (o : Op) (k : Ans → A) :
    evOpK E cfK yl fr h o k = k (evOp E cf yl fr h o) := by
  unfold evOpK evOp
  cases kind E o with
  | heavy => exact evHeavyK_eq hc _ _ _ _ _
  | light => simp only []; cases evLight E fr h.next o with
    | none => rfl
    | some x => rfl
  | pure => simp only [evReadK_eq]; cases evRead E fr h o <;> rfl
  | read => simp only [evReadK_eq]; cases evRead E fr h o <;> rfl

theorem Tr.set_same {α : Type} : ∀ (f : Nat) (t : Tr α) (n : Nat) (x : α), t.get n = some x → Tr.setF f t n x = t := by
  intro f
  induction f with
  | zero => intro t n x _; rfl
  | succ f ih =>
    intro t n x h
    cases t with
    | nil => cases h
    | node v l r =>
      simp only [Tr.get] at h
      simp only [Tr.setF]
      cases h0 : Nat.beq n 0 with
      | true => rw [h0] at h; simp only [cond_true] at h ⊢; rw [h]
      | false =>
        rw [h0] at h
        simp only [cond_false] at h ⊢
        cases h1 : Nat.beq (n % 2) 1 with
        | true => rw [h1] at h; simp only [cond_true] at h ⊢; rw [ih _ _ _ h]
        | false => rw [h1] at h; simp only [cond_false] at h ⊢; rw [ih _ _ _ h]

/-- What stands there is laid there. -/
theorem lset_same (fr : Fr) (t : Nat) (b : Bool) (h : lget fr t = .bool b) : lset fr t (.bool b) = fr := by
  unfold lget at h
  unfold lset
  cases hb : Nat.blt t fr.n with
  | false => rfl
  | true =>
    rw [hb] at h
    simp only [cond_true] at h ⊢
    split at h
    · rename_i v hv
      subst h
      have : fr.tr.set t (.bool b) = fr.tr := Tr.set_same _ _ _ _ hv
      rw [this]
    · cases h

theorem guardK_eq (ops : List Oper) (fr : Fr) (o : Oper) (x y : Fr → A) : guardK ops fr o x y = if wants ops fr o then x fr else y fr := by
  cases hg : o.guard with
  | none => simp [guardK, wants, hg]
  | some g =>
    obtain ⟨j, want⟩ := g
    cases hj : ops[j]? with
    | none => simp [guardK, wants, hg, hj]
    | some oj =>
      cases hd : oj.dst with
      | none => simp [guardK, wants, hg, hj, hd]
      | some d =>
        simp only [guardK, wants, hg, hj, hd]
        have key : ∀ v, lget fr d = v → (match v with
            | .bool b => bif b then (bif want then x (lset fr d (.bool true)) else y (lset fr d (.bool true))) else (bif want then y (lset fr d (.bool false)) else x (lset fr d (.bool false)))
            | _ => y fr) = if isBool v want = true then x fr else y fr := by
          intro v hv
          cases v with
          | bool b =>
            have := lset_same fr d b hv
            cases b <;> cases want <;> simp [isBool, this]
          | _ => rfl
        exact key _ rfl

theorem evSeqK_eq {cfK : CfK A} {cf : FuncId → List Value → Heap → Ans} (hc : ∀ f args h k, cfK f args h k = k (cf f args h)) (yl : Nat → List Value → Heap → Ans) (all : List Oper) :
    ∀ (os : List Oper) (fr : Fr) (h : Heap) (k : Option (Fr × Heap) → A), evSeqK E cfK yl all os fr h k = k (evSeq E cf yl all os fr h) := by
  intro os
  induction os with
  | nil => intro fr h k; rfl
  | cons o os ih =>
    intro fr h k
    simp only [evSeqK, evSeq, guardK_eq, evOpK_eq hc, ih]
    split
    · cases evOp E cf yl fr h o.op <;> rfl
    · rfl

theorem evDrawK_eq {cfK : CfK A} {cf : FuncId → List Value → Heap → Ans} (hc : ∀ f args h k, cfK f args h k = k (cf f args h)) (yl : Nat → List Value → Heap → Ans) (all : List Oper) (base : Nat) :
    ∀ (os : List (Oper × Nat)) (i : Nat) (s : RS) (k : Option RS → A), evDrawK E cfK yl all base os i s k = k (evDraw E cf yl all base os i s) := by
  intro os
  induction os with
  | nil => intro i s k; rfl
  | cons ob os ih =>
    intro i s k
    obtain ⟨o, bf⟩ := ob
    simp only [evDrawK, evDraw, guardK_eq, evReadK_eq, evHeavyK_eq hc, ih, Bool.cond_eq_ite]
    split
    · cases kind E o.op with
      | pure => simp only []; cases evRead E s.fr s.h o.op <;> rfl
      | light => simp only []; cases evLight E s.fr (base + i) o.op <;> rfl
      | read =>
        simp only []
        cases evRead E s.fr (addPend bf s.pend s.h) o.op with
        | none => rfl
        | some v => simp only []; split <;> rfl
      | heavy =>
        simp only []
        split
        · cases evHeavy E cf yl s.fr (addPend bf s.pend s.h) o.op with
          | none => rfl
          | some x => simp only []; split <;> rfl
        · rfl
    · rfl

theorem evRegionK_eq {cfK : CfK A} {cf : FuncId → List Value → Heap → Ans} (hc : ∀ f args h k, cfK f args h k = k (cf f args h)) (yl : Nat → List Value → Heap → Ans) (ops : Array Oper) (draw : Bool) (fr : Fr) (h : Heap) (k : Option (Fr × Heap) → A) :
    evRegionK E cfK yl ops draw fr h k = k (evRegion E cf yl ops draw fr h) := by
  unfold evRegionK evRegion
  cases draw with
  | false => exact evSeqK_eq hc _ _ _ _ _ _
  | true =>
    simp only [cond_true, if_true, evDrawK_eq hc]
    generalize evDraw E cf yl ops.toList h.next (ops.toList.zip (Region.before ops).toList) 0 _ = r
    cases r <;> rfl

theorem loopNK_eq {bodyK : Fr → Heap → (Res → A) → A} {body : Fr → Heap → Res} (hb : ∀ fr h k, bodyK fr h k = k (body fr h)) :
    ∀ (n : Nat) (fr : Fr) (h : Heap) (k : Res → A), loopNK bodyK n fr h k = k (loopN body n fr h) := by
  intro n
  induction n with
  | zero => intro fr h k; rfl
  | succ n ih =>
    intro fr h k
    simp only [loopNK, loopN, hb, ih]
    generalize body fr h = r
    rcases r with _ | ⟨e, fr', h'⟩
    · rfl
    · cases e <;> rfl

theorem scopeNK_eq {runK : RunK A} {run : Code → Fr → Heap → Res} (hr : ∀ c fr h k, runK c fr h k = k (run c fr h)) (body : Code) :
    ∀ (n : Nat) (fr : Fr) (h : Heap) (c : Code) (k : Res → A), scopeNK runK body n fr h c k = k (scopeN run body n fr h c) := by
  intro n
  induction n with
  | zero => intro fr h c k; rfl
  | succ n ih =>
    intro fr h c k
    simp only [scopeNK, scopeN, hr, ih]
    generalize run c fr h = r
    rcases r with _ | ⟨e, fr', h'⟩
    · rfl
    · cases e with
      | goto l => simp only []; cases findLabel body l <;> rfl
      | _ => rfl

theorem evCodeK_eq {cfK : CfK A} {cf : FuncId → List Value → Heap → Ans} (hc : ∀ f args h k, cfK f args h k = k (cf f args h)) (yl : Nat → List Value → Heap → Ans) {runK : RunK A} {run : Code → Fr → Heap → Res} (hr : ∀ c fr h k, runK c fr h k = k (run c fr h)) (n : Nat) :
    ∀ (c : Code) (fr : Fr) (h : Heap) (k : Res → A), evCodeK E cf cfK yl run runK n c fr h k = k (evCode E cf yl run n c fr h) := by
  intro c
  induction c with
  | region id ops draw =>
    intro fr h k
    simp only [evCodeK, evCode, evRegionK_eq hc]
    generalize evRegion E cf yl ops draw fr h = r
    rcases r with _ | ⟨fr', h'⟩ <;> rfl
  | seq a b iha ihb =>
    intro fr h k
    simp only [evCodeK, evCode, iha, ihb]
    generalize evCode E cf yl run n a fr h = r
    rcases r with _ | ⟨e, fr', h'⟩
    · rfl
    · cases e <;> rfl
  | cond c a b iha ihb =>
    intro fr h k
    simp only [evCodeK, evCode, iha, ihb]
    cases val fr c <;> first | rfl | (rename_i t; cases t <;> rfl)
  | block id b ih =>
    intro fr h k
    simp only [evCodeK, evCode, ih]
    generalize evCode E cf yl run n b fr h = r
    rcases r with _ | ⟨e, fr', h'⟩
    · rfl
    · cases e with
      | exit j => simp only []; cases Nat.beq j id <;> rfl
      | _ => rfl
  | loop b ih =>
    intro fr h k
    exact loopNK_eq ih n fr h k
  | scope b ih =>
    intro fr h k
    exact scopeNK_eq hr b n fr h b k
  | _ => intro fr h k; rfl

theorem evBodyK_eq {runK : RunK A} {run : Code → Fr → Heap → Res} (hr : ∀ c fr h k, runK c fr h k = k (run c fr h)) (fn : Func) (args : List Value) (h : Heap) (k : Ans → A) : evBodyK E runK fn args h k = k (evBody E run fn args h) := by
  unfold evBodyK evBody
  cases fn.body with
  | none => rfl
  | some c =>
    simp only [hr]
    congr 1

theorem runK_eq : ∀ (n : Nat) (c : Code) (fr : Fr) (h : Heap) (k : Res → A), runK E n c fr h k = k (run E n c fr h) := by
  intro n
  induction n with
  | zero => intro c fr h k; rfl
  | succ n ih =>
    intro c fr h k
    simp only [runK, run]
    refine evCodeK_eq (cf := callN E n) (fun f args h k => ?_) _ ih n c fr h k
    unfold callN
    cases E.fn f with
    | none => rfl
    | some fn => exact evBodyK_eq ih fn args h k

theorem evK_eq (n : Nat) (f : FuncId) (args : List Value) (h : Heap) (k : Ans → A) : evK E n f args h k = k (ev E n f args h) := by
  unfold evK ev
  cases E.fn f with
  | none => rfl
  | some fn => exact evBodyK_eq (runK_eq n) fn args h k
end
end Go.Ab
