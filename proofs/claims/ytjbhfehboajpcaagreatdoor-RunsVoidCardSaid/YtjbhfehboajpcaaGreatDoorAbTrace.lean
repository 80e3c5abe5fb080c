/-
  The abstract evaluator: the steps of a drawn region, in the order of the text.
-/
import Derived.Test.YtjbhfehboajpcaaGreatDoorAbDraw
namespace Go.Ab
open Go

/-! ### What stands before an operation -/
def beforeOf (acc : Array Nat) (o : Oper) : Nat := o.after.foldl (fun s e => if Region.binds .any e then s ||| 2 ^ e.on ||| acc.getD e.on 0 else s) 0
def beforeL (l : List Oper) : Array Nat := l.foldl (fun acc o => acc.push (beforeOf acc o)) #[]

theorem before_eq (ops : Array Oper) : Region.before ops = beforeL ops.toList := by
  unfold Region.before beforeL
  rw [← Array.foldl_toList]; rfl

theorem beforeL_snoc (l : List Oper) (o : Oper) : beforeL (l ++ [o]) = (beforeL l).push (beforeOf (beforeL l) o) := by
  simp [beforeL]

theorem foldl_size : ∀ (l : List Oper) (acc : Array Nat), (l.foldl (fun acc o => acc.push (beforeOf acc o)) acc).size = acc.size + l.length := by
  intro l
  induction l with
  | nil => intro acc; simp
  | cons o l ih => intro acc; simp only [List.foldl_cons, ih, Array.size_push, List.length_cons]; omega

theorem foldl_keep : ∀ (l : List Oper) (acc : Array Nat) (i : Nat), i < acc.size → (l.foldl (fun acc o => acc.push (beforeOf acc o)) acc).getD i 0 = acc.getD i 0 := by
  intro l
  induction l with
  | nil => intro acc i _; rfl
  | cons o l ih =>
    intro acc i hi
    simp only [List.foldl_cons]
    rw [ih _ i (by simp; omega)]
    simp [Array.getElem?_push_lt hi, hi]

theorem beforeL_size (l : List Oper) : (beforeL l).size = l.length := by simp [beforeL, foldl_size]

theorem beforeL_keep (l m : List Oper) (i : Nat) (hi : i < l.length) : (beforeL (l ++ m)).getD i 0 = (beforeL l).getD i 0 := by
  unfold beforeL
  rw [List.foldl_append]
  exact foldl_keep m _ i (by have := beforeL_size l; unfold beforeL at this; omega)

theorem foldl_bit (acc : Array Nat) (k : Nat) : ∀ (es : List Edge) (s : Nat),
    (es.foldl (fun s e => if Region.binds .any e then s ||| 2 ^ e.on ||| acc.getD e.on 0 else s) s).testBit k = true ↔ s.testBit k = true ∨ ∃ e ∈ es, Region.binds .any e = true ∧ (e.on = k ∨ (acc.getD e.on 0).testBit k = true) := by
  intro es
  induction es with
  | nil => intro s; simp
  | cons e es ih =>
    intro s
    rw [List.foldl_cons, ih]
    by_cases hb : Region.binds .any e = true
    · simp only [hb, if_true, Nat.testBit_or, Nat.testBit_two_pow, Bool.or_eq_true, decide_eq_true_eq, List.mem_cons, exists_eq_or_imp, true_and]
      constructor
      · rintro (((h | h) | h) | h)
        · exact .inl h
        · exact .inr (.inl (.inl h))
        · exact .inr (.inl (.inr h))
        · exact .inr (.inr h)
      · rintro (h | (h | h) | h)
        · exact .inl (.inl (.inl h))
        · exact .inl (.inl (.inr h))
        · exact .inl (.inr h)
        · exact .inr h
    · simp [hb]

def bfOf (ops : Array Oper) (i : Nat) : Nat := (Region.before ops).getD i 0

theorem bfOf_bit {ops : Array Oper} {i : Nat} {o : Oper} (ho : ops[i]? = some o) (he : ∀ e ∈ o.after, Region.binds .any e = true → e.on < i) (k : Nat) :
    (bfOf ops i).testBit k = true ↔ ∃ e ∈ o.after, Region.binds .any e = true ∧ (e.on = k ∨ (bfOf ops e.on).testBit k = true) := by
  obtain ⟨L, R, hsplit, hlen⟩ : ∃ L R, ops.toList = (L ++ [o]) ++ R ∧ L.length = i := by
    have hi : i < ops.toList.length := by simpa using (Array.getElem?_eq_some_iff.1 ho).1
    refine ⟨ops.toList.take i, ops.toList.drop (i + 1), ?_, by simp; simp at hi; omega⟩
    have h1 : ops.toList[i] = o := by
      have := (Array.getElem?_eq_some_iff.1 ho).2
      simpa using this
    have h2 : ops.toList.take (i + 1) = ops.toList.take i ++ [o] := by rw [List.take_succ_eq_append_getElem hi, h1]
    rw [← h2, List.take_append_drop]
  have hbf : bfOf ops i = beforeOf (beforeL L) o := by
    unfold bfOf
    rw [before_eq, hsplit, beforeL_keep _ _ i (by simp [hlen]), beforeL_snoc]
    have : (beforeL L).size = i := by rw [beforeL_size, hlen]
    have h := Array.getElem?_push_size (xs := beforeL L) (x := beforeOf (beforeL L) o)
    rw [this] at h
    simp [Array.getD_eq_getD_getElem?, h]
  have hlow : ∀ j, j < i → bfOf ops j = (beforeL L).getD j 0 := fun j hj => by
    unfold bfOf
    rw [before_eq, hsplit, List.append_assoc, beforeL_keep _ _ j (by omega)]
  rw [hbf]
  unfold beforeOf
  rw [← Array.foldl_toList, foldl_bit]
  constructor
  · rintro (h | ⟨e, h1, h2, h3⟩)
    · simp at h
    · refine ⟨e, by simpa using h1, h2, ?_⟩
      rwa [hlow e.on (he e (by simpa using h1) h2)]
  · rintro ⟨e, h1, h2, h3⟩
    refine .inr ⟨e, by simpa using h1, h2, ?_⟩
    rwa [hlow e.on (he e h1 h2)] at h3

/-- What is asked of a drawn region. -/
structure OkDraw (ops : Array Oper) : Prop where
  edge : ∀ i o e, ops[i]? = some o → e ∈ o.after → Region.binds .any e = true → e.on < i
  apart : ∀ i j oi oj, j < i → ops[i]? = some oi → ops[j]? = some oj → (bfOf ops i).testBit j = true ∨ oj.apart ops oi = true

theorem OkDraw.lt {ops : Array Oper} (hok : OkDraw ops) : ∀ (i k : Nat), i < ops.size → (bfOf ops i).testBit k = true → k < i := by
  intro i
  induction i using Nat.strongRecOn with
  | _ i ih =>
    intro k hi hb
    have ho : ops[i]? = some ops[i] := Array.getElem?_eq_getElem hi
    obtain ⟨e, h1, h2, h3⟩ := (bfOf_bit ho (fun e h => hok.edge i _ e ho h) k).1 hb
    have hlt := hok.edge i _ e ho h1 h2
    rcases h3 with h3 | h3
    · omega
    · have := ih e.on hlt k (by omega) h3
      omega

/-! ### Frames -/
theorem put_n (fr : Fr) (d : Option Tmp) (v : Value) : (put fr d v).n = fr.n := by
  cases d with
  | none => rfl
  | some t => exact lset_n fr t v

theorem lget_put_ne {fr : Fr} {d : Option Tmp} {v : Value} {x : Nat} (h : d ≠ some x) : lget (put fr d v) x = lget fr x := by
  cases d with
  | none => rfl
  | some t =>
    have : x ≠ t := fun e => h (by rw [e])
    simp [put, lget_lset, this]

theorem lget_put_same {fr fr' : Fr} {v : Value} {x : Nat} (h : fr.n = fr'.n) : lget (put fr (some x) v) x = lget (put fr' (some x) v) x := by
  simp only [put, lget_lset]
  by_cases hx : x < fr.n
  · rw [if_pos ⟨trivial, hx⟩, if_pos ⟨trivial, by omega⟩]
  · rw [if_neg (by omega), if_neg (by omega), lget_out hx, lget_out (by omega)]

/-! ### Steps -/
section
variable (E : Env) (cf : FuncId → List Value → Heap → Ans) (yl : Nat → List Value → Heap → Ans)

inductive Step (all : List Oper) (base i bf : Nat) (o : Oper) (s : RS) : Value → RS → Prop where
  | skip (hw : wants all s.fr o = false) : Step all base i bf o s undef { s with fr := put s.fr o.dst undef }
  | pure {v : Value} (hw : wants all s.fr o = true) (hk : kind E o.op = .pure) (he : evRead E s.fr s.h o.op = some v) : Step all base i bf o s v { s with fr := put s.fr o.dst v }
  | light {v : Value} {b : Blk} (hw : wants all s.fr o = true) (hk : kind E o.op = .light) (he : evLight E s.fr (base + i) o.op = some (v, b)) : Step all base i bf o s v { s with fr := put s.fr o.dst v, pend := ⟨i, base + i, b⟩ :: s.pend }
  | read {v : Value} (hw : wants all s.fr o = true) (hk : kind E o.op = .read) (he : evRead E s.fr (addPend bf s.pend s.h) o.op = some v) (hs : ∀ x ∈ s.snaps, bf.testBit x.1 = true ∨ sameAt E bf s.pend s.fr o.op v x.2 = true) :
      Step all base i bf o s v { s with fr := put s.fr o.dst v, reads := ⟨i, bf, s.fr, o.op, v⟩ :: s.reads }
  | heavy {v : Value} {h' : Heap} (hw : wants all s.fr o = true) (hk : kind E o.op = .heavy) (hs : ∀ x ∈ s.snaps, bf.testBit x.1 = true) (he : evHeavy E cf yl s.fr (addPend bf s.pend s.h) o.op = some (v, h'))
      (hq : ∀ q ∈ s.reads, bf.testBit q.at_ = true ∨ sameAt E q.before (dropPend bf s.pend) q.fr q.op q.v h' = true) :
      Step all base i bf o s v { fr := put s.fr o.dst v, h := h', pend := dropPend bf s.pend, snaps := (i, s.h) :: s.snaps, reads := s.reads }

theorem evDraw_steps (all : List Oper) (base : Nat) : ∀ (l : List (Oper × Nat)) (i : Nat) (s s' : RS), evDraw E cf yl all base l i s = some s' →
    ∃ (st : Nat → RS) (v : Nat → Value), st i = s ∧ st (i + l.length) = s' ∧ ∀ k o b, l[k]? = some (o, b) → Step E cf yl all base (i + k) b o (st (i + k)) (v (i + k)) (st (i + k + 1)) := by
  intro l
  induction l with
  | nil => intro i s s' h; cases h; exact ⟨fun _ => s, fun _ => undef, rfl, rfl, fun k o b h => by simp at h⟩
  | cons ob l ih =>
    intro i s s' h
    obtain ⟨o, bf⟩ := ob
    have key : ∀ {v s1}, Step E cf yl all base i bf o s v s1 → evDraw E cf yl all base l (i + 1) s1 = some s' → ∃ (st : Nat → RS) (v : Nat → Value), st i = s ∧ st (i + ((o, bf) :: l).length) = s' ∧ ∀ k o' b, ((o, bf) :: l)[k]? = some (o', b) → Step E cf yl all base (i + k) b o' (st (i + k)) (v (i + k)) (st (i + k + 1)) := by
      intro v s1 h1 h2
      obtain ⟨st, vs, e1, e2, e3⟩ := ih (i + 1) s1 s' h2
      refine ⟨fun m => if m = i then s else st m, fun m => if m = i then v else vs m, by simp, ?_, ?_⟩
      · have : i + ((o, bf) :: l).length ≠ i := by simp
        simp only [this, if_false]
        rw [← e2]; congr 1; simp; omega
      · intro k o' b hk
        cases k with
        | zero =>
          simp at hk
          obtain ⟨rfl, rfl⟩ := hk
          dsimp only [Nat.add_zero]
          rw [if_pos rfl, if_pos rfl, if_neg (by omega), e1]; exact h1
        | succ k =>
          have := e3 k o' b (by simpa using hk)
          dsimp only
          rw [if_neg (by omega), if_neg (by omega), if_neg (by omega)]
          have e4 : i + (k + 1) = i + 1 + k := by omega
          rw [e4]; exact this
    simp only [evDraw] at h
    split at h
    · rename_i hw
      split at h
      · rename_i hk
        split at h
        · rename_i v hv; exact key (.pure hw hk hv) h
        · cases h
      · rename_i hk
        split at h
        · rename_i v b hv; exact key (.light hw hk hv) h
        · cases h
      · rename_i hk
        split at h
        · rename_i v hv
          split at h
          · rename_i hs
            refine key (.read hw hk hv fun x hx => ?_) h
            have := List.all_eq_true.1 hs x hx
            simpa using this
          · cases h
        · cases h
      · rename_i hk
        split at h
        · rename_i hs
          split at h
          · rename_i v h1 hv
            split at h
            · rename_i hq
              refine key (.heavy hw hk (fun x hx => List.all_eq_true.1 hs x hx) hv fun q hx => ?_) h
              have := List.all_eq_true.1 hq q hx
              simpa using this
            · cases h
          · cases h
        · cases h
    · rename_i hw
      exact key (.skip (by simpa using hw)) h
end

/-! ### The steps of a region -/
section
variable {E : Env} {cf : FuncId → List Value → Heap → Ans} {yl : Nat → List Value → Heap → Ans} {ops : Array Oper} {base : Nat} {st : Nat → RS} {v : Nat → Value}

def Heavy (E : Env) (ops : Array Oper) (st : Nat → RS) (i : Nat) : Prop := ∃ o, ops[i]? = some o ∧ wants ops.toList (st i).fr o = true ∧ kind E o.op = .heavy
def LightAt (E : Env) (ops : Array Oper) (base : Nat) (st : Nat → RS) (v : Nat → Value) (i : Nat) (x : Blk) : Prop := ∃ o, ops[i]? = some o ∧ wants ops.toList (st i).fr o = true ∧ kind E o.op = .light ∧ evLight E (st i).fr (base + i) o.op = some (v i, x)
def Merged (E : Env) (ops : Array Oper) (st : Nat → RS) (j k : Nat) : Prop := ∃ m, m < j ∧ Heavy E ops st m ∧ (bfOf ops m).testBit k = true

def Steps (E : Env) (cf : FuncId → List Value → Heap → Ans) (yl : Nat → List Value → Heap → Ans) (ops : Array Oper) (base : Nat) (st : Nat → RS) (v : Nat → Value) : Prop :=
  ∀ i o, ops[i]? = some o → Step E cf yl ops.toList base i (bfOf ops i) o (st i) (v i) (st (i + 1))

variable (hst : Steps E cf yl ops base st v)

theorem Heavy.lt {i : Nat} (h : Heavy E ops st i) : i < ops.size := by
  obtain ⟨o, ho, _⟩ := h; exact (Array.getElem?_eq_some_iff.1 ho).1
theorem LightAt.lt {i : Nat} {x : Blk} (h : LightAt E ops base st v i x) : i < ops.size := by
  obtain ⟨o, ho, _⟩ := h; exact (Array.getElem?_eq_some_iff.1 ho).1
theorem LightAt.same {i : Nat} {x y : Blk} (h : LightAt E ops base st v i x) (h' : LightAt E ops base st v i y) : x = y := by
  obtain ⟨o, ho, _, _, h1⟩ := h
  obtain ⟨o', ho', _, _, h2⟩ := h'
  rw [ho] at ho'; cases ho'
  rw [h1] at h2; cases h2; rfl
theorem LightAt.notHeavy {i : Nat} {x : Blk} (h : LightAt E ops base st v i x) : ¬ Heavy E ops st i := fun ⟨o', ho', _, hk'⟩ => by
  obtain ⟨o, ho, _, hk, _⟩ := h
  rw [ho] at ho'; cases ho'
  rw [hk] at hk'; cases hk'

include hst
theorem step_fr {i : Nat} {o : Oper} (ho : ops[i]? = some o) : (st (i + 1)).fr = put (st i).fr o.dst (v i) := by
  have h := hst i o ho
  generalize st (i + 1) = s' at h
  generalize v i = vi at h
  cases h <;> rfl

theorem step_h {i : Nat} {o : Oper} (ho : ops[i]? = some o) (hn : ¬ Heavy E ops st i) : (st (i + 1)).h = (st i).h := by
  have h := hst i o ho
  generalize st (i + 1) = s' at h
  generalize v i = vi at h
  cases h with
  | heavy hw hk => exact absurd ⟨o, ho, hw, hk⟩ hn
  | _ => rfl

theorem step_next {i : Nat} {o : Oper} (ho : ops[i]? = some o) (hn : ¬ Heavy E ops st i) : (st (i + 1)).h = (st i).h := step_h hst ho hn

theorem heap_between {i : Nat} : ∀ (d : Nat), i + d ≤ ops.size → (∀ k, i ≤ k → k < i + d → ¬ Heavy E ops st k) → (st (i + d)).h = (st i).h := by
  intro d
  induction d with
  | zero => intro _ _; rfl
  | succ d ih =>
    intro hle hn
    have hlt : i + d < ops.size := by omega
    rw [← Nat.add_assoc, step_h hst (Array.getElem?_eq_getElem hlt) (hn _ (by omega) (by omega))]
    exact ih (by omega) fun k h1 h2 => hn k h1 (by omega)

/-- Where the heavy ones ahead are alike, the heap is. -/
theorem heap_same {i j : Nat} (hi : i ≤ ops.size) (hj : j ≤ ops.size) (h : ∀ k, Heavy E ops st k → (k < i ↔ k < j)) : (st i).h = (st j).h := by
  rcases Nat.le_total i j with hij | hij
  · obtain ⟨d, rfl⟩ := Nat.exists_eq_add_of_le hij
    exact (heap_between hst d hj fun k h1 h2 hh => by have := (h k hh).2 h2; omega).symm
  · obtain ⟨d, rfl⟩ := Nat.exists_eq_add_of_le hij
    exact heap_between hst d hi fun k h1 h2 hh => by have := (h k hh).1 h2; omega

theorem fr_between {i : Nat} (x : Nat) : ∀ (d : Nat), i + d ≤ ops.size → (∀ k o, i ≤ k → k < i + d → ops[k]? = some o → o.dst ≠ some x) → lget (st (i + d)).fr x = lget (st i).fr x := by
  intro d
  induction d with
  | zero => intro _ _; rfl
  | succ d ih =>
    intro hle hn
    have hlt : i + d < ops.size := by omega
    have ho : ops[i + d]? = some ops[i + d] := Array.getElem?_eq_getElem hlt
    rw [← Nat.add_assoc, step_fr hst ho, lget_put_ne (hn _ _ (by omega) (by omega) ho)]
    exact ih (by omega) fun k o h1 h2 => hn k o h1 (by omega)

theorem fr_same {i j : Nat} (x : Nat) (hi : i ≤ ops.size) (hj : j ≤ ops.size) (h : ∀ k o, ops[k]? = some o → o.dst = some x → (k < i ↔ k < j)) : lget (st i).fr x = lget (st j).fr x := by
  rcases Nat.le_total i j with hij | hij
  · obtain ⟨d, rfl⟩ := Nat.exists_eq_add_of_le hij
    exact (fr_between hst x d hj fun k o h1 h2 ho hd => by have := (h k o ho hd).2 h2; omega).symm
  · obtain ⟨d, rfl⟩ := Nat.exists_eq_add_of_le hij
    exact fr_between hst x d hi fun k o h1 h2 ho hd => by have := (h k o ho hd).1 h2; omega

theorem fr_length : ∀ i, i ≤ ops.size → (st i).fr.n = (st 0).fr.n := by
  intro i
  induction i with
  | zero => intro _; rfl
  | succ i ih =>
    intro hi
    rw [step_fr hst (Array.getElem?_eq_getElem (show i < ops.size by omega)), put_n]
    exact ih (by omega)

theorem snaps_mem {k : Nat} (hk : Heavy E ops st k) : ∀ i, i ≤ ops.size → k < i → (k, (st k).h) ∈ (st i).snaps := by
  intro i
  induction i with
  | zero => intro _ h; omega
  | succ i ih =>
    intro hi hki
    have hlt : i < ops.size := by omega
    have ho : ops[i]? = some ops[i] := Array.getElem?_eq_getElem hlt
    have h := hst i _ ho
    by_cases e : k = i
    · subst e
      obtain ⟨o, ho', hw', hk'⟩ := hk
      rw [ho] at ho'; cases ho'
      generalize hs1 : st (k + 1) = s' at h
      generalize v k = vi at h
      cases h with
      | heavy => simp
      | skip hw => rw [hw] at hw'; cases hw'
      | pure hw hk1 => rw [hk1] at hk'; cases hk'
      | light hw hk1 => rw [hk1] at hk'; cases hk'
      | read hw hk1 => rw [hk1] at hk'; cases hk'
    · have hm := ih (by omega) (by omega)
      generalize st (i + 1) = s' at h
      generalize v i = vi at h
      cases h <;> first | exact hm | exact List.mem_cons_of_mem _ hm

theorem reads_mem {k : Nat} {o : Oper} (ho : ops[k]? = some o) (hw : wants ops.toList (st k).fr o = true) (hk : kind E o.op = .read) : ∀ i, i ≤ ops.size → k < i → (⟨k, bfOf ops k, (st k).fr, o.op, v k⟩ : Seen) ∈ (st i).reads := by
  intro i
  induction i with
  | zero => intro _ h; omega
  | succ i ih =>
    intro hi hki
    have hlt : i < ops.size := by omega
    have ho' : ops[i]? = some ops[i] := Array.getElem?_eq_getElem hlt
    have h := hst i _ ho'
    by_cases e : k = i
    · subst e
      rw [ho] at ho'
      have ho' := Option.some.inj ho'
      rw [← ho'] at h
      generalize hs1 : st (k + 1) = s' at h
      generalize hv : v k = vi at h
      cases h with
      | heavy hw1 hk1 => rw [hk1] at hk; cases hk
      | skip hw1 => rw [hw1] at hw; cases hw
      | pure hw1 hk1 => rw [hk1] at hk; cases hk
      | light hw1 hk1 => rw [hk1] at hk; cases hk
      | read => simp
    · have hm := ih (by omega) (by omega)
      generalize st (i + 1) = s' at h
      generalize v i = vi at h
      cases h <;> first | exact hm | exact List.mem_cons_of_mem _ hm

theorem heavy_order {i k : Nat} (hi : Heavy E ops st i) (hk : Heavy E ops st k) (hki : k < i) : (bfOf ops i).testBit k = true := by
  have hm := snaps_mem hst hk i (Nat.le_of_lt hi.lt) hki
  obtain ⟨o, ho, hw, hkd⟩ := hi
  have h := hst i o ho
  generalize st (i + 1) = s' at h
  generalize v i = vi at h
  cases h with
  | heavy hw1 hk1 hs => exact hs _ hm
  | skip hw1 => rw [hw1] at hw; cases hw
  | pure hw1 hk1 => rw [hk1] at hkd; cases hkd
  | light hw1 hk1 => rw [hk1] at hkd; cases hkd
  | read hw1 hk1 => rw [hk1] at hkd; cases hkd

theorem pend_mem (hok : OkDraw ops) (h0 : (st 0).pend = []) : ∀ i, i ≤ ops.size → ∀ p ∈ (st i).pend, p.at_ < i ∧ p.id = base + p.at_ ∧ LightAt E ops base st v p.at_ p.blk ∧ ¬ Merged E ops st i p.at_ := by
  intro i
  induction i with
  | zero => intro _ p hp; rw [h0] at hp; cases hp
  | succ i ih =>
    intro hi p hp
    have hlt : i < ops.size := by omega
    have ho : ops[i]? = some ops[i] := Array.getElem?_eq_getElem hlt
    have h := hst i _ ho
    have old : ∀ q ∈ (st i).pend, ¬ Heavy E ops st i → q.at_ < i + 1 ∧ q.id = base + q.at_ ∧ LightAt E ops base st v q.at_ q.blk ∧ ¬ Merged E ops st (i + 1) q.at_ := fun q hq hn => by
      obtain ⟨h1, h2, h3, h4⟩ := ih (by omega) q hq
      refine ⟨by omega, h2, h3, ?_⟩
      rintro ⟨m, hm, hh, hb⟩
      by_cases e : m = i
      · subst e; exact hn hh
      · exact h4 ⟨m, by omega, hh, hb⟩
    have nh : kind E ops[i].op ≠ .heavy ∨ wants ops.toList (st i).fr ops[i] = false → ¬ Heavy E ops st i := fun h ⟨o', ho', hw', hk'⟩ => by
      rw [ho] at ho'; cases ho'
      rcases h with h | h
      · exact h hk'
      · rw [h] at hw'; cases hw'
    generalize hs1 : st (i + 1) = s' at h hp
    generalize hvi : v i = vi at h
    cases h with
    | skip hw => exact old p hp (nh (.inr hw))
    | pure hw hk => exact old p hp (nh (.inl (by rw [hk]; simp)))
    | read hw hk => exact old p hp (nh (.inl (by rw [hk]; simp)))
    | light hw hk he =>
      have hnh := nh (.inl (by rw [hk]; simp))
      rcases List.mem_cons.1 hp with rfl | hp
      · refine ⟨by simp, rfl, ⟨_, ho, hw, hk, by rw [hvi]; exact he⟩, ?_⟩
        rintro ⟨m, hm, hh, hb⟩
        have := hok.lt m i hh.lt hb
        omega
      · exact old p hp hnh
    | heavy hw hk hs he hq =>
      obtain ⟨hp1, hp2⟩ := mem_dropPend _ _ _ hp
      obtain ⟨h1, h2, h3, h4⟩ := ih (by omega) p hp1
      refine ⟨by omega, h2, h3, ?_⟩
      rintro ⟨m, hm, hh, hb⟩
      by_cases e : m = i
      · subst e; rw [hp2] at hb; cases hb
      · exact h4 ⟨m, by omega, hh, hb⟩
end
end Go.Ab
