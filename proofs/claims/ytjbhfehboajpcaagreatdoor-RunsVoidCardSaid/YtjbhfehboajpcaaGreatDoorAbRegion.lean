/-
  The abstract evaluator: a region that draws its order.
-/
import Derived.Test.YtjbhfehboajpcaaGreatDoorAbTrace
namespace Go.Ab
open Go

section
variable {E : Env}

theorem buildSlice_rw {t : TypeId} {n : Nat} {ps : List (Nat × Value)} {id : Nat} {v : Value} {b : Blk} (h : buildSlice E t n ps id = some (v, b)) : b.rw := by
  unfold buildSlice at h
  repeat' (split at h)
  all_goals first | (cases h; done) | (cases h; rfl)
theorem makeSlice_rw {t : TypeId} {l c : Value} {id : Nat} {v : Value} {b : Blk} (h : makeSlice E t l c id = some (v, b)) : b.rw := by
  unfold makeSlice at h
  repeat' (split at h)
  all_goals first | (cases h; done) | (cases h; rfl)
theorem convertLight_rw {s d : TypeId} {x : Value} {id : Nat} {v : Value} {b : Blk} (h : convertLight E s d x id = some (v, b)) : b.rw := by
  unfold convertLight at h
  repeat' (split at h)
  all_goals first | (cases h; done) | (cases h; rfl)
theorem evLight_rw {fr : Fr} {id : Nat} {o : Op} {v : Value} {b : Blk} (h : evLight E fr id o = some (v, b)) : b.rw := by
  unfold evLight at h
  split at h
  · split at h
    · cases h; rfl
    · cases h
  · cases h; rfl
  · exact buildSlice_rw h
  · cases h; trivial
  · exact makeSlice_rw h
  · exact convertLight_rw h
  · cases h

/-- A heap with other blocks at the numbers that are kept. -/
theorem exists_over (f : Nat → Option Blk) (base : Nat) (h : Heap) : ∀ n, ∃ H : Heap, H.next = h.next ∧ H.base = h.base ∧ (∀ k x, k < n → f k = some x → H.get (base + k) = some x) ∧ (∀ b, (∀ k x, k < n → f k = some x → b ≠ base + k) → H.get b = h.get b) := by
  intro n
  induction n with
  | zero => exact ⟨h, rfl, rfl, fun k x hk => by omega, fun b _ => rfl⟩
  | succ n ih =>
    obtain ⟨H, h1, h2, h3, h4⟩ := ih
    cases hf : f n with
    | none =>
      refine ⟨H, h1, h2, fun k x hk hx => ?_, fun b hb => h4 b fun k x hk hx => hb k x (by omega) hx⟩
      by_cases e : k = n
      · subst e; rw [hf] at hx; cases hx
      · exact h3 k x (by omega) hx
    | some y =>
      refine ⟨H.set (base + n) y, h1, h2, fun k x hk hx => ?_, fun b hb => ?_⟩
      · rw [Heap.get_set]
        by_cases e : k = n
        · subst e; rw [hf] at hx; cases hx; rw [if_pos rfl]
        · rw [if_neg (by omega)]; exact h3 k x (by omega) hx
      · rw [Heap.get_set, if_neg (hb n y (by omega) hf)]
        exact h4 b fun k x hk hx => hb k x (by omega) hx

/-- What lies beside is not in the heap that has turned. -/
theorem grow_beside {ρ ρ' : Inj} {h hs hs' : Heap} {w w' : World} (hr : HRel ρ h w) (hsub : Sub hs h) (g : Grow ρ hs w ρ' hs' w') {b : Nat} {x : Blk} (hbx : h.get b = some x) (hx : x.rw) (hno : ∀ y, hs.get b = some y → ¬ y.live) :
    ∀ y, hs'.get b = some y → ¬ y.live := by
  intro y hy hyl
  obtain ⟨l, hl, hbr⟩ := hr.blk b x hbx hx.live
  have hl' := g.inj b l hl
  rcases g.img b y l hy hyl hl' l.block (foot_self y w' l) with h1 | ⟨b0, x0, l0, g0, lv0, _, i0, e0⟩
  · have := hbr.lt hx.live
    omega
  · by_cases hbb : b = b0
    · subst hbb; exact hno x0 g0 lv0
    · exact hr.apartF b b0 x x0 l l0 hbb hbx (hsub.get b0 x0 g0 lv0) hx lv0 hl i0 l.block (foot_self x w l) e0
end

section
variable {P : Program} {E : Env} {G : Nat} {cf : FuncId → List Value → Heap → Ans} {yl : Nat → List Value → Heap → Ans} {ops : Array Oper} {base : Nat} {st : Nat → RS} {v : Nat → Value} {ρ0 : Inj} {h0 : Heap} {w0 : World} {ds : List Deferred}

def FrameAt (ops : Array Oper) (st : Nat → RS) (S : Nat → Bool) (ρ : Inj) (a : Act) : Prop :=
  ∃ F : Fr, F.n = (st 0).fr.n ∧ FrRel ρ F a ∧ ∀ x, ∃ j, j ≤ ops.size ∧ (∀ k o, ops[k]? = some o → o.dst = some x → (S k = true ↔ k < j)) ∧ lget F x = lget (st j).fr x

structure HeapAt (E : Env) (ops : Array Oper) (base : Nat) (st : Nat → RS) (v : Nat → Value) (ρ0 : Inj) (h0 : Heap) (w0 : World) (S : Nat → Bool) (ρ : Inj) (w : World) (j : Nat) (H : Heap) : Prop where
  le : j ≤ ops.size
  at_ : ∀ k, Heavy E ops st k → (S k = true ↔ k < j)
  grow : Grow ρ0 h0 w0 ρ H w
  hnext : H.next = (st j).h.next
  hbase : H.base = (st j).h.base
  room : base + ops.size ≤ H.next
  loose : ∀ k x, S k = true → LightAt E ops base st v k x → ¬ Merged E ops st j k → H.get (base + k) = some x
  rest : ∀ b, (∀ k x, S k = true → LightAt E ops base st v k x → ¬ Merged E ops st j k → b ≠ base + k) → H.get b = (st j).h.get b
  none : ∀ k x, k < ops.size → ¬ Merged E ops st j k → (st j).h.get (base + k) = some x → ¬ x.live
  side : ∀ k l, k < ops.size → ρ (base + k) = some l → S k = true ∧ ∃ x, LightAt E ops base st v k x

structure Inv (E : Env) (ops : Array Oper) (base : Nat) (st : Nat → RS) (v : Nat → Value) (ρ0 : Inj) (h0 : Heap) (w0 : World) (ds : List Deferred) (S : Nat → Bool) (a : Act) (w : World) : Prop where
  lt : ∀ i, S i = true → i < ops.size
  down : ∀ i k, S i = true → (bfOf ops i).testBit k = true → S k = true
  defers : a.defers = ds
  rel : ∃ ρ, FrameAt ops st S ρ a ∧ ∃ j H, HeapAt E ops base st v ρ0 h0 w0 S ρ w j H

def addS (S : Nat → Bool) (i : Nat) : Nat → Bool := fun k => S k || k == i

theorem addS_same (S : Nat → Bool) (i : Nat) : addS S i i = true := by simp [addS]
theorem addS_ne (S : Nat → Bool) {i k : Nat} (h : k ≠ i) : addS S i k = S k := by simp [addS, h]

variable (hok : OkDraw ops) (hst : Steps E cf yl ops base st v)

include hok hst

section
variable {S : Nat → Bool} (hdown : ∀ i k, S i = true → (bfOf ops i).testBit k = true → S k = true) {i : Nat} {o : Oper} (ho : ops[i]? = some o) (hSi : S i = false) (hbf : ∀ k, (bfOf ops i).testBit k = true → S k = true)

omit hst in
include hdown ho hSi hbf in
/-- Who writes what this operation looks at, or writes: it is there when it stands ahead. -/
theorem writers {k : Nat} {ok : Oper} (hk : ops[k]? = some ok) (hne : k ≠ i) (hap : (k < i → ok.apart ops o = false) ∧ (i < k → o.apart ops ok = false)) : S k = true ↔ k < i := by
  rcases Nat.lt_or_gt_of_ne hne with hlt | hgt
  · refine ⟨fun _ => hlt, fun _ => ?_⟩
    rcases hok.apart i k o ok hlt ho hk with h | h
    · exact hbf k h
    · rw [hap.1 hlt] at h; cases h
  · refine ⟨fun h => ?_, fun h => by omega⟩
    rcases hok.apart k i ok o hgt hk ho with h' | h'
    · have := hdown k i h h'
      rw [hSi] at this; cases this
    · rw [hap.2 hgt] at h'; cases h'

include hdown ho hSi hbf in
theorem frame_look {F : Fr} (hF : ∀ x, ∃ j, j ≤ ops.size ∧ (∀ k o, ops[k]? = some o → o.dst = some x → (S k = true ↔ k < j)) ∧ lget F x = lget (st j).fr x) :
    ∀ x ∈ o.looksAt ops, lget F x = lget (st i).fr x := by
  intro x hx
  obtain ⟨j, hj, hw, he⟩ := hF x
  rw [he]
  have hi : i ≤ ops.size := Nat.le_of_lt (Array.getElem?_eq_some_iff.1 ho).1
  refine fr_same hst x hj hi fun k ok hk hd => ?_
  by_cases e : k = i
  · subst e
    rw [← hw k ok hk hd, hSi]; simp
  · rw [← hw k ok hk hd]
    refine writers hok hdown ho hSi hbf hk e ⟨fun _ => ?_, fun _ => ?_⟩
    · cases hap : ok.apart ops o with
      | false => rfl
      | true => exact absurd hx ((Oper.apart_spec hap).1 x hd)
    · cases hap : o.apart ops ok with
      | false => rfl
      | true => exact absurd hx ((Oper.apart_spec hap).2.2 x hd)

include hdown ho hSi hbf in
theorem frame_put {ρ ρ' : Inj} {a : Act} (hf : FrameAt ops st S ρ a) (hle : ρ.le ρ') {v' : Value} (hv : VRel ρ' (v i) v') : FrameAt ops st (addS S i) ρ' (a.put o.dst v') := by
  obtain ⟨F, hlen, hrel, hF⟩ := hf
  have hi : i < ops.size := (Array.getElem?_eq_some_iff.1 ho).1
  refine ⟨put F o.dst (v i), by rw [put_n]; exact hlen, put_rel (hrel.mono hle) o.dst hv, fun x => ?_⟩
  by_cases hd : o.dst = some x
  · refine ⟨i + 1, hi, fun k ok hk hdk => ?_, ?_⟩
    · by_cases e : k = i
      · subst e; rw [addS_same]; simp
      · rw [addS_ne S e]
        have := writers hok hdown ho hSi hbf hk e ⟨fun _ => ?_, fun _ => ?_⟩
        · rw [this]; omega
        · cases hap : ok.apart ops o with
          | false => rfl
          | true => exact absurd hd ((Oper.apart_spec hap).2.1 x hdk)
        · cases hap : o.apart ops ok with
          | false => rfl
          | true => exact absurd hdk ((Oper.apart_spec hap).2.1 x hd)
    · rw [step_fr hst ho, hd]
      exact lget_put_same (by rw [hlen, fr_length hst i (Nat.le_of_lt hi)])
  · obtain ⟨j, hj, hw, he⟩ := hF x
    refine ⟨j, hj, fun k ok hk hdk => ?_, by rw [lget_put_ne hd]; exact he⟩
    rw [addS_ne S (fun e => by subst e; rw [ho] at hk; cases hk; exact hd hdk)]
    exact hw k ok hk hdk

omit hok hst in
/-- A step that makes no block. -/
theorem heap_quiet {ρ : Inj} {w : World} {j : Nat} {H : Heap} (hh : HeapAt E ops base st v ρ0 h0 w0 S ρ w j H) (h1 : ¬ Heavy E ops st i) (h2 : ∀ x, ¬ LightAt E ops base st v i x) : HeapAt E ops base st v ρ0 h0 w0 (addS S i) ρ w j H where
  le := hh.le
  at_ := fun k hk => by rw [addS_ne S (i := i) (fun e => h1 (by rw [← e]; exact hk))]; exact hh.at_ k hk
  grow := hh.grow
  hnext := hh.hnext
  hbase := hh.hbase
  room := hh.room
  loose := fun k x hs hl hm => hh.loose k x (by rw [addS_ne S (i := i) (fun e => h2 x (by rw [← e]; exact hl))] at hs; exact hs) hl hm
  rest := fun b hb => hh.rest b fun k x hs hl hm => hb k x (by simp [addS, hs]) hl hm
  none := hh.none
  side := fun k l hk hl => let ⟨h3, h4⟩ := hh.side k l hk hl; ⟨by simp [addS, h3], h4⟩

include hbf in
/-- Heaps that an operation sees lie in the one that is there. -/
theorem sub_seen {ρ : Inj} {w : World} {j : Nat} {H : Heap} (hh : HeapAt E ops base st v ρ0 h0 w0 S ρ w j H) (hp0 : (st 0).pend = []) {q : Nat} (hq : q ≤ ops.size) (hjq : ∀ m, Heavy E ops st m → m < j → m < q) {g : Heap} (hg : g = (st j).h) :
    Sub (addPend (bfOf ops i) (st q).pend g) H := by
  subst hg
  refine ⟨by rw [(addPend_next _ _ _).1, hh.hnext], by rw [(addPend_next _ _ _).2, hh.hbase], fun b x hb hx => ?_⟩
  rcases get_addPend _ _ _ _ _ hb with ⟨p, hp, hbit, hid, hblk⟩ | hb
  · obtain ⟨_, h2, h3, h4⟩ := pend_mem hst hok hp0 q hq p hp
    rw [← hid, h2, ← hblk]
    refine hh.loose _ _ (hbf _ hbit) h3 fun ⟨m, hm, hhv, hbm⟩ => h4 ⟨m, hjq m hhv hm, hhv, hbm⟩
  · rw [hh.rest b fun k y hs hl hm e => ?_]
    · exact hb
    · subst e
      exact hh.none k x hl.lt hm hb hx

omit hok in
include ho hSi hbf in
/-- What an operation reads does not hang on which heavy ones have been done. -/
theorem read_seen {ρ : Inj} {w : World} {j : Nat} {H : Heap} (hh : HeapAt E ops base st v ρ0 h0 w0 S ρ w j H) (hdown : ∀ i k, S i = true → (bfOf ops i).testBit k = true → S k = true) (hw : wants ops.toList (st i).fr o = true) (hk : kind E o.op = .read) :
    ∃ q, q ≤ ops.size ∧ (∀ m, Heavy E ops st m → m < j → m < q) ∧ evRead E (st i).fr (addPend (bfOf ops i) (st q).pend (st j).h) o.op = some (v i) := by
  have hi : i < ops.size := (Array.getElem?_eq_some_iff.1 ho).1
  have hni : ¬ Heavy E ops st i := fun ⟨o', ho', _, hk'⟩ => by rw [ho] at ho'; cases ho'; rw [hk] at hk'; cases hk'
  have hstep := hst i o ho
  have same : ∀ {bf ps fr op x g}, sameAt E bf ps fr op x g = true → evRead E fr (addPend bf ps g) op = some x := by
    intro bf ps fr op x g h
    unfold sameAt at h
    split at h
    · rename_i u hu; rw [hu, veq_eq _ _ _ h]
    · cases h
  by_cases hB : ∃ k, Heavy E ops st k ∧ k < i ∧ ¬ k < j
  · -- the first heavy one behind those that have been done
    obtain ⟨k0, ⟨hk1, hk2, hk3⟩, hmin⟩ : ∃ k, (Heavy E ops st k ∧ k < i ∧ ¬ k < j) ∧ ∀ m, (Heavy E ops st m ∧ m < i ∧ ¬ m < j) → k ≤ m := by
      obtain ⟨k, hk⟩ := hB
      clear hstep same
      induction k using Nat.strongRecOn with
      | _ k ih =>
        by_cases hex : ∃ m, m < k ∧ Heavy E ops st m ∧ m < i ∧ ¬ m < j
        · obtain ⟨m, hm, hm2⟩ := hex; exact ih m hm hm2
        · exact ⟨k, hk, fun m hm => Nat.le_of_not_lt fun hlt => hex ⟨m, hlt, hm⟩⟩
    have hsame : (st k0).h = (st j).h := heap_same hst (Nat.le_of_lt hk1.lt) hh.le fun m hm => by
      constructor
      · intro h
        exact Classical.byContradiction fun hc => by have := hmin m ⟨hm, by omega, hc⟩; omega
      · intro h; omega
    have hsn := snaps_mem hst hk1 i (Nat.le_of_lt hi) hk2
    have hnb : ¬ (bfOf ops i).testBit k0 = true := fun hb => hk3 ((hh.at_ k0 hk1).1 (hbf k0 hb))
    refine ⟨i, Nat.le_of_lt hi, fun m hm hmj => by omega, ?_⟩
    generalize st (i + 1) = s' at hstep
    generalize hvi : v i = vi at hstep
    cases hstep with
    | read _ _ he hs =>
      rcases hs _ hsn with h | h
      · exact absurd h hnb
      · rw [← hsame]; exact same h
    | skip hw1 => rw [hw1] at hw; cases hw
    | pure hw1 hk1 => rw [hk1] at hk; cases hk
    | light hw1 hk1 => rw [hk1] at hk; cases hk
    | heavy hw1 hk1 => rw [hk1] at hk; cases hk
  · by_cases hC : ∃ k, Heavy E ops st k ∧ k < j ∧ ¬ k < i
    · obtain ⟨k1, ⟨hk1, hk2, hk3⟩, hmax⟩ : ∃ k, (Heavy E ops st k ∧ k < j ∧ ¬ k < i) ∧ ∀ m, (Heavy E ops st m ∧ m < j ∧ ¬ m < i) → m ≤ k := by
        obtain ⟨k, hk⟩ := hC
        clear hstep same hB
        generalize hd : j - k = d
        induction d using Nat.strongRecOn generalizing k with
        | _ d ih =>
          by_cases hex : ∃ m, k < m ∧ Heavy E ops st m ∧ m < j ∧ ¬ m < i
          · obtain ⟨m, hm, hm2⟩ := hex; exact ih (j - m) (by omega) m hm2 rfl
          · exact ⟨k, hk, fun m hm => Nat.le_of_not_lt fun hlt => hex ⟨m, hlt, hm⟩⟩
      have hlt1 : k1 < ops.size := hk1.lt
      have hik : i < k1 := by
        rcases Nat.lt_or_ge i k1 with h | h
        · exact h
        · have e : k1 = i := by omega
          rw [e] at hk1; exact absurd hk1 hni
      have hnot : ∀ m, Heavy E ops st m → m < j → m < k1 + 1 := fun m hm hmj => by
        by_cases hmi : m < i
        · omega
        · have := hmax m ⟨hm, hmj, hmi⟩; omega
      have hsame : (st (k1 + 1)).h = (st j).h := heap_same hst hlt1 hh.le fun m hm => by
        constructor
        · intro h; omega
        · exact hnot m hm
      have hrm := reads_mem hst ho hw hk k1 (Nat.le_of_lt hlt1) hik
      refine ⟨k1 + 1, hlt1, hnot, ?_⟩
      have hnb : ¬ (bfOf ops k1).testBit i = true := fun hb => by
        have := hdown k1 i ((hh.at_ k1 hk1).2 hk2) hb
        rw [hSi] at this; cases this
      obtain ⟨o1, ho1, hw1, hkd1⟩ := hk1
      have hstep1 := hst k1 o1 ho1
      rw [← hsame]
      generalize st (k1 + 1) = s' at hstep1
      generalize v k1 = vi at hstep1
      cases hstep1 with
      | heavy _ _ hs he hq =>
        rcases hq _ hrm with h | h
        · exact absurd h hnb
        · exact same h
      | skip hw2 => rw [hw2] at hw1; cases hw1
      | pure _ hk2 => rw [hk2] at hkd1; cases hkd1
      | light _ hk2 => rw [hk2] at hkd1; cases hkd1
      | read _ hk2 => rw [hk2] at hkd1; cases hkd1
    · have hsame : (st i).h = (st j).h := heap_same hst (Nat.le_of_lt hi) hh.le fun m hm =>
        ⟨fun h => Classical.byContradiction fun hc => hB ⟨m, hm, h, hc⟩, fun h => Classical.byContradiction fun hc => hC ⟨m, hm, h, hc⟩⟩
      refine ⟨i, Nat.le_of_lt hi, fun m hm hmj => Classical.byContradiction fun hc => hC ⟨m, hm, hmj, hc⟩, ?_⟩
      rw [← hsame]
      generalize st (i + 1) = s' at hstep
      generalize hvi : v i = vi at hstep
      cases hstep with
      | read _ _ he hs => exact he
      | skip hw1 => rw [hw1] at hw; cases hw
      | pure hw1 hk1 => rw [hk1] at hk; cases hk
      | light hw1 hk1 => rw [hk1] at hk; cases hk
      | heavy hw1 hk1 => rw [hk1] at hk; cases hk

theorem step_inv (hE : EnvOk2 P E) (hs : Sound P E G cf yl) (hG : h0.base = G) (hop : ∀ o ∈ ops.toList, okOp G o.op = true) (hp0 : (st 0).pend = []) (hb0 : h0.next ≤ base) {a : Act} {w : World} (inv : Inv E ops base st v ρ0 h0 w0 ds S a w)
    {i : Nat} {o : Oper} (ho : ops[i]? = some o) (hSi : S i = false) (hbf : ∀ k, (bfOf ops i).testBit k = true → S k = true) (r : Option Nat) (d : Nat) {K : Act → World → Prop} {Q : Exit → Act → World → Prop}
    (hK : ∀ a' w', Inv E ops base st v ρ0 h0 w0 ds (addS S i) a' w' → K a' w') : wpOpIn (wideR r) d P ops Q i K a w := by
  have hi : i < ops.size := (Array.getElem?_eq_some_iff.1 ho).1
  have hdown := inv.down
  obtain ⟨ρ, hfr, j, H, hh⟩ := inv.rel
  obtain ⟨F, hlen, hrel, hF⟩ := id hfr
  have hlook := frame_look hok hst hdown ho hSi hbf hF
  have hmk : ∀ ρ' a' w', FrameAt ops st (addS S i) ρ' a' → (∃ j H, HeapAt E ops base st v ρ0 h0 w0 (addS S i) ρ' w' j H) → a'.defers = ds → Inv E ops base st v ρ0 h0 w0 ds (addS S i) a' w' := fun ρ' a' w' h1 h2 h3 => by
    refine ⟨fun k hk => ?_, fun k m hk hm => ?_, h3, ρ', h1, h2⟩
    · by_cases e : k = i
      · rw [e]; exact hi
      · rw [addS_ne S e] at hk; exact inv.lt k hk
    · by_cases e : k = i
      · rw [e] at hm; simp [addS, hbf m hm]
      · rw [addS_ne S e] at hk; simp [addS, hdown k m hk hm]
  have hval : ∀ x ∈ o.op.operands.toList, val F x = val (st i).fr x := fun x hx => by
    cases x with
    | tmp t => exact hlook t (List.mem_append_left _ (List.mem_filterMap.2 ⟨.tmp t, hx, rfl⟩))
    | _ => rfl
  have hwF : wants ops.toList F o = wants ops.toList (st i).fr o := wants_congr fun g want og dd hg hgo hd => hlook dd (List.mem_append_right _ (by
    rw [hg]
    have : ops[g]? = some og := by rw [← Array.getElem?_toList]; exact hgo
    simp [this, hd]))
  have hwant := wants_eq hrel ops o
  rw [hwF] at hwant
  have hHG : H.base = G := by rw [hh.grow.base, hG]
  have hoko : okOp G o.op = true := hop o (by simpa using Array.mem_of_getElem? ho)
  have hstep := hst i o ho
  unfold wpOpIn
  simp only [ho]
  -- what reads at most
  have hread : kind E o.op ≠ .heavy → kind E o.op ≠ .light → wants ops.toList (st i).fr o = true → ∀ {g : Heap}, Sub g H → evRead E (st i).fr g o.op = some (v i) → Oper.wpIn (wideR r) d P o a w K Q := by
    intro hk1 hk2 _ g hg hev
    obtain ⟨v', h1, hrun⟩ := evRead_rel (P := P) hE.toEnvOk (hh.grow.rel.sub hg) hrel (by rw [hg.base, hHG]; exact hoko) (by rw [evRead_congr hval]; exact hev)
    refine wpIn_of_run (notDefer_read hev) ?_
    rw [hrun, Oper.uponIn_value]
    refine hK _ _ (hmk ρ _ _ (frame_put hok hst hdown ho hSi hbf hfr ρ.le_refl h1) ⟨j, H, heap_quiet hh ?_ ?_⟩ (by rw [put_defers]; exact inv.defers))
    · rintro ⟨o', ho', _, hk'⟩
      rw [ho] at ho'; cases ho'; exact hk1 hk'
    · rintro x ⟨o', ho', _, hk', _⟩
      rw [ho] at ho'; cases ho'; exact hk2 hk'
  cases hw : wants ops.toList (st i).fr o with
  | false =>
    rw [hw] at hwant
    rw [if_neg (by rw [← hwant]; simp)]
    refine ⟨fun _ _ => trivial, ?_⟩
    have hvi : v i = undef := by
      generalize st (i + 1) = s' at hstep
      generalize v i = vi at hstep
      cases hstep with
      | skip => rfl
      | pure hw1 => rw [hw] at hw1; cases hw1
      | read hw1 => rw [hw] at hw1; cases hw1
      | light hw1 => rw [hw] at hw1; cases hw1
      | heavy hw1 => rw [hw] at hw1; cases hw1
    refine hK _ _ (hmk ρ _ _ (frame_put hok hst hdown ho hSi hbf hfr ρ.le_refl (by rw [hvi]; exact VRel.undef)) ⟨j, H, heap_quiet hh ?_ ?_⟩ (by rw [put_defers]; exact inv.defers))
    · rintro ⟨o', ho', hw', _⟩
      rw [ho] at ho'; cases ho'; rw [hw] at hw'; cases hw'
    · rintro x ⟨o', ho', hw', _⟩
      rw [ho] at ho'; cases ho'; rw [hw] at hw'; cases hw'
  | true =>
    rw [hw] at hwant
    rw [if_pos hwant.symm]
    cases hk : kind E o.op with
    | pure =>
      have hev : evRead E (st i).fr (st i).h o.op = some (v i) := by
        generalize st (i + 1) = s' at hstep
        generalize v i = vi at hstep
        cases hstep with
        | pure _ _ he => exact he
        | skip hw1 => rw [hw] at hw1; cases hw1
        | read _ hk1 => rw [hk] at hk1; cases hk1
        | light _ hk1 => rw [hk] at hk1; cases hk1
        | heavy _ hk1 => rw [hk] at hk1; cases hk1
      exact hread (by rw [hk]; simp) (by rw [hk]; simp) hw (Sub.refl H) (by rw [evRead_pure hk H (st i).h]; exact hev)
    | read =>
      obtain ⟨q, hq1, hq2, hev⟩ := read_seen hst ho hSi hbf hh hdown hw hk
      exact hread (by rw [hk]; simp) (by rw [hk]; simp) hw (sub_seen hok hst hbf hh hp0 hq1 hq2 rfl) hev
    | light =>
      obtain ⟨blk, hev⟩ : ∃ blk, evLight E (st i).fr (base + i) o.op = some (v i, blk) := by
        generalize st (i + 1) = s' at hstep
        generalize v i = vi at hstep
        cases hstep with
        | light _ _ he => exact ⟨_, he⟩
        | skip hw1 => rw [hw] at hw1; cases hw1
        | pure _ hk1 => rw [hk] at hk1; cases hk1
        | read _ hk1 => rw [hk] at hk1; cases hk1
        | heavy _ hk1 => rw [hk] at hk1; cases hk1
      have hla : LightAt E ops base st v i blk := ⟨o, ho, hw, hk, hev⟩
      obtain ⟨v', w', obj, l, hrun, hw', hsr, hlb, hrw, hrl⟩ := evLight_rel (P := P) hE.toEnvOk hh.grow.rel hrel (by rw [hHG]; exact hoko) (by rw [evLight_congr hval]; exact hev)
      have hfresh : ρ (base + i) = none := by
        cases hc : ρ (base + i) with
        | none => rfl
        | some l => have := (hh.side i l hi hc).1; rw [hSi] at this; cases this
      have hle := Inj.le_upd (l := l) hfresh
      obtain ⟨hv1, hb1⟩ := hrl (ρ.upd (base + i) l) hle (Inj.upd_same _ _ _)
      refine wpIn_of_run (notDefer_light hev) ?_
      rw [hrun, Oper.uponIn_value]
      have hnm : ¬ Merged E ops st j i := fun ⟨m, hm, hhv, hbm⟩ => by
        have := hdown m i ((hh.at_ m hhv).2 hm) hbm
        rw [hSi] at this; cases this
      have hneq : ∀ k, k ≠ i → base + k ≠ base + i := fun k h => by omega
      refine hK _ _ (hmk _ _ _ (frame_put hok hst hdown ho hSi hbf hfr hle hv1) ⟨j, H.set (base + i) blk, ?_⟩ (by rw [put_defers]; exact inv.defers))
      refine ⟨hh.le, fun k hk' => ?_, grow_side hh.grow (by omega) (by have := hh.room; omega) hfresh hlb hw' hsr hb1 (evLight_plain hev), hh.hnext, hh.hbase, hh.room, fun k x hsk hlk hm => ?_, fun b hb => ?_, hh.none, fun k m hk' hm => ?_⟩
      · rw [addS_ne S (fun e => by rw [e] at hk'; exact hla.notHeavy hk')]; exact hh.at_ k hk'
      · rw [Heap.get_set]
        by_cases e : k = i
        · subst e; rw [if_pos rfl, hlk.same hla]
        · rw [if_neg (hneq k e)]
          rw [addS_ne S e] at hsk
          exact hh.loose k x hsk hlk hm
      · rw [Heap.get_set, if_neg (hb i blk (addS_same S i) hla hnm)]
        exact hh.rest b fun k x hsk hlk hm => hb k x (by simp [addS, hsk]) hlk hm
      · by_cases e : k = i
        · subst e; exact ⟨addS_same S k, blk, hla⟩
        · rw [Inj.upd_ne ρ l (hneq k e)] at hm
          rw [addS_ne S e]; exact hh.side k m hk' hm
    | heavy =>
      have hhi : Heavy E ops st i := ⟨o, ho, hw, hk⟩
      obtain ⟨h', hev, hst1⟩ : ∃ h', evHeavy E cf yl (st i).fr (addPend (bfOf ops i) (st i).pend (st i).h) o.op = some (v i, h') ∧ (st (i + 1)).h = h' := by
        generalize st (i + 1) = s' at hstep
        generalize v i = vi at hstep
        cases hstep with
        | heavy _ _ _ he => exact ⟨_, he, rfl⟩
        | skip hw1 => rw [hw] at hw1; cases hw1
        | pure _ hk1 => rw [hk] at hk1; cases hk1
        | read _ hk1 => rw [hk] at hk1; cases hk1
        | light _ hk1 => rw [hk] at hk1; cases hk1
      have hheavy : ∀ k, Heavy E ops st k → k ≠ i → (S k = true ↔ k < i) := fun k hk' hne => by
        rcases Nat.lt_or_gt_of_ne hne with hlt | hgt
        · exact ⟨fun _ => hlt, fun _ => hbf k (heavy_order hst hhi hk' hlt)⟩
        · refine ⟨fun h => ?_, fun h => by omega⟩
          have := hdown k i h (heavy_order hst hk' hhi hgt)
          rw [hSi] at this; cases this
      have hij : ¬ i < j := fun h => by have := (hh.at_ i hhi).2 h; rw [hSi] at this; cases this
      have hjq : ∀ m, Heavy E ops st m → m < j → m < i := fun m hm hmj => (hheavy m hm (fun e => hij (e ▸ hmj))).1 ((hh.at_ m hm).2 hmj)
      have hsame : (st i).h = (st j).h := heap_same hst (Nat.le_of_lt hi) hh.le fun m hm =>
        ⟨fun h => (hh.at_ m hm).1 ((hheavy m hm (by omega)).2 h), hjq m hm⟩
      have hsub := sub_seen hok hst hbf hh hp0 (Nat.le_of_lt hi) hjq hsame
      have hnotj : ∀ k, ¬ Merged E ops st (i + 1) k → ¬ Merged E ops st j k := fun k h ⟨m, hm, hhv, hb⟩ => h ⟨m, by have := hjq m hhv hm; omega, hhv, hb⟩
      -- a block beside is not in the heap that turns
      have hbeside : ∀ k, k < ops.size → ¬ Merged E ops st (i + 1) k → ∀ y, (addPend (bfOf ops i) (st i).pend (st i).h).get (base + k) = some y → ¬ y.live := by
        intro k hk' hm y hy hyl
        rcases get_addPend _ _ _ _ _ hy with ⟨p, hp, hbit, hid, _⟩ | hy
        · obtain ⟨_, h2, _, _⟩ := pend_mem hst hok hp0 i (Nat.le_of_lt hi) p hp
          have : p.at_ = k := by omega
          rw [this] at hbit
          exact hm ⟨i, by omega, hhi, hbit⟩
        · rw [hsame] at hy
          exact hh.none k y hk' (hnotj k hm) hy hyl
      refine evHeavy_then hE hs (hh.grow.rel.sub hsub) (by rw [hsub.base, hHG]) hrel (by rw [hsub.base, hHG]; exact hoko) (by rw [evHeavy_congr hval]; exact hev) r d _ _ (fun v' ρ' w' hv' g => ?_)
      have hgn : (addPend (bfOf ops i) (st i).pend (st i).h).next = H.next := hsub.next
      obtain ⟨H', e1, e2, e3, e4⟩ := exists_over (fun k => open Classical in if S k = true ∧ ¬ Merged E ops st (i + 1) k ∧ ∃ x, LightAt E ops base st v k x then H.get (base + k) else none) base h' ops.size
      have hf : ∀ k x, (open Classical in if S k = true ∧ ¬ Merged E ops st (i + 1) k ∧ ∃ x, LightAt E ops base st v k x then H.get (base + k) else none) = some x → S k = true ∧ ¬ Merged E ops st (i + 1) k ∧ LightAt E ops base st v k x ∧ H.get (base + k) = some x := by
        intro k x h
        by_cases hc : S k = true ∧ ¬ Merged E ops st (i + 1) k ∧ ∃ x, LightAt E ops base st v k x
        · rw [if_pos hc] at h
          obtain ⟨c1, c2, y, c3⟩ := hc
          have := hh.loose k y c1 c3 (hnotj k c2)
          rw [h] at this; cases this
          exact ⟨c1, c2, c3, h⟩
        · rw [if_neg hc] at h; cases h
      have hrwOf : ∀ {k x}, LightAt E ops base st v k x → x.rw := fun ⟨_, _, _, _, h⟩ => evLight_rw h
      have hgrow : Grow ρ H w ρ' H' w' := by
        refine grow_frame hh.grow.rel hsub g e1 e2 fun b x hb hx => ?_
        by_cases hex : ∃ k y, k < ops.size ∧ (open Classical in if S k = true ∧ ¬ Merged E ops st (i + 1) k ∧ ∃ x, LightAt E ops base st v k x then H.get (base + k) else none) = some y ∧ b = base + k
        · obtain ⟨k, y, hk', hy, rfl⟩ := hex
          have := e3 k y hk' hy
          rw [hb] at this; cases this
          obtain ⟨c1, c2, c3, c4⟩ := hf k x hy
          exact .inr ⟨c4, hrwOf c3, hbeside k hk' c2⟩
        · rw [e4 b fun k y hk' hy e => hex ⟨k, y, hk', hy, e⟩] at hb
          exact .inl hb
      refine hK _ _ (hmk ρ' _ _ (frame_put hok hst hdown ho hSi hbf hfr g.inj hv') ⟨i + 1, H', ?_⟩ (by rw [put_defers]; exact inv.defers))
      refine ⟨hi, fun k hk' => ?_, hh.grow.trans hgrow, by rw [hst1, e1], by rw [hst1, e2], by have := hh.room; have := hgrow.next; omega, fun k x hsk hlk hm => ?_, fun b hb => ?_, fun k x hk' hm hx => ?_, fun k m hk' hm => ?_⟩
      · by_cases e : k = i
        · subst e; rw [addS_same]; simp
        · rw [addS_ne S e, hheavy k hk' e]; omega
      · have hne : k ≠ i := fun e => by rw [e] at hlk; exact hlk.notHeavy hhi
        rw [addS_ne S hne] at hsk
        refine e3 k x hlk.lt ?_
        rw [if_pos ⟨hsk, hm, x, hlk⟩]
        exact hh.loose k x hsk hlk (hnotj k hm)
      · rw [hst1]
        refine e4 b fun k x hk' hx e => ?_
        obtain ⟨c1, c2, c3, _⟩ := hf k x hx
        exact hb k x (by simp [addS, c1]) c3 c2 e
      · rw [hst1] at hx
        intro hxl
        obtain ⟨l, hl, hbr⟩ := g.rel.blk _ x hx hxl
        have hold := g.old (base + k) (by rw [hgn]; have := hh.room; omega)
        rw [hl] at hold
        obtain ⟨c1, y, c2⟩ := hh.side k l hk' hold.symm
        exact grow_beside hh.grow.rel hsub g (hh.loose k y c1 c2 (hnotj k hm)) (hrwOf c2) (hbeside k hk' hm) x hx hxl
      · have hold := g.old (base + k) (by rw [hgn]; have := hh.room; omega)
        rw [hm] at hold
        obtain ⟨c1, c2⟩ := hh.side k m hk' hold.symm
        exact ⟨by simp [addS, c1], c2⟩

omit hst in
theorem ready_all {listed : Array Bool} (hsz : listed.size = ops.size) (hr : Region.ready .any ops listed = []) : ∀ i, i < ops.size → listed.getD i false = true := by
  intro i
  induction i using Nat.strongRecOn with
  | _ i ih =>
    intro hi
    cases hc : listed.getD i false with
    | true => rfl
    | false =>
      have ho : ops[i]? = some ops[i] := Array.getElem?_eq_getElem hi
      have : i ∈ Region.ready .any ops listed := by
        rw [mem_ready]
        refine ⟨?_, ops[i], ho, fun e he hb => ?_⟩
        · rw [Array.getD_eq_getD_getElem?, Array.getElem?_eq_getElem (by omega)] at hc ⊢
          simpa using hc
        · have := hok.edge i _ e ho he hb
          exact ih e.on this (by omega)
      rw [hr] at this; cases this

omit hok hst in
theorem count_add (p q : Nat → Bool) (i : Nat) (hp : p i = true) (hq : ∀ k, q k = (p k && !(k == i))) : ∀ n, i < n → (List.range n).countP q + 1 = (List.range n).countP p := by
  intro n
  induction n with
  | zero => intro h; omega
  | succ n ih =>
    intro h
    rw [List.range_succ, List.countP_append, List.countP_append]
    by_cases e : i = n
    · subst e
      have h1 : (List.range i).countP q = (List.range i).countP p := List.countP_congr fun k hk => by
        rw [hq k]
        have : k ≠ i := by have := List.mem_range.1 hk; omega
        simp [this]
      have h2 : q i = false := by rw [hq]; simp
      simp [h1, h2, hp]
    · have := ih (by omega)
      have h2 : q n = p n := by rw [hq]; have : n ≠ i := fun h => e h.symm; simp [this]
      simp only [List.countP_singleton, h2]
      omega

theorem any_inv (hE : EnvOk2 P E) (hs : Sound P E G cf yl) (hG : h0.base = G) (hop : ∀ o ∈ ops.toList, okOp G o.op = true) (hp0 : (st 0).pend = []) (hb0 : h0.next ≤ base) (r : Option Nat) (d : Nat) {Q : Exit → Act → World → Prop}
    (hQ : ∀ S a' w', (∀ i, i < ops.size → S i = true) → Inv E ops base st v ρ0 h0 w0 ds S a' w' → Q .normal a' w') :
    ∀ (fuel : Nat) (listed : Array Bool) (a : Act) (w : World), listed.size = ops.size → (List.range ops.size).countP (fun k => !listed.getD k false) ≤ fuel →
      Inv E ops base st v ρ0 h0 w0 ds (fun k => listed.getD k false) a w → wpAnyIn (wideR r) d P .any ops Q fuel listed a w := by
  have step : ∀ (fuel : Nat) (listed : Array Bool) (a : Act) (w : World), listed.size = ops.size → Inv E ops base st v ρ0 h0 w0 ds (fun k => listed.getD k false) a w → Region.ready .any ops listed = [] → Q .normal a w := fun fuel listed a w hsz inv hr =>
    hQ _ a w (ready_all hok hsz hr) inv
  intro fuel
  induction fuel with
  | zero =>
    intro listed a w hsz hcnt inv
    have hall : ∀ i, i < ops.size → listed.getD i false = true := fun i hi => by
      have := List.countP_eq_zero.1 (Nat.le_zero.1 hcnt) i (List.mem_range.2 hi)
      simpa using this
    have hr : Region.ready .any ops listed = [] := by
      refine List.eq_nil_iff_forall_not_mem.2 fun i hm => ?_
      obtain ⟨h1, o, ho, _⟩ := mem_ready.1 hm
      have hi : i < ops.size := (Array.getElem?_eq_some_iff.1 ho).1
      have h2 := hall i hi
      rw [Array.getD_eq_getD_getElem?, Array.getElem?_eq_getElem (by omega)] at h1 h2
      simp at h1 h2
      rw [h1] at h2; cases h2
    exact ⟨hr, step 0 listed a w hsz inv hr⟩
  | succ fuel ih =>
    intro listed a w hsz hcnt inv
    refine ⟨step fuel listed a w hsz inv, fun i hm => ?_⟩
    obtain ⟨h1, o, ho, hall⟩ := mem_ready.1 hm
    have hi : i < ops.size := (Array.getElem?_eq_some_iff.1 ho).1
    have hSi : listed.getD i false = false := by
      rw [Array.getD_eq_getD_getElem?, Array.getElem?_eq_getElem (by omega)] at h1 ⊢
      simpa using h1
    have hset : (fun k => (listed.setIfInBounds i true).getD k false) = addS (fun k => listed.getD k false) i := by
      funext k
      by_cases e : k = i
      · subst e
        rw [addS_same, Array.getD_eq_getD_getElem?, Array.getElem?_setIfInBounds_self_of_lt (by omega)]; rfl
      · rw [addS_ne _ e, getD_set_ne false (Ne.symm e)]
    have hbf : ∀ k, (bfOf ops i).testBit k = true → listed.getD k false = true := fun k hb => by
      obtain ⟨e, he1, he2, he3⟩ := (bfOf_bit ho (fun e h => hok.edge i o e ho h) k).1 hb
      have := hall e he1 he2
      rcases he3 with he3 | he3
      · rw [← he3]; exact this
      · exact inv.down e.on k this he3
    refine step_inv hok hst hE hs hG hop hp0 hb0 inv ho hSi hbf r d fun a' w' inv' => ?_
    refine ih _ a' w' (by simp [hsz]) ?_ (by rw [hset]; exact inv')
    have := count_add (fun k => !listed.getD k false) (fun k => !(listed.setIfInBounds i true).getD k false) i (by simp only [hSi]; rfl) (fun k => by
      have := congrFun hset k
      rw [this]
      simp [addS]) ops.size hi
    omega
end
end

section
variable {P : Program} {E : Env} {ρ : Inj} {h : Heap} {w : World}

theorem before_size (ops : Array Oper) : (Region.before ops).size = ops.size := by
  rw [before_eq, beforeL_size]; simp

/-- A region. -/
theorem evRegion_wp (hE : EnvOk2 P E) (hm : P.follows .mixedOrders = true) {G : Nat} {cf : FuncId → List Value → Heap → Ans} {yl : Nat → List Value → Heap → Ans} (hs : Sound P E G cf yl) {ops : Array Oper} (hop : ∀ o ∈ ops.toList, okOp G o.op = true) {draw : Bool} (hok : draw = true → OkDraw ops)
    (hr : HRel ρ h w) (hb : h.base = G) {fr : Fr} {a : Act} (hf : FrRel ρ fr a) {fr' : Fr} {h' : Heap} (hev : evRegion E cf yl ops draw fr h = some (fr', h')) (id : Nat) (r : Option Nat) (d : Nat) {Q : Exit → Act → World → Prop}
    (hQ : ∀ a' w', Ends ρ h w fr' h' a.defers a' w' → Q .normal a' w') : (Code.region id ops draw).wpIn (wideR r) d P Q a w := by
  unfold evRegion at hev
  cases draw with
  | false =>
    simp only [Bool.false_eq_true, if_false] at hev
    refine wpIn_region ?_
    have := evSeq_wp hE hs hop r d (ds := a.defers) hQ ops.toList [] (by simp) fr h ρ a w hf rfl hb (.refl hr) hev
    simpa [List.range_eq_range'] using this
  | true =>
    simp only [if_true] at hev
    split at hev
    · rename_i s hs'
      cases hev
      have hok := hok rfl
      obtain ⟨st, v, e1, e2, e3⟩ := evDraw_steps E cf yl _ _ _ _ _ _ hs'
      have hlen : (ops.toList.zip (Region.before ops).toList).length = ops.size := by simp [before_size]
      rw [hlen, Nat.zero_add] at e2
      have hst : Steps E cf yl ops h.next st v := fun i o ho => by
        have hi : i < ops.size := (Array.getElem?_eq_some_iff.1 ho).1
        have := e3 i o (bfOf ops i) (by
          rw [List.getElem?_zip_eq_some]
          refine ⟨by rw [Array.getElem?_toList]; exact ho, ?_⟩
          rw [Array.getElem?_toList, Array.getElem?_eq_getElem (by rw [before_size]; exact hi)]
          unfold bfOf
          rw [Array.getD_eq_getD_getElem?, Array.getElem?_eq_getElem (by rw [before_size]; exact hi)]; rfl)
        simpa using this
      have hp0 : (st 0).pend = [] := by rw [e1]
      refine wpIn_region_any hm ?_
      have hg0 : Grow ρ h w ρ { h with next := h.next + ops.size } { w with drawn := w.drawn + 1 } := by
        have g := grow_drew hr (w' := { w with drawn := w.drawn + 1 }) rfl ⟨rfl, rfl, rfl⟩
        exact ⟨g.inj, g.old, ⟨g.rel.blk, g.rel.apartF, fun b hb => g.rel.fresh b (by simp at hb; omega), g.rel.glob⟩, by simp, rfl, g.size, g.frame, g.img, rfl, rfl, rfl⟩
      refine any_inv (ds := a.defers) (ρ0 := ρ) (h0 := h) (w0 := w) hok hst hE hs hb hop hp0 (Nat.le_refl _) r d ?_ ops.size _ a _ (by simp) ?_ ?_
      · intro S a' w' hall inv
        obtain ⟨ρ', ⟨F, hl, hrel, hF⟩, j, H, hh⟩ := inv.rel
        have hfr : ∀ x, lget F x = lget (st ops.size).fr x := fun x => by
          obtain ⟨k, hk, hw, he⟩ := hF x
          rw [he]
          refine fr_same hst x hk (Nat.le_refl _) fun m o hmo hd => ?_
          have hmn : m < ops.size := (Array.getElem?_eq_some_iff.1 hmo).1
          rw [← hw m o hmo hd, hall m hmn]; simp [hmn]
        have hsame : (st ops.size).h = (st j).h := heap_same hst (Nat.le_refl _) hh.le fun m hm => by
          rw [← hh.at_ m hm, hall m hm.lt]; simp [hm.lt]
        refine hQ a' w' ⟨ρ', ?_, inv.defers, ?_⟩
        · rw [← e2]; exact ⟨by rw [fr_length hst ops.size (Nat.le_refl _), ← hl]; exact hrel.1, fun x => by rw [← hfr x]; exact hrel.2 x⟩
        · refine hh.grow.sub ⟨?_, ?_, fun b x hb hx => ?_⟩
          · rw [(allPend_next _ _).1, ← e2, hsame, hh.hnext]
          · rw [(allPend_next _ _).2, ← e2, hsame, hh.hbase]
          · rcases get_allPend _ _ _ _ hb with ⟨p, hp, hid, hblk⟩ | hb
            · rw [← e2] at hp
              obtain ⟨_, h2, h3, h4⟩ := pend_mem hst hok hp0 ops.size (Nat.le_refl _) p hp
              rw [← hid, h2, ← hblk]
              exact hh.loose _ _ (hall _ h3.lt) h3 fun ⟨m, _, hhv, hbm⟩ => h4 ⟨m, hhv.lt, hhv, hbm⟩
            · rw [← e2, hsame] at hb
              rw [hh.rest b fun k y hsk hlk hmk e => ?_]
              · exact hb
              · subst e; exact hh.none k x hlk.lt hmk hb hx
      · have := List.countP_le_length (p := fun k => !(Array.replicate ops.size false).getD k false) (l := List.range ops.size)
        simpa using this
      · have hS : ∀ k, (Array.replicate ops.size false).getD k false = false := fun k => by
          rw [Array.getD_eq_getD_getElem?, Array.getElem?_replicate]; split <;> rfl
        have hfun : (fun k => (Array.replicate ops.size false).getD k false) = fun _ => false := funext hS
        rw [hfun]
        have h0 : (st 0).h = { h with next := h.next + ops.size } := by rw [e1]
        have hmn : ∀ k x, k < ops.size → (st 0).h.get (h.next + k) = some x → ¬ x.live := fun k x hk hx hl => by
          rw [h0] at hx
          obtain ⟨l, hl', _⟩ := hr.blk _ x hx hl
          rw [hr.fresh _ (by omega)] at hl'; cases hl'
        refine ⟨fun i hi => (by cases hi), fun i k hi => (by cases hi), rfl, ρ, ⟨fr, by rw [e1], hf, fun x => ⟨0, by omega, fun k o _ _ => (by simp), by rw [e1]⟩⟩, 0, { h with next := h.next + ops.size }, ?_⟩
        exact ⟨by omega, fun k _ => (by simp), hg0, by rw [h0], by rw [h0], by simp, fun k x hk => (by cases hk), fun b _ => (by rw [h0]), fun k x hk _ hx => hmn k x hk hx, fun k l hk hl => (by
          rw [hr.fresh _ (by omega)] at hl; cases hl)⟩
    · cases hev
end
end Go.Ab
