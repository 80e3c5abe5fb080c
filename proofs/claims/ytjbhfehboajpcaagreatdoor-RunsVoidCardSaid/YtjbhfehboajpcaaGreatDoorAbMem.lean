/-
  The abstract evaluator: what memory's operations do in the model where the abstract ones answer.
-/
import Derived.Test.YtjbhfehboajpcaaGreatDoorAbRel
import Derived.Laws.Cells
import Derived.Laws.Entries
import Derived.Laws.Rows
namespace Go.Ab
open Go

theorem VRels.of_all {ρ : Inj} {l : List Value} (h : ∀ v ∈ l, VRel ρ v v) : VRels ρ l l :=
  ⟨rfl, fun i x y hx hy => by rw [hx] at hy; cases hy; exact h x (List.mem_of_getElem? hx)⟩

theorem plain_rel {ρ : Inj} : ∀ (d : Nat) (v : Value), plainD d v = true → VRel ρ v v := by
  intro d
  induction d with
  | zero => intro v h; simp [plainD] at h
  | succ d ih =>
    intro v h
    unfold plainD at h
    split at h
    · exact .bool _
    · exact .int _ _
    · exact .string _
    · exact .nilPtr
    · exact .nilSlice
    · exact .nilMap
    · exact .nilFunc
    · exact .nilIface
    · exact .iface (ih _ h)
    · exact VRels.toAgg (VRels.of_all fun v hv => ih v ((List.all_eq_true.1 h) v hv))
    · exact VRels.toTuple (VRels.of_all fun v hv => ih v ((List.all_eq_true.1 h) v hv))
    · rename_i f a b
      simp only [Bool.and_eq_true, List.all_eq_true] at h
      have ha : VRels ρ a.toList a.toList := VRels.of_all fun v hv => ih v (h.1.2 v hv)
      have hb : VRels ρ b.toList b.toList := VRels.of_all fun v hv => ih v (h.2 v hv)
      exact .func (fun l e => by subst e; simp at h) rfl rfl (fun i x y h1 h2 => ha.2 i x y (by simpa using h1) (by simpa using h2)) (fun i x y h1 h2 => hb.2 i x y (by simpa using h1) (by simpa using h2))
    · cases h

structure EnvOk (P : Program) (E : Env) : Prop where
  info : ∀ t i, E.info t = some i → P.info? t = some i
  und : ∀ t d, E.und t = some d → P.underlying t = some d
  zero : ∀ t i z, E.info t = some i → i.zero = some z → plainD 50 z = true
  cmp : ∀ t, E.cmp t = true → P.stoodInHeld t = false ∧ P.eqGuardType P.depth t = false

section
variable {P : Program} {E : Env} {ρ : Inj} {h : Heap} {w : World}

theorem size_spec (hE : EnvOk P E) {t : TypeId} {n : Nat} (hs : size E t = some n) : ∃ i, P.info? t = some i ∧ i.size = n := by
  unfold size at hs
  split at hs
  · rename_i i hi; cases hs; exact ⟨i, hE.info _ _ hi, rfl⟩
  · cases hs

theorem run_size (hE : EnvOk P E) {t : TypeId} {n : Nat} (hs : size E t = some n) (w : World) : (Go.sizeOf t).run P w = .ok n w := by
  obtain ⟨i, hi, rfl⟩ := size_spec hE hs
  simp [Go.sizeOf, typeInfo, hi]

theorem run_und (hE : EnvOk P E) {t : TypeId} {d : TypeDesc} (hu : E.und t = some d) (w : World) : (underlying t).run P w = .ok d w := run_underlying (hE.und _ _ hu) w

theorem run_zero (hE : EnvOk P E) {t : TypeId} {z : Value} (hz : zero E t = some z) (w : World) : (zeroValue t).run P w = .ok z w := by
  unfold zero at hz
  split at hz
  · rename_i i hi; simp [zeroValue, typeInfo, hE.info _ _ hi, hz]
  · cases hz

theorem zero_rel (hE : EnvOk P E) {t : TypeId} {z : Value} (hz : zero E t = some z) : VRel ρ z z := by
  unfold zero at hz
  split at hz
  · rename_i i hi; exact plain_rel _ _ (hE.zero _ _ _ hi hz)
  · cases hz

theorem run_isAgg (hE : EnvOk P E) {t : TypeId} {d : TypeDesc} (hu : E.und t = some d) (w : World) : (Go.isAgg t).run P w = .ok (isAgg E t) w := by
  simp only [Go.isAgg, Sem.run_bind, run_und hE hu, Result.andThen_ok, isAgg, hu]
  cases d <;> rfl

theorem isAgg_und {t : TypeId} (ha : isAgg E t = true) : ∃ d, E.und t = some d := by
  unfold isAgg at ha
  split at ha <;> first | exact ⟨_, ‹_›⟩ | cases ha

/-! ### Rows of cells -/
theorem readList_spec : ∀ (cs : List Value) (o n : Nat) (l : List Value), readList cs o n = some l → l.length = n ∧ ∀ j, j < n → l[j]? = cs[o + j]? := by
  intro cs
  induction cs with
  | nil =>
    intro o n l hl
    cases n with
    | zero => simp [readList] at hl; subst hl; exact ⟨rfl, fun j hj => by omega⟩
    | succ n => simp [readList] at hl
  | cons c cs ih =>
    intro o n l hl
    cases n with
    | zero => simp [readList] at hl; subst hl; exact ⟨rfl, fun j hj => by omega⟩
    | succ n =>
      cases o with
      | zero =>
        simp only [readList] at hl
        split at hl
        · rename_i r hr
          cases hl
          obtain ⟨h1, h2⟩ := ih 0 n r hr
          refine ⟨by simp [h1], fun j hj => ?_⟩
          cases j with
          | zero => simp
          | succ j => simpa using h2 j (by omega)
        · cases hl
      | succ o =>
        simp only [readList] at hl
        obtain ⟨h1, h2⟩ := ih o (n + 1) l hl
        refine ⟨h1, fun j hj => ?_⟩
        rw [h2 j hj, show o + 1 + j = (o + j) + 1 from by omega, List.getElem?_cons_succ]

theorem splice_spec : ∀ (cs : List Value) (o : Nat) (vs r : List Value), splice cs o vs = some r →
    r.length = cs.length ∧ (vs = [] ∨ o + vs.length ≤ cs.length) ∧ ∀ k, r[k]? = if o ≤ k ∧ k < o + vs.length then vs[k - o]? else cs[k]? := by
  intro cs
  induction cs with
  | nil =>
    intro o vs r hr
    cases vs with
    | nil => simp [splice] at hr; subst hr; exact ⟨rfl, .inl rfl, fun k => by simp⟩
    | cons v vs => simp [splice] at hr
  | cons c cs ih =>
    intro o vs r hr
    cases vs with
    | nil => simp [splice] at hr; subst hr; exact ⟨rfl, .inl rfl, fun k => by rw [if_neg (by simp)]⟩
    | cons v vs =>
      cases o with
      | succ o =>
        simp only [splice] at hr
        split at hr
        · rename_i l hl
          cases hr
          obtain ⟨h1, h2, h3⟩ := ih o (v :: vs) l hl
          refine ⟨by simp [h1], .inr ?_, fun k => ?_⟩
          · rcases h2 with h2 | h2
            · cases h2
            · simp at h2 ⊢; omega
          · cases k with
            | zero => simp
            | succ k =>
              rw [List.getElem?_cons_succ, h3 k]
              by_cases hc : o ≤ k ∧ k < o + (v :: vs).length
              · rw [if_pos hc, if_pos (by omega)]; congr 1; omega
              · rw [if_neg hc, if_neg (by omega), List.getElem?_cons_succ]
        · cases hr
      | zero =>
        simp only [splice] at hr
        split at hr
        · rename_i l hl
          cases hr
          obtain ⟨h1, h2, h3⟩ := ih 0 vs l hl
          refine ⟨by simp [h1], .inr ?_, fun k => ?_⟩
          · rcases h2 with h2 | h2
            · subst h2; simp
            · simp at h2 ⊢; omega
          · cases k with
            | zero => simp
            | succ k =>
              rw [List.getElem?_cons_succ, h3 k]
              by_cases hc : 0 ≤ k ∧ k < 0 + vs.length
              · rw [if_pos hc, if_pos (by simp at hc ⊢; omega)]; simp
              · rw [if_neg hc, if_neg (by simp at hc ⊢; omega), List.getElem?_cons_succ]
        · cases hr

theorem oneCell_rel {v v' : Value} (hv : VRel ρ v v') (h1 : oneCell v = true) : v'.oneCell' = true := by
  cases hv <;> simp_all [oneCell, Value.oneCell']

theorem cell_of_heap {b : Nat} {c : Array Value} {elem : TypeId} {fz : Nat × Nat} (hw : w.heap[b]? = some (.cells c elem fz)) (o : Nat) : w.cell? ⟨b, o, none⟩ = c[o]? := by
  simp [World.cell?, hw]

/-- What is read, in the world. -/
theorem readCells_rel (hr : HRel ρ h w) {b o n : Nat} {l : List Value} (hl : readCells h b o n = some l) :
    ∃ k l', ρ b = some k ∧ l'.length = n ∧ VRels ρ l l' ∧ ∀ (j : Nat) (v : Value), l'[j]? = some v → w.cell? ⟨k.block, k.shift + o + j, none⟩ = some v := by
  unfold readCells at hl
  split at hl
  · rename_i cs ro ty hg
    obtain ⟨k, hk, c, elem, fz, h1, ht, h2, h3, h4, h5⟩ := hr.blk b _ hg trivial
    obtain ⟨hn, hj⟩ := readList_spec _ _ _ _ hl
    have hex : ∀ j, j < n → ∃ y, c[k.shift + (o + j)]? = some y ∧ ∀ x, l[j]? = some x → VRel ρ x y := fun j hlt => by
      have hx : l[j]? = some l[j] := List.getElem?_eq_getElem (by omega)
      have hc : cs[o + j]? = some l[j] := by rw [← hj j hlt]; exact hx
      obtain ⟨y, hy, hv⟩ := h4 _ _ hc
      exact ⟨y, hy, fun x e => by rw [hx] at e; cases e; exact hv⟩
    refine ⟨k, (List.range n).map fun j => (c[k.shift + (o + j)]?).getD undef, hk, by simp, ⟨by simp [hn], fun i x y hx hy => ?_⟩, fun j v hv => ?_⟩
    · have hi : i < n := by rw [← hn]; exact (List.getElem?_eq_some_iff.1 hx).1
      obtain ⟨y', hy', hv⟩ := hex i hi
      rw [List.getElem?_map, List.getElem?_range hi] at hy
      simp [hy'] at hy; subst hy
      exact hv x hx
    · have hi : j < n := by
        have := (List.getElem?_eq_some_iff.1 hv).1; simpa using this
      obtain ⟨y', hy', _⟩ := hex j hi
      rw [List.getElem?_map, List.getElem?_range hi] at hv
      simp [hy'] at hv; subst hv
      rw [cell_of_heap h1, Nat.add_assoc]; exact hy'
  · cases hl

theorem add_zero_addr (a : Addr) : a.add 0 = a := by simp [Addr.add]
theorem add_none (b o n : Nat) : Addr.add ⟨b, o, none⟩ n = ⟨b, o + n, none⟩ := by
  unfold Addr.add; split <;> simp_all

theorem run_loadCells_rel {b o n : Nat} {l' : List Value} (hn : l'.length = n) (hc : ∀ (j : Nat) (v : Value), l'[j]? = some v → w.cell? ⟨b, o + j, none⟩ = some v) :
    (loadCells ⟨b, o, none⟩ n).run P w = .ok l'.toArray w := by
  subst hn
  exact run_loadCells_list w _ l' (fun j v hv => by rw [add_none]; exact hc j v hv)

theorem loadAt_rel (hE : EnvOk P E) (hr : HRel ρ h w) {t : TypeId} {b o : Nat} {v : Value} (hl : loadAt E h t b o = some v) :
    ∃ k v', ρ b = some k ∧ VRel ρ v v' ∧ (loadVar t ⟨k.block, k.shift + o, none⟩).run P w = .ok v' w := by
  unfold loadAt at hl
  split at hl
  · rename_i n hn
    split at hl
    · rename_i ha
      obtain ⟨d, hu⟩ := isAgg_und ha
      split at hl
      · rename_i l hrd
        cases hl
        obtain ⟨k, l', hk, hlen, hv, hc⟩ := readCells_rel hr hrd
        refine ⟨k, .agg l'.toArray, hk, VRels.toAgg (by simpa using hv), ?_⟩
        simp [loadVar, run_isAgg hE hu, ha, run_size hE hn, run_loadCells_rel hlen hc]
      · cases hl
    · rename_i ha
      split at hl
      · cases hl
      · rename_i d hu
        split at hl
        · rename_i x hrd
          cases hl
          obtain ⟨k, l', hk, hlen, hv, hc⟩ := readCells_rel hr hrd
          obtain ⟨y, r, rfl, hy, _⟩ := hv.cons_inv
          refine ⟨k, y, hk, hy, ?_⟩
          have := hc 0 y rfl
          simp at this
          simp [loadVar, run_isAgg hE hu, ha, run_load, this]
        · cases hl
  · cases hl

theorem load_rel (hE : EnvOk P E) (hr : HRel ρ h w) {t : TypeId} {a a' v : Value} (ha : VRel ρ a a') (hl : load E h t a = some v) :
    ∃ v', VRel ρ v v' ∧ (Instr.loadAt t a').run P w = .ok v' w := by
  unfold load at hl
  split at hl
  · cases ha with
    | ptr hk =>
      obtain ⟨k, v', hk', hv, hrun⟩ := loadAt_rel hE hr hl
      rw [hk] at hk'; cases hk'
      exact ⟨v', hv, by simp [Instr.loadAt, Instr.sureAddr, hrun]⟩
  · cases hl

/-! ### Stores -/
def arrSplice (c : Array Value) (o : Nat) : List Value → Array Value
  | [] => c
  | v :: vs => arrSplice (c.setIfInBounds o v) (o + 1) vs

theorem arrSplice_size (vs : List Value) : ∀ (c : Array Value) (o : Nat), (arrSplice c o vs).size = c.size := by
  induction vs with
  | nil => intro c o; rfl
  | cons v vs ih => intro c o; simp [arrSplice, ih]

theorem arrSplice_get (vs : List Value) : ∀ (c : Array Value) (o k : Nat), o + vs.length ≤ c.size → (arrSplice c o vs)[k]? = if o ≤ k ∧ k < o + vs.length then vs[k - o]? else c[k]? := by
  induction vs with
  | nil => intro c o k _; rw [if_neg (by simp)]; rfl
  | cons v vs ih =>
    intro c o k hle
    simp at hle
    simp only [arrSplice]
    rw [ih _ _ _ (by simp; omega)]
    by_cases hk : k = o
    · subst hk
      rw [if_neg (by omega), if_pos (by simp), Array.getElem?_setIfInBounds_self_of_lt (by omega)]; simp
    · by_cases hc : o + 1 ≤ k ∧ k < o + 1 + vs.length
      · rw [if_pos hc, if_pos (by simp; omega)]
        obtain ⟨m, rfl⟩ : ∃ m, k = o + 1 + m := ⟨k - (o + 1), by omega⟩
        rw [show o + 1 + m - (o + 1) = m from by omega, show o + 1 + m - o = m + 1 from by omega, List.getElem?_cons_succ]
      · rw [if_neg hc, if_neg (by simp; omega), Array.getElem?_setIfInBounds_ne (Ne.symm hk)]

theorem run_storeCells_row (b : Nat) (elem : TypeId) (fz : Nat × Nat) : ∀ (vs : List Value) (c : Array Value) (o i : Nat) (w : World), w.heap[b]? = some (.cells c elem fz) →
    o + i + vs.length ≤ c.size → (∀ v ∈ vs, v.oneCell' = true) → (∀ j, o + i ≤ j → j < o + i + vs.length → ¬ (fz.1 ≤ j ∧ j < fz.2)) →
    (storeCells ⟨b, o, none⟩ vs i).run P w = .ok () { w with heap := w.heap.setIfInBounds b (.cells (arrSplice c (o + i) vs) elem fz) } := by
  intro vs
  induction vs with
  | nil =>
    intro c o i w hw _ _ _
    have : w.heap.setIfInBounds b (.cells c elem fz) = w.heap := by
      apply Array.ext_getElem?
      intro k
      by_cases hk : k = b
      · subst hk; rw [Array.getElem?_setIfInBounds_self_of_lt (Array.getElem?_eq_some_iff.1 hw).1, hw]
      · rw [Array.getElem?_setIfInBounds_ne (Ne.symm hk)]
    simp [storeCells, arrSplice, this]
  | cons v vs ih =>
    intro c o i w hw hle h1 hfz
    simp at hle
    have hb : b < w.heap.size := (Array.getElem?_eq_some_iff.1 hw).1
    have hcell : w.cell? ⟨b, o + i, none⟩ = some c[o + i] := by rw [cell_of_heap hw]; exact Array.getElem?_eq_getElem (by omega)
    have hfr : w.frozen? ⟨b, o + i, none⟩ = false := by
      simp only [World.frozen?, hw]
      have := hfz (o + i) (Nat.le_refl _) (by simp)
      simpa using this
    have hset : w.setCell ⟨b, o + i, none⟩ v = { w with heap := w.heap.setIfInBounds b (.cells (c.setIfInBounds (o + i) v) elem fz) } := by
      unfold World.setCell
      congr 1
      apply Array.ext_getElem?
      intro k
      by_cases hk : k = b
      · subst hk
        rw [Array.getElem?_modify, if_pos rfl, hw, Array.getElem?_setIfInBounds_self_of_lt hb]; simp
      · rw [Array.getElem?_modify, if_neg (Ne.symm hk), Array.getElem?_setIfInBounds_ne (Ne.symm hk)]
    have hst : (Go.store ⟨b, o + i, none⟩ v).run P w = .ok () { w with heap := w.heap.setIfInBounds b (.cells (c.setIfInBounds (o + i) v) elem fz) } := by
      have := run_store P w ⟨b, o + i, none⟩ v .plain (h1 v (by simp))
      rw [this, hcell]; simp [hfr, hset]
    simp only [storeCells, add_none, Sem.run_bind, hst, Result.andThen_ok]
    rw [ih (c.setIfInBounds (o + i) v) o (i + 1) _ (by simp [Array.getElem?_setIfInBounds_self_of_lt hb]) (by simp; omega) (fun x hx => h1 x (by simp [hx])) (fun j hj hj' => hfz j (by omega) (by simp; omega))]
    congr 2
    simp only [arrSplice, Nat.add_assoc]
    apply Array.ext_getElem?
    intro k
    by_cases hk : k = b
    · subst hk; simp [hb]
    · rw [Array.getElem?_setIfInBounds_ne (Ne.symm hk), Array.getElem?_setIfInBounds_ne (Ne.symm hk), Array.getElem?_setIfInBounds_ne (Ne.symm hk)]

/-- Cells that are written. -/
theorem writeCells_rel (hr : HRel ρ h w) {b o : Nat} {vs vs' : List Value} {h' : Heap} (hv : VRels ρ vs vs') (hw : writeCells h b o vs = some h') :
    ∃ k w', ρ b = some k ∧ (storeCells ⟨k.block, k.shift + o, none⟩ vs').run P w = .ok () w' ∧ Grow ρ h w ρ h' w' := by
  unfold writeCells at hw
  split at hw
  · rename_i cs ty hg
    split at hw
    · rename_i hone
      split at hw
      · rename_i cs' hs
        cases hw
        obtain ⟨k, hk, c, elem, fz, h1, ht, h2, h3, h4, h5⟩ := hr.blk b _ hg trivial
        obtain ⟨s1, s2, s3⟩ := splice_spec _ _ _ _ hs
        have hlen := hv.1
        have hone' : ∀ v ∈ vs', v.oneCell' = true := fun v hv' => by
          obtain ⟨i, hi⟩ := List.getElem?_of_mem hv'
          have hlt : i < vs.length := by rw [hlen]; exact (List.getElem?_eq_some_iff.1 hi).1
          exact oneCell_rel (hv.2 i _ _ (List.getElem?_eq_getElem hlt) hi) (List.all_eq_true.1 hone _ (List.getElem_mem hlt))
        by_cases hvs : vs = []
        · subst hvs
          obtain rfl := hv.nil_inv
          have hcs : cs' = cs := by
            apply List.ext_getElem?
            intro j
            rw [s3 j, if_neg (by simp)]
          subst hcs
          refine ⟨k, w, hk, rfl, ?_⟩
          have hwid : w.heap = w.heap.setIfInBounds k.block (.cells c elem fz) := by
            apply Array.ext_getElem?
            intro j
            by_cases hj : j = k.block
            · subst hj; rw [Array.getElem?_setIfInBounds_self_of_lt (Array.getElem?_eq_some_iff.1 h1).1, h1]
            · rw [Array.getElem?_setIfInBounds_ne (Ne.symm hj)]
          exact grow_upd hr hg rfl hk hwid ⟨rfl, rfl, rfl⟩ (fun _ => ⟨c, elem, fz, h1, ht, h2, h3, h4, h5⟩)
        · have hle : o + vs.length ≤ cs.length := s2.resolve_left hvs
          refine ⟨k, _, hk, run_storeCells_row k.block elem fz vs' c (k.shift + o) 0 w h1 (by omega) hone' (fun j hj hj' => ?_), ?_⟩
          · have := not_frozen (h5 rfl) (j - k.shift) (by omega)
            rw [show k.shift + (j - k.shift) = j from by omega] at this
            exact this
          · refine grow_upd hr hg rfl hk rfl ⟨rfl, rfl, rfl⟩ (fun _ => ?_)
            refine ⟨_, elem, fz, by simp [Array.getElem?_setIfInBounds_self_of_lt (Array.getElem?_eq_some_iff.1 h1).1]; rfl, ht, by omega, by rw [arrSplice_size]; omega, fun i x hx => ?_, h5⟩
            rw [arrSplice_get _ _ _ _ (by omega)]
            rw [s3 i] at hx
            by_cases hc : o ≤ i ∧ i < o + vs.length
            · rw [if_pos hc] at hx
              rw [if_pos (by omega)]
              obtain ⟨y, hy, hxy⟩ := hv.get hx
              exact ⟨y, by rw [show k.shift + i - (k.shift + o) = i - o from by omega]; exact hy, hxy⟩
            · rw [if_neg hc] at hx
              rw [if_neg (by omega)]
              exact h4 i x hx
      · cases hw
    · cases hw
  · cases hw

theorem store_rel (hE : EnvOk P E) (hr : HRel ρ h w) {t : TypeId} {a a' v v' : Value} {h' : Heap} (ha : VRel ρ a a') (hv : VRel ρ v v') (hs : store E h t a v = some h') :
    ∃ w', (Instr.storeAt t a' v').run P w = .ok () w' ∧ Grow ρ h w ρ h' w' := by
  unfold store at hs
  split at hs
  · rename_i b o n hn
    split at hs
    · rename_i hsz
      cases ha with
      | ptr hk =>
        have hc := hv.cells
        obtain ⟨k, w', hk', hrun, hg⟩ := writeCells_rel (P := P) hr hc hs
        rw [hk] at hk'; cases hk'
        refine ⟨w', ?_, hg⟩
        have hsz' : v'.cells.size = n := by have := hc.1; simp at this; omega
        simp [Instr.storeAt, Instr.sureAddr, storeVar, run_size hE hn, hsz', hrun]
    · cases hs
  · cases hs
end
end Go.Ab
