/-
  The abstract evaluator: the other operations that write, and functions without a body.
-/
import Derived.Test.YtlhipikeenlncaaGreatDoorAbAppend
import Derived.Lib.Bytealg
namespace Go.Ab
open Go

section
variable {P : Program} {E : Env} {ρ : Inj} {h : Heap} {w : World}

open Extern.Atomic in
theorem loadT1 (t : Extern.Atomic.T) (x : Value) : loadT t #[x] = (do Extern.Atomic.read t (← asAddr x)) := rfl
open Extern.Atomic in
theorem storeT2 (x y : Value) : storeT #[x, y] = (do Go.store (← asAddr x) y .atomic; pure none_) := rfl
open Extern.Atomic in
theorem swapT2 (t : Extern.Atomic.T) (x y : Value) : swapT t #[x, y] = (do
    let a ← asAddr x
    let old ← Extern.Atomic.read t a
    Go.store a y .atomic
    pure old) := rfl
open Extern.Atomic in
theorem casT3 (t : Extern.Atomic.T) (x y z : Value) : casT t #[x, y, z] = (do
    let a ← asAddr x
    if ← touchesFrozen a then unsupported (.unsafePointer "a write to bytes that a string shares")
    let eq ← match t, ← Extern.Atomic.read t a, y with
      | _, .int _ x, .int _ y => pure (x == y)
      | .ptr, .pointer x, .pointer y => samePointer x y
      | .int _, .pointer (some _), .int _ 0 | .int _, .int _ 0, .pointer (some _) => pure false
      | .int _, .pointer (some _), _ | .int _, _, .pointer (some _) => unsupported .addressObserved
      | _, _, _ => stuck "atomic.CompareAndSwap: old is no T"
    if eq then Go.store a z .atomic
    pure (.bool eq)) := rfl
open Extern.Atomic in
theorem update2 (op : IntKind → Int → Int → Sem Value) (k : IntKind) (b : Bool) (x y : Value) : update op k b #[x, y] = (do
    let a ← asAddr x
    let old ← Extern.Atomic.read (.int k) a
    let new ← op k (← asInt old) (← asInt y)
    Go.store a new .atomic
    pure (if b then new else old)) := rfl
theorem count2 (x y : Value) : Extern.BytealgCount.count #[x, y] = (do
    let b ← Extern.Bytes.bytesOf x
    let c ← Extern.Bytes.asByte y
    pure (goInt (b.foldl (fun n x => if x == c then n + 1 else n) (0 : Nat)))) := rfl
theorem indexByte2 (x y : Value) : Extern.BytealgIndexByte.indexByte #[x, y] = (do
    let b ← Extern.Bytes.bytesOf x
    let c ← Extern.Bytes.asByte y
    match (List.range b.size).find? fun i => b[i]! == c with
    | some i => pure (goInt i)
    | none => pure (goInt (-1))) := rfl

/-- What a function without a body does in the model. -/
def extSem : Extn → Array Value → Sem Value
  | .atomicLoad => Extern.Atomic.loadT (.int .u64)
  | .atomicStore => Extern.Atomic.storeT
  | .atomicSwap => Extern.Atomic.swapT (.int .u64)
  | .atomicCAS => Extern.Atomic.casT (.int .u64)
  | .atomicAdd => Extern.Atomic.update (Op.intArith .add) .u64 true
  | .count => Extern.BytealgCount.count
  | .indexByte => Extern.BytealgIndexByte.indexByte

theorem copy_rel (hE : EnvOk P E) (hr : HRel ρ h w) {dt : TypeId} {ats : Array TypeId} {ty : TypeId} {args : Array Value} {d d' x x' v : Value} {h' : Heap} (hdt : ats[0]? = some dt) (hd' : args[0]? = some d') (hx' : args[1]? = some x')
    (hd : VRel ρ d d') (hx : VRel ρ x x') (hv : copy E h dt d x = some (v, h')) : ∃ w', VRel ρ v v ∧ (Builtin.copy_ ats ty args).run P w = .ok v w' ∧ Grow ρ h w ρ h' w' := by
  unfold copy at hv
  split at hv
  · rename_i e base dl dc hu
    split at hv
    · rename_i es hes
      split at hv
      · rename_i xl nw hnew
        have hlen : (Builtin.lenOf x').run P w = .ok xl w := by
          unfold news at hnew
          split at hnew
          · rename_i e; cases e
          · cases hnew
          · cases hnew; cases hx; rfl
          · split at hnew
            · cases hnew; cases hx <;> rfl
            · cases hnew
          · split at hnew
            · cases hnew; cases hx; rfl
            · cases hnew
          · cases hnew
        have hd2 : ∃ base' dc', d' = .slice base' dl dc' := by cases hd <;> exact ⟨_, _, rfl⟩
        obtain ⟨base', dc', rfl⟩ := hd2
        have hrun : ∀ {l' : List Value} {w1 : World}, (Builtin.firstCells es (Nat.min xl dl) x').run P w = .ok l'.toArray w → (∀ a, base' = some a → (storeCells a l').run P w = .ok () w1) → (base' = none → w1 = w) →
            (Builtin.copy_ ats ty args).run P w = .ok (.int .i64 (Nat.min xl dl)) w1 := by
          intro l' w1 h1 h2 h3
          simp only [Builtin.copy_, hdt, hd', hx', Sem.run_bind, run_und hE hu, Result.andThen_ok, hlen, run_size hE hes, h1]
          cases base' with
          | none => simp [h3 rfl, goInt]
          | some a => simp [h2 a rfl, goInt]
        split at hv
        · rename_i h0
          cases hv
          have hfc : (Builtin.firstCells es (Nat.min xl dl) x').run P w = .ok ([] : List Value).toArray w := by
            rw [h0]
            unfold news at hnew
            split at hnew
            · rename_i e; cases e
            · cases hnew
            · cases hnew; cases hx; rfl
            · split at hnew
              · cases hnew; cases hx <;> simp [Builtin.firstCells, loadCells, loadCellsFrom]
              · cases hnew
            · split at hnew
              · cases hnew; cases hx
                simp only [Builtin.firstCells, Sem.run_pure]
                congr 1
                apply Array.toList_inj.1
                simp
              · cases hnew
            · cases hnew
          refine ⟨w, .int _ _, ?_, .refl hr⟩
          have := hrun hfc (fun a _ => run_storeCells_nil a w) (fun _ => rfl)
          rw [h0] at this
          exact this
        · rename_i h0
          split at hv
          · rename_i l b o hsrc
            split at hv
            · rename_i h1 hw
              cases hv
              have hfc : ∃ l', VRels ρ l l' ∧ (Builtin.firstCells es (Nat.min xl dl) x').run P w = .ok l'.toArray w := by
                split at hsrc
                · rename_i b2 o2 n2 c2
                  obtain ⟨k, l', hk, hlen2, hvl, hc⟩ := readCells_rel hr hsrc
                  refine ⟨l', hvl, ?_⟩
                  have hld := run_loadCells_rel (P := P) hlen2 hc
                  generalize hq : Value.slice (some ⟨b2, o2, none⟩) n2 c2 = q at hx
                  cases hx with
                  | slice hk' _ => cases hq; rw [hk] at hk'; cases hk'; exact hld
                  | fuzzy hk' _ _ => cases hq; rw [hk] at hk'; cases hk'; exact hld
                  | fuzzyEnd => cases hq; simp [Builtin.lenOf] at hlen; subst hlen; simp at h0
                  | emptyEnd => cases hq; simp [Builtin.lenOf] at hlen; subst hlen; simp at h0
                  | _ => cases hq
                · rename_i s
                  cases hsrc; cases hx
                  have hes1 : es = 1 := by
                    unfold news at hnew
                    simp only at hnew
                    split at hnew
                    · assumption
                    · cases hnew
                  refine ⟨_, VRels.of_all fun v hv => ?_, ?_⟩
                  · obtain ⟨c, _, rfl⟩ := List.mem_map.1 hv; exact .int _ _
                  · simp only [Builtin.firstCells, Sem.run_pure]
                    congr 1
                    apply Array.toList_inj.1
                    simp [ByteArray.data_extract, List.extract_eq_take_drop]
                · cases hsrc
              obtain ⟨l', hvl, hfc⟩ := hfc
              obtain ⟨k, w', hk, hst, hg⟩ := writeCells_rel (P := P) hr hvl hw
              refine ⟨w', .int _ _, ?_, hg⟩
              refine hrun hfc (fun a ha => ?_) (fun hh => ?_)
              · generalize hq : Value.slice (some ⟨b, o, none⟩) dl dc = q at hd
                cases hd with
                | slice hk' _ => cases hq; cases ha; rw [hk] at hk'; cases hk'; exact hst
                | fuzzy hk' _ _ => cases hq; cases ha; rw [hk] at hk'; cases hk'; exact hst
                | fuzzyEnd => cases hq; simp at h0
                | emptyEnd => cases hq; simp at h0
                | _ => cases hq
              · subst hh; generalize hq : Value.slice (some ⟨b, o, none⟩) dl dc = q at hd; cases hd <;> cases hq
            · cases hv
          · cases hv
      · cases hv
    · cases hv
  · cases hv

theorem clear_rel (hE : EnvOk P E) (hr : HRel ρ h w) {t : TypeId} {ats : Array TypeId} {ty : TypeId} {args : Array Value} {x x' : Value} {h' : Heap} (ht : ats[0]? = some t) (hx' : args[0]? = some x')
    (hx : VRel ρ x x') (hv : clearSlice E h t x = some h') : ∃ w', (Builtin.clear_ ats ty args).run P w = .ok (.tuple #[]) w' ∧ Grow ρ h w ρ h' w' := by
  unfold clearSlice at hv
  split at hv
  · rename_i hu
    cases hv; cases hx
    exact ⟨w, by simp only [Builtin.clear_, ht, hx', Sem.run_bind, run_und hE hu, Result.andThen_ok]; rfl, .refl hr⟩
  · rename_i e b o n c hu
    split at hv
    · rename_i hn0
      cases hv
      subst hn0
      refine ⟨w, ?_, .refl hr⟩
      simp only [Builtin.clear_, ht, hx', Sem.run_bind, run_und hE hu, Result.andThen_ok]
      cases hx <;> rfl
    · rename_i hn0
      split at hv
      · rename_i l hz
        obtain ⟨z, s, h1, h2, h3, h4, h5⟩ := zeros_spec (ρ := ρ) hE hz
        obtain ⟨k, w', hk, hst, hg⟩ := writeCells_rel (P := P) hr h5 hv
        refine ⟨w', ?_, hg⟩
        have hst' : (storeCells ⟨k.block, k.shift + o, none⟩ (Builtin.zeroCells z.cells n).toList).run P w = .ok () w' := by
          rw [zeroCells_eq, ← h4]; exact hst
        obtain ⟨m, rfl⟩ : ∃ m, n = m + 1 := ⟨n - 1, by omega⟩
        generalize hq : Value.slice (some ⟨b, o, none⟩) (m + 1) c = q at hx
        cases hx with
        | slice hk' _ =>
          cases hq; rw [hk] at hk'; cases hk'
          simp only [Builtin.clear_, ht, hx', Sem.run_bind, run_und hE hu, Result.andThen_ok, run_zero hE h1, hst']
          rfl
        | fuzzy hk' _ _ =>
          cases hq; rw [hk] at hk'; cases hk'
          simp only [Builtin.clear_, ht, hx', Sem.run_bind, run_und hE hu, Result.andThen_ok, run_zero hE h1, hst']
          rfl
        | _ => cases hq
      · cases hv
  · cases hv

theorem freeze_heap (w : World) (r n : Nat) (c : Array Value) (e : TypeId) (fz : Nat × Nat) (hw : w.heap[r]? = some (.cells c e fz)) :
    (w.freeze ⟨r, n, none⟩ 1).heap = w.heap.setIfInBounds r (.cells c e (if fz.1 == fz.2 then (n, n + 1) else (min fz.1 n, max fz.2 (n + 1)))) := by
  have hlt : r < w.heap.size := (Array.getElem?_eq_some_iff.1 hw).1
  simp only [World.freeze, Nat.one_ne_zero, if_false]
  apply Array.ext_getElem?
  intro k
  rw [Array.getElem?_modify]
  by_cases hk : r = k
  · subst hk
    rw [if_pos rfl, hw, Array.getElem?_setIfInBounds_self_of_lt hlt]
    rfl
  · rw [if_neg hk, Array.getElem?_setIfInBounds_ne hk]

theorem convertHeavy_rel (hE : EnvOk P E) (hr : HRel ρ h w) {src dst : TypeId} {x x' v : Value} {h' : Heap} (hx : VRel ρ x x') (hv : convertHeavy E h src dst x = some (v, h')) :
    ∃ v' w', VRel ρ v v' ∧ (Go.convert src dst x').run P w = .ok v' w' ∧ Grow ρ h w ρ h' w' := by
  unfold convertHeavy at hv
  split at hv
  · rename_i e1 e b o len cap hs hd
    split at hv
    · rename_i cs he hg
      split at hv
      · rename_i hsd
        cases hv
        obtain ⟨rfl, hcf, hc0⟩ := hsd
        rw [hs] at hd; cases hd
        obtain ⟨k, hk, c, elem, fz, h1, h2, h3, h4, h5⟩ := hr.blk b _ hg trivial
        have hlt : k.block < w.heap.size := (Array.getElem?_eq_some_iff.1 h1).1
        refine ⟨x', w.freeze ⟨k.block, c.size, none⟩ 1, hx, ?_, grow_upd hr hg rfl hk (freeze_heap w _ _ c elem fz h1) ⟨?_, ?_, ?_⟩ (fun _ => ⟨c, elem, _, by rw [freeze_heap w _ _ c elem fz h1, Array.getElem?_setIfInBounds_self_of_lt hlt], h2, h3, h4, fun _ => ?_⟩)⟩
        · cases hx with
          | slice hk' _ =>
            rw [hk] at hk'; cases hk'
            simp only [Go.convert, Sem.run_bind, run_und hE hs, Result.andThen_ok, beq_self_eq_true, run_und hE he]
            simp only [markStringish, Sem.run_bind, run_shape, Result.andThen_ok, World.shape?, h1, run_freeze, Sem.run_pure]
          | fuzzy => omega
          | fuzzyEnd => omega
          | emptyEnd => omega
        · rfl
        · rfl
        · rfl
        · have := h5 rfl
          split
          · right; simp only; omega
          · rename_i hne
            simp at hne
            rcases this with h | h
            · exact absurd h hne
            · right; simp only; omega
      · cases hv
    · cases hv
  · cases hv

/-! ### Texts, sign by sign -/
theorem range_rel (hE : EnvOk P E) (hr : HRel ρ h w) {t : TypeId} {s : ByteArray} (hu : E.und t = some .string) :
    ∃ v' ρ' w', VRel ρ' (.pointer (some ⟨h.next, 0, none⟩)) v' ∧ (Instr.range t (.string s)).run P w = .ok v' w' ∧ Grow ρ h w ρ' (h.push (.siter s 0)) w' := by
  refine ⟨.pointer (some ⟨w.heap.size, 0, none⟩), ρ.upd h.next ⟨w.heap.size, 0, 0⟩, { w with heap := w.heap.push (.stringIter s 0) }, ?_, ?_, grow_new hr rfl rfl ⟨rfl, rfl, rfl⟩ ⟨rfl, by simp⟩⟩
  · have := VRel.ptr (ρ := ρ.upd h.next ⟨w.heap.size, 0, 0⟩) (o := 0) (Inj.upd_same _ _ _)
    simpa using this
  · simp only [Instr.range, Sem.run_bind, run_und hE hu, Result.andThen_ok, Sem.run_pure, run_newObj]

theorem next_rel (hr : HRel ρ h w) {b pos : Nat} {s : ByteArray} {x' : Value} {ty : TypeId} (hx : VRel ρ (.pointer (some ⟨b, 0, none⟩)) x') (hg : h.get b = some (.siter s pos)) (hlt : pos < s.size) :
    ∃ w', (Instr.next x' true ty).run P w = .ok (.tuple #[.bool true, .int .i64 pos, .int .i32 (Utf8.decode s pos).1]) w' ∧ Grow ρ h w ρ (h.set b (.siter s (pos + (Utf8.decode s pos).2))) w' := by
  cases hx with
  | ptr hb =>
    rename_i l
    obtain ⟨l2, hl, h0, hw⟩ := hr.blk b _ hg trivial
    rw [hb] at hl; cases hl
    have hlt2 : l.block < w.heap.size := (Array.getElem?_eq_some_iff.1 hw).1
    refine ⟨{ w with heap := w.heap.setIfInBounds l.block (.stringIter s (pos + (Utf8.decode s pos).2)) }, ?_, grow_upd hr hg trivial hb rfl ⟨rfl, rfl, rfl⟩ (fun _ => ⟨h0, by simp [hlt2]⟩)⟩
    rw [h0]
    simp only [Instr.next, Nat.zero_add, Sem.run_bind]
    rw [show (getObj l.block).run P w = .ok (.stringIter s pos) w from by simp [getObj, Sem.run, hw]]
    simp only [Result.andThen_ok, if_pos hlt, Sem.run_bind]
    rw [show ∀ o, (setObj l.block o).run P w = .ok () { w with heap := w.heap.setIfInBounds l.block o } from fun o => by simp [setObj, Sem.run, hw]]
    simp [goInt]

theorem next_over (hr : HRel ρ h w) {b pos : Nat} {s : ByteArray} {x' : Value} {ty : TypeId} (hx : VRel ρ (.pointer (some ⟨b, 0, none⟩)) x') (hg : h.get b = some (.siter s pos)) (hlt : ¬ pos < s.size) :
    (Instr.next x' true ty).run P w = .ok (.tuple #[.bool false]) w := by
  cases hx with
  | ptr hb =>
    rename_i l
    obtain ⟨l2, hl, h0, hw⟩ := hr.blk b _ hg trivial
    rw [hb] at hl; cases hl
    rw [h0]
    simp only [Instr.next, Nat.zero_add, Sem.run_bind]
    rw [show (getObj l.block).run P w = .ok (.stringIter s pos) w from by simp [getObj, Sem.run, hw]]
    simp only [Result.andThen_ok, if_neg hlt, Sem.run_pure]

/-! ### Functions without a body -/
theorem read_one (hr : HRel ρ h w) {b o : Nat} {v : Value} (hl : readCells h b o 1 = some [v]) : ∃ k v', ρ b = some k ∧ VRel ρ v v' ∧ w.cell? ⟨k.block, k.shift + o, none⟩ = some v' := by
  obtain ⟨k, l', hk, hlen, hv, hc⟩ := readCells_rel hr hl
  obtain ⟨y, r, rfl, hy, _⟩ := hv.cons_inv
  have := hc 0 y rfl
  rw [Nat.add_zero] at this
  exact ⟨k, y, hk, hy, this⟩

theorem write_one (hr : HRel ρ h w) {b o : Nat} {v v' : Value} {h' : Heap} (hv : VRel ρ v v') (hw : writeCells h b o [v] = some h') {m : Mode} :
    ∃ k w', ρ b = some k ∧ (Go.store ⟨k.block, k.shift + o, none⟩ v' m).run P w = .ok () w' ∧ Grow ρ h w ρ h' w' := by
  obtain ⟨k, w', hk, hst, hg⟩ := writeCells_rel (P := P) hr (.cons hv .nil) hw
  refine ⟨k, w', hk, ?_, hg⟩
  simp only [storeCells, add_none, Nat.add_zero, Sem.run_bind] at hst
  have hone : v'.oneCell' = true := by
    unfold writeCells at hw
    split at hw
    · split at hw
      · rename_i h1
        exact oneCell_rel hv (by simpa using h1)
      · cases hw
    · cases hw
  have e : ∀ m, (Go.store ⟨k.block, k.shift + o, none⟩ v' m).run P w = (Go.store ⟨k.block, k.shift + o, none⟩ v' .plain).run P w := fun m => by
    rw [run_store P w _ v' m hone, run_store P w _ v' .plain hone]
    cases w.cell? ⟨k.block, k.shift + o, none⟩ with
    | some _ => rfl
    | none =>
      obtain ⟨cs, hg⟩ : ∃ cs, h.get b = some (.cells cs false) := by
        unfold writeCells at hw
        split at hw
        · exact ⟨_, ‹_›⟩
        · cases hw
      obtain ⟨k2, hk2, c, elem, fz, h1, _⟩ := hr.blk b _ hg trivial
      rw [hk] at hk2; cases hk2
      simp [World.farStore, h1]
  rw [e m]
  cases hq : (Go.store ⟨k.block, k.shift + o, none⟩ v' .plain).run P w with
  | ok u w2 => rw [hq] at hst; simp at hst; rw [hst]
  | halt a w2 => rw [hq] at hst; simp at hst

theorem u64_of_rel {n : Int} {v : Value} (hv : VRel ρ (.int .u64 n) v) : v = .int .u64 n := int_of_rel hv

theorem count_eq (c : UInt8) : ∀ (l : List UInt8) (n : Nat), countIn c l n = l.foldl (fun (n : Int) x => if x == c then n + 1 else n) n := by
  intro l
  induction l with
  | nil => intro n; rfl
  | cons x l ih =>
    intro n
    simp only [countIn, List.foldl_cons]
    split
    · exact ih _
    · exact ih _

theorem index_eq (c : UInt8) (l : List UInt8) : ∀ (i : Nat), indexIn c l i = match (List.range' i l.length).find? (fun j => l[j - i]? == some c) with
    | some j => (j : Int)
    | none => -1 := by
  induction l with
  | nil => intro i; rfl
  | cons x l ih =>
    intro i
    simp only [indexIn, List.length_cons, List.range'_succ, List.find?_cons]
    by_cases hx : (x == c) = true
    · have : ((x :: l)[i - i]? == some c) = true := by simp; simpa using hx
      rw [if_pos hx, this]
    · have : ((x :: l)[i - i]? == some c) = false := by simp; simpa using hx
      rw [if_neg hx, this, ih (i + 1)]
      have e : (List.range' (i + 1) l.length).find? (fun j => (x :: l)[j - i]? == some c) = (List.range' (i + 1) l.length).find? (fun j => l[j - (i + 1)]? == some c) := by
        have key : ∀ (ls : List Nat), (∀ j ∈ ls, i + 1 ≤ j) → ls.find? (fun j => (x :: l)[j - i]? == some c) = ls.find? (fun j => l[j - (i + 1)]? == some c) := by
          intro ls
          induction ls with
          | nil => intro _; rfl
          | cons j ls ih2 =>
            intro hj
            have := hj j (by simp)
            rw [List.find?_cons, List.find?_cons, show j - i = (j - (i + 1)) + 1 from by omega, List.getElem?_cons_succ, ih2 (fun k hk => hj k (by simp [hk]))]
        exact key _ (fun j hj => (List.mem_range'_1.1 hj).1)
      rw [e]

theorem extern_rel (hr : HRel ρ h w) {k : Extn} {args args' : List Value} {v : Value} {h' : Heap} (ha : VRels ρ args args') (hv : extern h k args = some (v, h')) :
    ∃ v' w', VRel ρ v v' ∧ (extSem k args'.toArray).run P w = .ok v' w' ∧ Grow ρ h w ρ h' w' := by
  unfold extern at hv
  split at hv
  · -- load
    rename_i b o
    obtain ⟨p, r, rfl, hp, hr2⟩ := ha.cons_inv
    obtain rfl := hr2.nil_inv
    split at hv
    · rename_i n hrd
      cases hv
      obtain ⟨l, v', hl, hv', hc⟩ := read_one hr hrd
      obtain rfl := u64_of_rel hv'
      cases hp with
      | ptr hl' =>
        rw [hl] at hl'; cases hl'
        exact ⟨_, w, .int _ _, by simp [extSem, loadT1, asAddr, Extern.Atomic.read, run_load, hc], .refl hr⟩
    · cases hv
  · rename_i b o x
    obtain ⟨p, r, rfl, hp, hr2⟩ := ha.cons_inv
    obtain ⟨x', r, rfl, hx, hr3⟩ := hr2.cons_inv
    obtain rfl := hr3.nil_inv
    split at hv
    · rename_i h1 hw
      cases hv
      obtain ⟨l, w', hl, hst, hg⟩ := write_one (P := P) hr hx hw (m := .atomic)
      cases hp with
      | ptr hl' =>
        rw [hl] at hl'; cases hl'
        exact ⟨.tuple #[], w', VRels.toTuple .nil, by simp [extSem, storeT2, asAddr, hst, Extern.Atomic.none_], hg⟩
    · cases hv
  · rename_i b o x
    obtain ⟨p, r, rfl, hp, hr2⟩ := ha.cons_inv
    obtain ⟨x', r, rfl, hx, hr3⟩ := hr2.cons_inv
    obtain rfl := hr3.nil_inv
    split at hv
    · rename_i n h1 hrd hw
      cases hv
      obtain ⟨l, v', hl, hv', hc⟩ := read_one hr hrd
      obtain rfl := u64_of_rel hv'
      obtain ⟨l2, w', hl2, hst, hg⟩ := write_one (P := P) hr hx hw (m := .atomic)
      rw [hl] at hl2; cases hl2
      cases hp with
      | ptr hl' =>
        rw [hl] at hl'; cases hl'
        exact ⟨_, w', .int _ _, by simp [extSem, swapT2, asAddr, Extern.Atomic.read, run_load, hc, hst], hg⟩
    · cases hv
  · rename_i b o kd was x
    obtain ⟨p, r, rfl, hp, hr2⟩ := ha.cons_inv
    obtain ⟨y', r, rfl, hy, hr3⟩ := hr2.cons_inv
    obtain ⟨x', r, rfl, hx, hr4⟩ := hr3.cons_inv
    obtain rfl := hr4.nil_inv
    split at hv
    · rename_i n h1 hrd hw
      cases hv
      obtain ⟨l, v', hl, hv', hc⟩ := read_one hr hrd
      obtain rfl := u64_of_rel hv'
      obtain ⟨l2, w', hl2, hst, hg⟩ := write_one (P := P) hr hx hw (m := .atomic)
      rw [hl] at hl2; cases hl2
      obtain ⟨cs, hgb⟩ : ∃ cs, h.get b = some (.cells cs false) := by
        unfold writeCells at hw
        split at hw
        · exact ⟨_, ‹_›⟩
        · cases hw
      obtain ⟨l3, hl3, c, elem, fz, g1, g2, g3, g4, g5⟩ := hr.blk b _ hgb trivial
      rw [hl] at hl3; cases hl3
      have ho : o < cs.length := by
        unfold readCells at hrd
        rw [hgb] at hrd
        simp only at hrd
        obtain ⟨h2, h3⟩ := readList_spec _ _ _ _ hrd
        have := h3 0 (by omega)
        rw [Nat.add_zero] at this
        exact (List.getElem?_eq_some_iff.1 (this.symm.trans rfl)).1
      have hfr : w.frozen? ⟨l.block, l.shift + o, none⟩ = false := by
        simp only [World.frozen?, g1]
        have := not_frozen (g5 rfl) o (by omega)
        simpa using this
      have hview : (viewAt l.block).run P w = .ok none w := by
        simp [viewAt, World.shape?, g1]
      cases hy
      cases hp with
      | ptr hl' =>
        rw [hl] at hl'; cases hl'
        refine ⟨.bool (n == was), if n == was then w' else w, .bool _, ?_, ?_⟩
        · simp only [extSem, casT3, asAddr, Sem.run_bind, Sem.run_pure, Result.andThen_ok, Extern.Atomic.touchesFrozen, hview, run_frozen, hfr, Bool.false_eq_true, if_false, Extern.Atomic.read, run_load, hc]
          by_cases e : (n == was) = true
          · have e' : n = was := by simpa using e
            subst e'
            simp [hst]
          · have e' : ¬ n = was := by simpa using e
            simp [e']
        · split
          · exact hg
          · exact .refl hr
    · cases hv
  · rename_i b o kd y
    obtain ⟨p, r, rfl, hp, hr2⟩ := ha.cons_inv
    obtain ⟨y', r, rfl, hy, hr3⟩ := hr2.cons_inv
    obtain rfl := hr3.nil_inv
    split at hv
    · rename_i n hrd
      split at hv
      · rename_i h1 hw
        cases hv
        obtain ⟨l, v', hl, hv', hc⟩ := read_one hr hrd
        obtain rfl := u64_of_rel hv'
        obtain ⟨l2, w', hl2, hst, hg⟩ := write_one (P := P) hr (.int .u64 _) hw (m := .atomic)
        rw [hl] at hl2; cases hl2
        cases hy
        cases hp with
        | ptr hl' =>
          rw [hl] at hl'; cases hl'
          exact ⟨_, w', .int _ _, by simp [extSem, update2, asAddr, Extern.Atomic.read, run_load, hc, asInt, asIntOf, Op.intArith, hst], hg⟩
      · cases hv
    · cases hv
  · -- count
    rename_i s c
    obtain ⟨s', r, rfl, hs, hr2⟩ := ha.cons_inv
    obtain ⟨c', r, rfl, hc, hr3⟩ := hr2.cons_inv
    obtain rfl := hr3.nil_inv
    cases hv; cases hs; cases hc
    refine ⟨_, w, .int _ _, ?_, .refl hr⟩
    have h8 : ∀ n : Int, (Extern.Bytes.asByte (.int .u8 n)).run P w = .ok (UInt8.ofNat n.toNat) w := fun n => rfl
    simp only [extSem, count2, Sem.run_bind, Extern.Bytes.bytesOf, Sem.run_pure, Result.andThen_ok, h8, goInt]
    rw [count_eq]
    congr 2
    exact Lib.foldl_data _ _ _
  · rename_i s c
    obtain ⟨s', r, rfl, hs, hr2⟩ := ha.cons_inv
    obtain ⟨c', r, rfl, hc, hr3⟩ := hr2.cons_inv
    obtain rfl := hr3.nil_inv
    cases hv; cases hs; cases hc
    refine ⟨_, w, .int _ _, ?_, .refl hr⟩
    have h8 : ∀ n : Int, (Extern.Bytes.asByte (.int .u8 n)).run P w = .ok (UInt8.ofNat n.toNat) w := fun n => rfl
    simp only [extSem, indexByte2, Sem.run_bind, Extern.Bytes.bytesOf, Sem.run_pure, Result.andThen_ok, h8]
    rw [index_eq]
    have e : (List.range s.size).find? (fun i => s[i]! == UInt8.ofNat c.toNat) = (List.range' 0 s.data.toList.length).find? (fun j => s.data.toList[j - 0]? == some (UInt8.ofNat c.toNat)) := by
      rw [List.range_eq_range', show s.data.toList.length = s.size from by simp]
      have key : ∀ (ls : List Nat), (∀ j ∈ ls, j < s.size) → ls.find? (fun i => s[i]! == UInt8.ofNat c.toNat) = ls.find? (fun j => s.data.toList[j - 0]? == some (UInt8.ofNat c.toNat)) := by
        intro ls
        induction ls with
        | nil => intro _; rfl
        | cons j ls ih =>
          intro hj
          have hlt := hj j (by simp)
          have h1 : s[j]! = s.data.toList[j]'(by simpa using hlt) := by
            rw [getElem!_pos s j hlt]; rfl
          rw [List.find?_cons, List.find?_cons, ih (fun k hk => hj k (by simp [hk])), h1, Nat.sub_zero, List.getElem?_eq_getElem (by simpa using hlt)]
          rfl
      exact key _ (fun j hj => by have := List.mem_range'_1.1 hj; omega)
    rw [e]
    split <;> rfl
  · cases hv
end
end Go.Ab
