/-
  The abstract evaluator: the other operations that write, and functions without a body.
-/
import Derived.Test.YtjbhfehboajpcaaGreatDoorAbAppend
import Derived.Lib.Bytealg
namespace Go.Ab
open Go

section
variable {P : Program} {E : Env} {ρ : Inj} {h : Heap} {w : World}

open Extern.Atomic in
theorem loadT1 (t : Extern.Atomic.T) (x : Value) : loadT t #[x] = (do Extern.Atomic.read t (← asAddr x)) := rfl
open Extern.Atomic in
theorem storeT2 (x y : Value) : storeT #[x, y] = (do Go.store (← asAddr x) y .atomic; pure none_) := rfl
open Extern.Atomic in
theorem swapT2 (t : Extern.Atomic.T) (x y : Value) : swapT t #[x, y] = (do
    let a ← asAddr x
    let old ← Extern.Atomic.read t a
    Go.store a y .atomic
    pure old) := rfl
open Extern.Atomic in
theorem casT3 (t : Extern.Atomic.T) (x y z : Value) : casT t #[x, y, z] = (do
    let a ← asAddr x
    if ← touchesFrozen a then unsupported (.unsafePointer "a write to bytes that a string shares")
    let eq ← match t, ← Extern.Atomic.read t a, y with
      | _, .int _ x, .int _ y => pure (x == y)
      | .ptr, .pointer x, .pointer y => samePointer x y
      | .int _, .pointer (some _), .int _ 0 | .int _, .int _ 0, .pointer (some _) => pure false
      | .int _, .pointer (some _), _ | .int _, _, .pointer (some _) => unsupported .addressObserved
      | _, _, _ => stuck "atomic.CompareAndSwap: old is no T"
    if eq then Go.store a z .atomic
    pure (.bool eq)) := rfl
open Extern.Atomic in
theorem update2 (op : IntKind → Int → Int → Sem Value) (k : IntKind) (b : Bool) (x y : Value) : update op k b #[x, y] = (do
    let a ← asAddr x
    let old ← Extern.Atomic.read (.int k) a
    let new ← op k (← asInt old) (← asInt y)
    Go.store a new .atomic
    pure (if b then new else old)) := rfl
theorem count2 (x y : Value) : Extern.BytealgCount.count #[x, y] = (do
    let b ← Extern.Bytes.bytesOf x
    let c ← Extern.Bytes.asByte y
    pure (goInt (b.foldl (fun n x => if x == c then n + 1 else n) (0 : Nat)))) := rfl
theorem indexByte2 (x y : Value) : Extern.BytealgIndexByte.indexByte #[x, y] = (do
    let b ← Extern.Bytes.bytesOf x
    let c ← Extern.Bytes.asByte y
    match (List.range b.size).find? fun i => b[i]! == c with
    | some i => pure (goInt i)
    | none => pure (goInt (-1))) := rfl

/-- What a function without a body does in the model. -/
def extSem : Extn → Array Value → Sem Value
  | .atomicLoad => Extern.Atomic.loadT (.int .u64)
  | .atomicStore => Extern.Atomic.storeT
  | .atomicSwap => Extern.Atomic.swapT (.int .u64)
  | .atomicCAS => Extern.Atomic.casT (.int .u64)
  | .atomicAdd => Extern.Atomic.update (Op.intArith .add) .u64 true
  | .noEscape => Extern.AbiNoEscape.same
  | .makeNoZero t => Extern.BytealgMakeNoZero.makeNoZero #[] #[t]
  | .count => Extern.BytealgCount.count
  | .indexByte => Extern.BytealgIndexByte.indexByte

theorem copy_rel (hE : EnvOk P E) (hr : HRel ρ h w) {dt : TypeId} {ats : Array TypeId} {ty : TypeId} {args : Array Value} {d d' x x' v : Value} {h' : Heap} (hdt : ats[0]? = some dt) (hd' : args[0]? = some d') (hx' : args[1]? = some x')
    (hd : VRel ρ d d') (hx : VRel ρ x x') (hv : copy E h dt d x = some (v, h')) : ∃ w', VRel ρ v v ∧ (Builtin.copy_ ats ty args).run P w = .ok v w' ∧ Grow ρ h w ρ h' w' := by
  unfold copy at hv
  split at hv
  · rename_i e base dl dc hu
    split at hv
    · rename_i es hes
      split at hv
      · rename_i xl nw hnew
        have hlen : (Builtin.lenOf x').run P w = .ok xl w := by
          unfold news at hnew
          split at hnew
          · rename_i e; cases e
          · cases hnew
          · cases hnew; cases hx; rfl
          · split at hnew
            · cases hnew; cases hx <;> rfl
            · cases hnew
          · split at hnew
            · cases hnew; cases hx; rfl
            · cases hnew
          · cases hnew
        have hd2 : ∃ base' dc', d' = .slice base' dl dc' := by cases hd <;> exact ⟨_, _, rfl⟩
        obtain ⟨base', dc', rfl⟩ := hd2
        have hrun : ∀ {l' : List Value} {w1 : World}, (Builtin.firstCells es (Nat.min xl dl) x').run P w = .ok l'.toArray w → (∀ a, base' = some a → (storeCells a l').run P w = .ok () w1) → (base' = none → w1 = w) →
            (Builtin.copy_ ats ty args).run P w = .ok (.int .i64 (Nat.min xl dl)) w1 := by
          intro l' w1 h1 h2 h3
          simp only [Builtin.copy_, hdt, hd', hx', Sem.run_bind, run_und hE hu, Result.andThen_ok, hlen, run_size hE hes, h1]
          cases base' with
          | none => simp [h3 rfl, goInt]
          | some a => simp [h2 a rfl, goInt]
        split at hv
        · rename_i h0
          cases hv
          have hfc : (Builtin.firstCells es (Nat.min xl dl) x').run P w = .ok ([] : List Value).toArray w := by
            rw [h0]
            unfold news at hnew
            split at hnew
            · rename_i e; cases e
            · cases hnew
            · cases hnew; cases hx; rfl
            · split at hnew
              · cases hnew; cases hx <;> simp [Builtin.firstCells, loadCells, loadCellsFrom]
              · cases hnew
            · split at hnew
              · cases hnew; cases hx
                simp only [Builtin.firstCells, Sem.run_pure]
                congr 1
                apply Array.toList_inj.1
                simp
              · cases hnew
            · cases hnew
          refine ⟨w, .int _ _, ?_, .refl hr⟩
          have := hrun hfc (fun a _ => run_storeCells_nil a w) (fun _ => rfl)
          rw [h0] at this
          exact this
        · rename_i h0
          split at hv
          · rename_i l b o hsrc
            split at hv
            · rename_i h1 hw
              cases hv
              have hfc : ∃ l', VRels ρ l l' ∧ (Builtin.firstCells es (Nat.min xl dl) x').run P w = .ok l'.toArray w := by
                split at hsrc
                · rename_i b2 o2 n2 c2
                  obtain ⟨k, l', hk, hlen2, hvl, hc⟩ := readCells_rel hr hsrc
                  refine ⟨l', hvl, ?_⟩
                  have hld := run_loadCells_rel (P := P) hlen2 hc
                  generalize hq : Value.slice (some ⟨b2, o2, none⟩) n2 c2 = q at hx
                  cases hx with
                  | slice hk' _ => cases hq; rw [hk] at hk'; cases hk'; exact hld
                  | fuzzy hk' _ _ => cases hq; rw [hk] at hk'; cases hk'; exact hld
                  | fuzzyEnd => cases hq; simp [Builtin.lenOf] at hlen; subst hlen; simp at h0
                  | emptyEnd => cases hq; simp [Builtin.lenOf] at hlen; subst hlen; simp at h0
                  | _ => cases hq
                · rename_i s
                  cases hsrc; cases hx
                  have hes1 : es = 1 := by
                    unfold news at hnew
                    simp only at hnew
                    split at hnew
                    · assumption
                    · cases hnew
                  refine ⟨_, VRels.of_all fun v hv => ?_, ?_⟩
                  · obtain ⟨c, _, rfl⟩ := List.mem_map.1 hv; exact .int _ _
                  · simp only [Builtin.firstCells, Sem.run_pure]
                    congr 1
                    apply Array.toList_inj.1
                    simp [ByteArray.data_extract, List.extract_eq_take_drop]
                · cases hsrc
              obtain ⟨l', hvl, hfc⟩ := hfc
              obtain ⟨k, w', hk, hst, hg⟩ := writeCells_rel (P := P) hr hvl hw
              refine ⟨w', .int _ _, ?_, hg⟩
              refine hrun hfc (fun a ha => ?_) (fun hh => ?_)
              · generalize hq : Value.slice (some ⟨b, o, none⟩) dl dc = q at hd
                cases hd with
                | slice hk' _ => cases hq; cases ha; rw [hk] at hk'; cases hk'; exact hst
                | fuzzy hk' _ _ => cases hq; cases ha; rw [hk] at hk'; cases hk'; exact hst
                | fuzzyEnd => cases hq; simp at h0
                | emptyEnd => cases hq; simp at h0
                | _ => cases hq
              · subst hh; generalize hq : Value.slice (some ⟨b, o, none⟩) dl dc = q at hd; cases hd <;> cases hq
            · cases hv
          · cases hv
      · cases hv
    · cases hv
  · cases hv

theorem clear_rel (hE : EnvOk P E) (hr : HRel ρ h w) {t : TypeId} {ats : Array TypeId} {ty : TypeId} {args : Array Value} {x x' : Value} {h' : Heap} (ht : ats[0]? = some t) (hx' : args[0]? = some x')
    (hx : VRel ρ x x') (hv : clearSlice E h t x = some h') : ∃ w', (Builtin.clear_ ats ty args).run P w = .ok (.tuple #[]) w' ∧ Grow ρ h w ρ h' w' := by
  unfold clearSlice at hv
  split at hv
  · rename_i hu
    cases hv; cases hx
    exact ⟨w, by simp only [Builtin.clear_, ht, hx', Sem.run_bind, run_und hE hu, Result.andThen_ok]; rfl, .refl hr⟩
  · rename_i e b o n c hu
    split at hv
    · rename_i hn0
      cases hv
      subst hn0
      refine ⟨w, ?_, .refl hr⟩
      simp only [Builtin.clear_, ht, hx', Sem.run_bind, run_und hE hu, Result.andThen_ok]
      cases hx <;> rfl
    · rename_i hn0
      split at hv
      · rename_i l hz
        obtain ⟨z, s, h1, h2, h3, h4, h5⟩ := zeros_spec (ρ := ρ) hE hz
        obtain ⟨k, w', hk, hst, hg⟩ := writeCells_rel (P := P) hr h5 hv
        refine ⟨w', ?_, hg⟩
        have hst' : (storeCells ⟨k.block, k.shift + o, none⟩ (Builtin.zeroCells z.cells n).toList).run P w = .ok () w' := by
          rw [zeroCells_eq, ← h4]; exact hst
        obtain ⟨m, rfl⟩ : ∃ m, n = m + 1 := ⟨n - 1, by omega⟩
        generalize hq : Value.slice (some ⟨b, o, none⟩) (m + 1) c = q at hx
        cases hx with
        | slice hk' _ =>
          cases hq; rw [hk] at hk'; cases hk'
          simp only [Builtin.clear_, ht, hx', Sem.run_bind, run_und hE hu, Result.andThen_ok, run_zero hE h1, hst']
          rfl
        | fuzzy hk' _ _ =>
          cases hq; rw [hk] at hk'; cases hk'
          simp only [Builtin.clear_, ht, hx', Sem.run_bind, run_und hE hu, Result.andThen_ok, run_zero hE h1, hst']
          rfl
        | _ => cases hq
      · cases hv
  · cases hv

theorem freeze_heap (w : World) (r n : Nat) (c : Array Value) (e : TypeId) (fz : Nat × Nat) (hw : w.heap[r]? = some (.cells c e fz)) :
    (w.freeze ⟨r, n, none⟩ 1).heap = w.heap.setIfInBounds r (.cells c e (if fz.1 == fz.2 then (n, n + 1) else (min fz.1 n, max fz.2 (n + 1)))) := by
  have hlt : r < w.heap.size := (Array.getElem?_eq_some_iff.1 hw).1
  simp only [World.freeze, Nat.one_ne_zero, if_false]
  apply Array.ext_getElem?
  intro k
  rw [Array.getElem?_modify]
  by_cases hk : r = k
  · subst hk
    rw [if_pos rfl, hw, Array.getElem?_setIfInBounds_self_of_lt hlt]
    rfl
  · rw [if_neg hk, Array.getElem?_setIfInBounds_ne hk]

theorem convertHeavy_rel (hE : EnvOk P E) (hr : HRel ρ h w) {src dst : TypeId} {x x' v : Value} {h' : Heap} (hx : VRel ρ x x') (hv : convertHeavy E h src dst x = some (v, h')) :
    ∃ v' w', VRel ρ v v' ∧ (Go.convert src dst x').run P w = .ok v' w' ∧ Grow ρ h w ρ h' w' := by
  unfold convertHeavy at hv
  split at hv
  · rename_i e1 e b o len cap hs hd
    split at hv
    · rename_i cs ty he hg
      split at hv
      · rename_i hsd
        cases hv
        obtain ⟨rfl, hcf, hc0⟩ := hsd
        rw [hs] at hd; cases hd
        obtain ⟨k, hk, c, elem, fz, h1, ht, h2, h3, h4, h5⟩ := hr.blk b _ hg trivial
        have hlt : k.block < w.heap.size := (Array.getElem?_eq_some_iff.1 h1).1
        refine ⟨x', w.freeze ⟨k.block, c.size, none⟩ 1, hx, ?_, grow_upd hr hg rfl hk (freeze_heap w _ _ c elem fz h1) ⟨?_, ?_, ?_⟩ (fun _ => ⟨c, elem, _, by rw [freeze_heap w _ _ c elem fz h1, Array.getElem?_setIfInBounds_self_of_lt hlt], ht, h2, h3, h4, fun _ => ?_⟩)⟩
        · cases hx with
          | slice hk' _ =>
            rw [hk] at hk'; cases hk'
            simp only [Go.convert, Sem.run_bind, run_und hE hs, Result.andThen_ok, beq_self_eq_true, run_und hE he]
            simp only [markStringish, Sem.run_bind, run_shape, Result.andThen_ok, World.shape?, h1, run_freeze, Sem.run_pure]
          | fuzzy => omega
          | fuzzyEnd => omega
          | emptyEnd => omega
        · rfl
        · rfl
        · rfl
        · have := h5 rfl
          split
          · right; simp only; omega
          · rename_i hne
            simp at hne
            rcases this with h | h
            · exact absurd h hne
            · right; simp only; omega
      · cases hv
    · cases hv
  · cases hv

/-! ### Texts, sign by sign -/
theorem range_rel (hE : EnvOk P E) (hr : HRel ρ h w) {t : TypeId} {s : ByteArray} (hu : E.und t = some .string) :
    ∃ v' ρ' w', VRel ρ' (.pointer (some ⟨h.next, 0, none⟩)) v' ∧ (Instr.range t (.string s)).run P w = .ok v' w' ∧ Grow ρ h w ρ' (h.push (.siter s 0)) w' := by
  refine ⟨.pointer (some ⟨w.heap.size, 0, none⟩), ρ.upd h.next ⟨w.heap.size, 0, 0⟩, { w with heap := w.heap.push (.stringIter s 0) }, ?_, ?_, grow_new hr rfl rfl ⟨rfl, rfl, rfl⟩ ⟨rfl, by simp⟩⟩
  · have := VRel.ptr (ρ := ρ.upd h.next ⟨w.heap.size, 0, 0⟩) (o := 0) (Inj.upd_same _ _ _)
    simpa using this
  · simp only [Instr.range, Sem.run_bind, run_und hE hu, Result.andThen_ok, Sem.run_pure, run_newObj]

theorem next_rel (hr : HRel ρ h w) {b pos : Nat} {s : ByteArray} {x' : Value} {ty : TypeId} (hx : VRel ρ (.pointer (some ⟨b, 0, none⟩)) x') (hg : h.get b = some (.siter s pos)) (hlt : pos < s.size) :
    ∃ w', (Instr.next x' true ty).run P w = .ok (.tuple #[.bool true, .int .i64 pos, .int .i32 (Utf8.decode s pos).1]) w' ∧ Grow ρ h w ρ (h.set b (.siter s (pos + (Utf8.decode s pos).2))) w' := by
  cases hx with
  | ptr hb =>
    rename_i l
    obtain ⟨l2, hl, h0, hw⟩ := hr.blk b _ hg trivial
    rw [hb] at hl; cases hl
    have hlt2 : l.block < w.heap.size := (Array.getElem?_eq_some_iff.1 hw).1
    refine ⟨{ w with heap := w.heap.setIfInBounds l.block (.stringIter s (pos + (Utf8.decode s pos).2)) }, ?_, grow_upd hr hg trivial hb rfl ⟨rfl, rfl, rfl⟩ (fun _ => ⟨h0, by simp [hlt2]⟩)⟩
    rw [h0]
    simp only [Instr.next, Nat.zero_add, Sem.run_bind]
    rw [show (getObj l.block).run P w = .ok (.stringIter s pos) w from by simp [getObj, Sem.run, hw]]
    simp only [Result.andThen_ok, if_pos hlt, Sem.run_bind]
    rw [show ∀ o, (setObj l.block o).run P w = .ok () { w with heap := w.heap.setIfInBounds l.block o } from fun o => by simp [setObj, Sem.run, hw]]
    simp [goInt]

theorem next_over (hr : HRel ρ h w) {b pos : Nat} {s : ByteArray} {x' : Value} {ty : TypeId} (hx : VRel ρ (.pointer (some ⟨b, 0, none⟩)) x') (hg : h.get b = some (.siter s pos)) (hlt : ¬ pos < s.size) :
    (Instr.next x' true ty).run P w = .ok (.tuple #[.bool false]) w := by
  cases hx with
  | ptr hb =>
    rename_i l
    obtain ⟨l2, hl, h0, hw⟩ := hr.blk b _ hg trivial
    rw [hb] at hl; cases hl
    rw [h0]
    simp only [Instr.next, Nat.zero_add, Sem.run_bind]
    rw [show (getObj l.block).run P w = .ok (.stringIter s pos) w from by simp [getObj, Sem.run, hw]]
    simp only [Result.andThen_ok, if_neg hlt, Sem.run_pure]

/-! ### Functions without a body -/
theorem read_one (hr : HRel ρ h w) {b o : Nat} {v : Value} (hl : readCells h b o 1 = some [v]) : ∃ k v', ρ b = some k ∧ VRel ρ v v' ∧ w.cell? ⟨k.block, k.shift + o, none⟩ = some v' := by
  obtain ⟨k, l', hk, hlen, hv, hc⟩ := readCells_rel hr hl
  obtain ⟨y, r, rfl, hy, _⟩ := hv.cons_inv
  have := hc 0 y rfl
  rw [Nat.add_zero] at this
  exact ⟨k, y, hk, hy, this⟩

theorem write_one (hr : HRel ρ h w) {b o : Nat} {v v' : Value} {h' : Heap} (hv : VRel ρ v v') (hw : writeCells h b o [v] = some h') {m : Mode} :
    ∃ k w', ρ b = some k ∧ (Go.store ⟨k.block, k.shift + o, none⟩ v' m).run P w = .ok () w' ∧ Grow ρ h w ρ h' w' := by
  obtain ⟨k, w', hk, hst, hg⟩ := writeCells_rel (P := P) hr (.cons hv .nil) hw
  refine ⟨k, w', hk, ?_, hg⟩
  simp only [storeCells, add_none, Nat.add_zero, Sem.run_bind] at hst
  have hone : v'.oneCell' = true := by
    unfold writeCells at hw
    split at hw
    · split at hw
      · rename_i h1
        exact oneCell_rel hv (by simpa using h1)
      · cases hw
    · cases hw
  have e : ∀ m, (Go.store ⟨k.block, k.shift + o, none⟩ v' m).run P w = (Go.store ⟨k.block, k.shift + o, none⟩ v' .plain).run P w := fun m => by
    rw [run_store P w _ v' m hone, run_store P w _ v' .plain hone]
    cases w.cell? ⟨k.block, k.shift + o, none⟩ with
    | some _ => rfl
    | none =>
      obtain ⟨cs, ty, hg⟩ : ∃ cs ty, h.get b = some (.cells cs false ty) := by
        unfold writeCells at hw
        split at hw
        · exact ⟨_, _, ‹_›⟩
        · cases hw
      obtain ⟨k2, hk2, c, elem, fz, h1, _⟩ := hr.blk b _ hg trivial
      rw [hk] at hk2; cases hk2
      simp [World.farStore, h1]
  rw [e m]
  cases hq : (Go.store ⟨k.block, k.shift + o, none⟩ v' .plain).run P w with
  | ok u w2 => rw [hq] at hst; simp at hst; rw [hst]
  | halt a w2 => rw [hq] at hst; simp at hst

theorem u64_of_rel {n : Int} {v : Value} (hv : VRel ρ (.int .u64 n) v) : v = .int .u64 n := int_of_rel hv

theorem count_eq (c : UInt8) : ∀ (l : List UInt8) (n : Nat), countIn c l n = l.foldl (fun (n : Int) x => if x == c then n + 1 else n) n := by
  intro l
  induction l with
  | nil => intro n; rfl
  | cons x l ih =>
    intro n
    simp only [countIn, List.foldl_cons]
    split
    · exact ih _
    · exact ih _

theorem index_eq (c : UInt8) (l : List UInt8) : ∀ (i : Nat), indexIn c l i = match (List.range' i l.length).find? (fun j => l[j - i]? == some c) with
    | some j => (j : Int)
    | none => -1 := by
  induction l with
  | nil => intro i; rfl
  | cons x l ih =>
    intro i
    simp only [indexIn, List.length_cons, List.range'_succ, List.find?_cons]
    by_cases hx : (x == c) = true
    · have : ((x :: l)[i - i]? == some c) = true := by simp; simpa using hx
      rw [if_pos hx, this]
    · have : ((x :: l)[i - i]? == some c) = false := by simp; simpa using hx
      rw [if_neg hx, this, ih (i + 1)]
      have e : (List.range' (i + 1) l.length).find? (fun j => (x :: l)[j - i]? == some c) = (List.range' (i + 1) l.length).find? (fun j => l[j - (i + 1)]? == some c) := by
        have key : ∀ (ls : List Nat), (∀ j ∈ ls, i + 1 ≤ j) → ls.find? (fun j => (x :: l)[j - i]? == some c) = ls.find? (fun j => l[j - (i + 1)]? == some c) := by
          intro ls
          induction ls with
          | nil => intro _; rfl
          | cons j ls ih2 =>
            intro hj
            have := hj j (by simp)
            rw [List.find?_cons, List.find?_cons, show j - i = (j - (i + 1)) + 1 from by omega, List.getElem?_cons_succ, ih2 (fun k hk => hj k (by simp [hk]))]
        exact key _ (fun j hj => (List.mem_range'_1.1 hj).1)
      rw [e]

/-! ### Bytes in memory, seen as a text -/
theorem unsafeSliceData1 (ats : Array TypeId) (ty : TypeId) (a : Addr) (n c : Nat) : Builtin.unsafeSliceData_ ats ty #[.slice (some a) n c] = (do
    if c ≠ 0 then pure (.pointer (some a))
    else if (← viewAt a.block).isSome then pure (.pointer (some a))
    else pure (.pointer (some ⟨← newObj (.view a (← elemOf ty)), 0, none⟩))) := rfl
theorem unsafeString2 (ats : Array TypeId) (ty : TypeId) (p : Option Addr) (x : Value) : Builtin.unsafeString_ ats ty #[.pointer p, x] = (do
    let n ← asInt x
    let some pt := ats[0]? | stuck "unsafe.String: no argument types"
    if n < 0 then runtimePanic (.error "unsafe.String: len out of range")
    if n > IntKind.i64.max then unsupported (.unsafePointer "String: a length above the largest int")
    match p with
    | none =>
      if n = 0 then pure (.string .empty)
      else runtimePanic (.error "unsafe.String: ptr is nil and len is not zero")
    | some a =>
      if n = 0 then pure (.string .empty)
      else if ← variablesAt a (← elemOf pt) n.toNat then do
        let s ← loadBytes a .empty n.toNat
        freeze a n.toNat
        pure (.string s)
      else unsupported (.unsafePointer "String: not so many bytes at ptr")) := rfl
theorem makeNoZero1 (ps rs : Array TypeId) (n : Int) : Extern.BytealgMakeNoZero.makeNoZero ps rs #[.int .i64 n] = (do
    let some t := rs[0]? | stuck "bytealg.MakeNoZero: no result type"
    let .slice elem ← underlying t | stuck "bytealg.MakeNoZero: slice type expected"
    if n < 0 || n > 2 ^ 48 then runtimePanic (.error "makeslice: len out of range")
    let cap ← choose (.appendCap n.toNat 0 elem)
    askRoom cap
    let bytes ← choose (.extern "internal/bytealg.MakeNoZero.bytes" 0)
    let a ← newRow elem (Extern.BytealgMakeNoZero.digits cap bytes #[])
    pure (.slice (some a) n.toNat cap)) := rfl
theorem same1 (x : Value) : Extern.AbiNoEscape.same #[x] = pure x := rfl

theorem sliceData_rel {ats : Array TypeId} {ty : TypeId} {x x' v : Value} (hx : VRel ρ x x') (hv : sliceData x = some v) :
    ∃ v', VRel ρ v v' ∧ (Builtin.unsafeSliceData_ ats ty #[x']).run P w = .ok v' w := by
  unfold sliceData at hv
  split at hv
  · rename_i n c
    cases hv; cases hx
    exact ⟨_, .nilPtr, rfl⟩
  · rename_i b o n c
    generalize hq : Value.slice (some ⟨b, o, none⟩) n c = q at hx
    cases hx <;> cases hq
    · rename_i hk hc
      rw [if_pos hc] at hv
      split at hv
      · cases hv
      · rename_i h0
        cases hv
        exact ⟨_, .ptr hk, by rw [unsafeSliceData1, if_pos h0]; rfl⟩
    · rename_i hk hn hc
      rw [if_neg (by omega)] at hv
      split at hv
      · cases hv
      · rename_i h0
        cases hv
        exact ⟨_, .ptr hk, by rw [unsafeSliceData1, if_pos (by omega)]; rfl⟩
    · rw [if_neg (by omega), if_pos rfl] at hv; cases hv
    · rw [if_pos (by unfold fuzz; omega), if_pos rfl] at hv; cases hv
  · cases hv

theorem run_loadBytes {b : Nat} : ∀ (l : List Value) (bs : List UInt8) (o : Nat) (acc : ByteArray), bytesOf l = some bs → (∀ (j : Nat) (v : Value), l[j]? = some v → w.cell? ⟨b, o + j, none⟩ = some v) →
    (loadBytes ⟨b, o, none⟩ acc l.length).run P w = .ok ⟨acc.data ++ bs.toArray⟩ w := by
  intro l
  induction l with
  | nil => intro bs o acc hb _; simp [bytesOf] at hb; subst hb; simp [loadBytes]
  | cons v l ih =>
    intro bs o acc hb hc
    unfold bytesOf at hb
    split at hb
    · rename_i e; cases e
    · rename_i n r e
      cases e
      split at hb
      · rename_i r' hr
        cases hb
        have h0 := hc 0 (.int .u8 n) rfl
        rw [Nat.add_zero] at h0
        have hrest := ih r' (o + 1) (acc.push n.toNat.toUInt8) hr (fun j v hv => by
          have := hc (j + 1) v (by simpa using hv)
          rw [show o + (j + 1) = o + 1 + j by omega] at this; exact this)
        simp only [List.length_cons, loadBytes, Sem.run_bind, run_load, h0, Result.andThen_ok, add_none]
        rw [hrest]
        congr 2
        apply Array.toList_inj.1
        simp [ByteArray.push]
      · cases hb
    · cases hb

theorem freeze_row (w : World) (r n k : Nat) (hk : k ≠ 0) (c : Array Value) (e : TypeId) (fz : Nat × Nat) (hw : w.heap[r]? = some (.cells c e fz)) :
    ∃ fz', (w.freeze ⟨r, n, none⟩ k).heap = w.heap.setIfInBounds r (.cells c e fz') := by
  have hlt : r < w.heap.size := (Array.getElem?_eq_some_iff.1 hw).1
  refine ⟨if fz.1 == fz.2 then (n, n + k) else (min fz.1 n, max fz.2 (n + k)), ?_⟩
  simp only [World.freeze, if_neg hk]
  apply Array.ext_getElem?
  intro j
  rw [Array.getElem?_modify]
  by_cases hj : r = j
  · subst hj
    rw [if_pos rfl, hw, Array.getElem?_setIfInBounds_self_of_lt hlt]
    rfl
  · rw [if_neg hj, Array.getElem?_setIfInBounds_ne hj]

/-- A row that may be read only from now on. -/
theorem grow_ro {w' : World} {b : Nat} {cs : List Value} {ty : Tag} {l : Loc} {c : Array Value} {elem : TypeId} {fz fz' : Nat × Nat} (hr : HRel ρ h w) (hb : h.get b = some (.cells cs false ty)) (hl : ρ b = some l)
    (hg : w.heap[l.block]? = some (.cells c elem fz)) (hw : w'.heap = w.heap.setIfInBounds l.block (.cells c elem fz')) (hs : SameRest w w') : Grow ρ h w ρ (h.set b (.cells cs true ty)) w' := by
  have hlt : l.block < w.heap.size := (Array.getElem?_eq_some_iff.1 hg).1
  refine grow_upd hr hb rfl hl hw hs (fun _ => ?_)
  obtain ⟨k, hk, c', elem', fz0, h1, ht, h2, h3, h4, h5⟩ := hr.blk b _ hb trivial
  rw [hl] at hk; cases hk
  rw [hg] at h1; cases h1
  exact ⟨c, elem, fz', by rw [hw, Array.getElem?_setIfInBounds_self_of_lt hlt], ht, h2, h3, h4, fun hh => by cases hh⟩

theorem lies_row {e : TypeId} {i : TypeInfo} (hi : P.info? e = some i) (hs : i.size = 1) {c o n : Nat} (hle : o + n ≤ c) : liesAt P P.depth e (c / P.cellsOf e) o e n = true := by
  have hd : P.depth = (2 * (P.types.size + Made.depth) + 1) + 1 := rfl
  have hc : P.cellsOf e = 1 := by simp [Program.cellsOf, hi, hs]
  rw [hd]
  simp only [liesAt, hd, rowAt, hc, Nat.one_ne_zero, if_false, sameLayout, Nat.div_one, Nat.mod_one, beq_self_eq_true, Bool.true_and, Bool.true_or, Bool.and_true]
  simp [hle]

theorem textAt_rel (hE : EnvOk P E) (hr : HRel ρ h w) {ats : Array TypeId} {ty t : TypeId} {p p' n n' v : Value} {h' : Heap} (ht : ats[0]? = some t) (hp : VRel ρ p p') (hn : VRel ρ n n') (hv : textAt E h t p n = some (v, h')) :
    ∃ v' w', VRel ρ v v' ∧ (Builtin.unsafeString_ ats ty #[p', n']).run P w = .ok v' w' ∧ Grow ρ h w ρ h' w' := by
  have hint : ∀ (k : IntKind) (z : Int), (asInt (.int k z)).run P w = .ok z w := fun k z => rfl
  unfold textAt at hv
  split at hv
  · rename_i k z
    split at hv
    · rename_i h0
      cases hv; cases hp; cases hn
      subst h0
      refine ⟨_, w, .string _, ?_, .refl hr⟩
      simp only [unsafeString2, Sem.run_bind, hint, Result.andThen_ok, ht]
      rfl
    · cases hv
  · rename_i b o k z
    split at hv
    · rename_i h0
      cases hv; cases hn
      subst h0
      cases hp
      refine ⟨_, w, .string _, ?_, .refl hr⟩
      simp only [unsafeString2, Sem.run_bind, hint, Result.andThen_ok, ht]
      rfl
    · rename_i h0
      split at hv
      · cases hv
      · rename_i hz
        split at hv
        · rename_i e cs e' hu hg
          split at hv
          · rename_i hsz
            split at hv
            · rename_i hee
              split at hv
              · rename_i l hrl
                split at hv
                · rename_i bs hbs
                  cases hv; cases hn
                  subst hee
                  obtain ⟨m, rfl⟩ : ∃ m : Nat, z = m := ⟨z.toNat, by omega⟩
                  rw [Int.toNat_natCast] at hrl
                  have hm0 : m ≠ 0 := fun e => h0 (by simp [e])
                  have hrd : readCells h b o m = some l := by simp only [readCells, hg]; exact hrl
                  obtain ⟨k2, l', hk, hlen, hvl, hc⟩ := readCells_rel hr hrd
                  have hll : l' = l := ints_rel hvl (bytesOf_ints hbs)
                  subst hll
                  cases hp with
                  | ptr hk' =>
                    rw [hk] at hk'; cases hk'
                    obtain ⟨k3, hk3, c, elem, fz, g1, gt, g2, g3, g4, g5⟩ := hr.blk b _ hg trivial
                    rw [hk] at hk3; cases hk3
                    obtain rfl : elem = e := gt
                    obtain ⟨i, hi, hi1⟩ := size_spec hE hsz
                    obtain ⟨q1, q2⟩ := readList_spec _ _ _ _ hrl
                    have hoc : o + m ≤ cs.length := by
                      have := q2 (m - 1) (by omega)
                      rw [List.getElem?_eq_getElem (by omega)] at this
                      have := (List.getElem?_eq_some_iff.1 this.symm).1
                      omega
                    have hl1 := lies_row (P := P) hi hi1 (c := c.size) (o := k2.shift + o) (n := m) (by omega)
                    have hlb := run_loadBytes (P := P) (w := w) (b := k2.block) l' bs (k2.shift + o) ByteArray.empty hbs hc
                    rw [hlen] at hlb
                    obtain ⟨fz', hfz⟩ := freeze_row w k2.block (k2.shift + o) m hm0 c elem fz g1
                    have hneg : ¬ ((m : Int) < 0) := by omega
                    have hbig : ¬ ((m : Int) > IntKind.i64.max) := by rw [IntKind.max_i64]; unfold most at hz; omega
                    have hmz : ¬ ((m : Int) = 0) := by omega
                    refine ⟨.string ⟨bs.toArray⟩, w.freeze ⟨k2.block, k2.shift + o, none⟩ m, .string _, ?_, ?_⟩
                    · simp only [unsafeString2, Sem.run_bind, hint, Result.andThen_ok, ht, Sem.run_ite]
                      rw [if_neg hneg, if_neg hbig, if_neg hmz]
                      simp only [elemOf, Sem.run_bind, run_und hE hu, Result.andThen_ok, Sem.run_pure, variablesAt, run_program, run_shape, World.shape?, g1, Int.toNat_natCast, hl1, if_true, hlb, run_freeze]
                      rw [show ByteArray.empty.data = #[] from rfl]
                      simp
                    · exact grow_ro (w' := w.freeze ⟨k2.block, k2.shift + o, none⟩ m) hr hg hk g1 hfz ⟨by unfold World.freeze; split <;> rfl, by unfold World.freeze; split <;> rfl, by unfold World.freeze; split <;> rfl⟩
                · cases hv
              · cases hv
            · cases hv
          · cases hv
        · cases hv
  · cases hv

theorem extern_rel (hE : EnvOk P E) (hr : HRel ρ h w) {k : Extn} {args args' : List Value} {v : Value} {h' : Heap} (ha : VRels ρ args args') (hv : extern E h k args = some (v, h')) :
    ∃ v' ρ' w', VRel ρ' v v' ∧ (extSem k args'.toArray).run P w = .ok v' w' ∧ Grow ρ h w ρ' h' w' := by
  unfold extern at hv
  split at hv
  · -- load
    rename_i b o
    obtain ⟨p, r, rfl, hp, hr2⟩ := ha.cons_inv
    obtain rfl := hr2.nil_inv
    split at hv
    · rename_i n hrd
      cases hv
      obtain ⟨l, v', hl, hv', hc⟩ := read_one hr hrd
      obtain rfl := u64_of_rel hv'
      cases hp with
      | ptr hl' =>
        rw [hl] at hl'; cases hl'
        exact ⟨_, ρ, w, .int _ _, by simp [extSem, loadT1, asAddr, Extern.Atomic.read, run_load, hc], .refl hr⟩
    · cases hv
  · rename_i b o x
    obtain ⟨p, r, rfl, hp, hr2⟩ := ha.cons_inv
    obtain ⟨x', r, rfl, hx, hr3⟩ := hr2.cons_inv
    obtain rfl := hr3.nil_inv
    split at hv
    · rename_i h1 hw
      cases hv
      obtain ⟨l, w', hl, hst, hg⟩ := write_one (P := P) hr hx hw (m := .atomic)
      cases hp with
      | ptr hl' =>
        rw [hl] at hl'; cases hl'
        exact ⟨.tuple #[], ρ, w', VRels.toTuple .nil, by simp [extSem, storeT2, asAddr, hst, Extern.Atomic.none_], hg⟩
    · cases hv
  · rename_i b o x
    obtain ⟨p, r, rfl, hp, hr2⟩ := ha.cons_inv
    obtain ⟨x', r, rfl, hx, hr3⟩ := hr2.cons_inv
    obtain rfl := hr3.nil_inv
    split at hv
    · rename_i n h1 hrd hw
      cases hv
      obtain ⟨l, v', hl, hv', hc⟩ := read_one hr hrd
      obtain rfl := u64_of_rel hv'
      obtain ⟨l2, w', hl2, hst, hg⟩ := write_one (P := P) hr hx hw (m := .atomic)
      rw [hl] at hl2; cases hl2
      cases hp with
      | ptr hl' =>
        rw [hl] at hl'; cases hl'
        exact ⟨_, ρ, w', .int _ _, by simp [extSem, swapT2, asAddr, Extern.Atomic.read, run_load, hc, hst], hg⟩
    · cases hv
  · rename_i b o kd was x
    obtain ⟨p, r, rfl, hp, hr2⟩ := ha.cons_inv
    obtain ⟨y', r, rfl, hy, hr3⟩ := hr2.cons_inv
    obtain ⟨x', r, rfl, hx, hr4⟩ := hr3.cons_inv
    obtain rfl := hr4.nil_inv
    split at hv
    · rename_i n h1 hrd hw
      cases hv
      obtain ⟨l, v', hl, hv', hc⟩ := read_one hr hrd
      obtain rfl := u64_of_rel hv'
      obtain ⟨l2, w', hl2, hst, hg⟩ := write_one (P := P) hr hx hw (m := .atomic)
      rw [hl] at hl2; cases hl2
      obtain ⟨cs, ty, hgb⟩ : ∃ cs ty, h.get b = some (.cells cs false ty) := by
        unfold writeCells at hw
        split at hw
        · exact ⟨_, _, ‹_›⟩
        · cases hw
      obtain ⟨l3, hl3, c, elem, fz, g1, gt, g2, g3, g4, g5⟩ := hr.blk b _ hgb trivial
      rw [hl] at hl3; cases hl3
      have ho : o < cs.length := by
        unfold readCells at hrd
        rw [hgb] at hrd
        simp only at hrd
        obtain ⟨h2, h3⟩ := readList_spec _ _ _ _ hrd
        have := h3 0 (by omega)
        rw [Nat.add_zero] at this
        exact (List.getElem?_eq_some_iff.1 (this.symm.trans rfl)).1
      have hfr : w.frozen? ⟨l.block, l.shift + o, none⟩ = false := by
        simp only [World.frozen?, g1]
        have := not_frozen (g5 rfl) o (by omega)
        simpa using this
      have hview : (viewAt l.block).run P w = .ok none w := by
        simp [viewAt, World.shape?, g1]
      cases hy
      cases hp with
      | ptr hl' =>
        rw [hl] at hl'; cases hl'
        refine ⟨.bool (n == was), ρ, if n == was then w' else w, .bool _, ?_, ?_⟩
        · simp only [extSem, casT3, asAddr, Sem.run_bind, Sem.run_pure, Result.andThen_ok, Extern.Atomic.touchesFrozen, hview, run_frozen, hfr, Bool.false_eq_true, if_false, Extern.Atomic.read, run_load, hc]
          by_cases e : (n == was) = true
          · have e' : n = was := by simpa using e
            subst e'
            simp [hst]
          · have e' : ¬ n = was := by simpa using e
            simp [e']
        · split
          · exact hg
          · exact .refl hr
    · cases hv
  · rename_i b o kd y
    obtain ⟨p, r, rfl, hp, hr2⟩ := ha.cons_inv
    obtain ⟨y', r, rfl, hy, hr3⟩ := hr2.cons_inv
    obtain rfl := hr3.nil_inv
    split at hv
    · rename_i n hrd
      split at hv
      · rename_i h1 hw
        cases hv
        obtain ⟨l, v', hl, hv', hc⟩ := read_one hr hrd
        obtain rfl := u64_of_rel hv'
        obtain ⟨l2, w', hl2, hst, hg⟩ := write_one (P := P) hr (.int .u64 _) hw (m := .atomic)
        rw [hl] at hl2; cases hl2
        cases hy
        cases hp with
        | ptr hl' =>
          rw [hl] at hl'; cases hl'
          exact ⟨_, ρ, w', .int _ _, by simp [extSem, update2, asAddr, Extern.Atomic.read, run_load, hc, asInt, asIntOf, Op.intArith, hst], hg⟩
      · cases hv
    · cases hv
  · -- noEscape
    rename_i x
    obtain ⟨x', r, rfl, hx, hr2⟩ := ha.cons_inv
    obtain rfl := hr2.nil_inv
    cases hv
    exact ⟨x', ρ, w, hx, by simp only [extSem, same1, Sem.run_pure], .refl hr⟩
  · -- makeNoZero
    rename_i t n
    obtain ⟨x', r, rfl, hx, hr2⟩ := ha.cons_inv
    obtain rfl := hr2.nil_inv
    cases hx
    split at hv
    · rename_i e hu
      split at hv
      · rename_i hn
        cases hv
        obtain ⟨n0, rfl⟩ : ∃ m : Nat, n = m := ⟨n.toNat, by omega⟩
        have hch : (choose (.appendCap n0 0 e)).run P w = .ok (n0 + w.tape w.drawn (.appendCap n0 0 e) % (2 ^ 63 - n0)) { w with drawn := w.drawn + 1 } := by
          simp [choose, Sem.run, Question.forced, Question.cut]
        generalize hcap : n0 + w.tape w.drawn (.appendCap n0 0 e) % (2 ^ 63 - n0) = cap at hch
        have hch2 : ∃ bytes, (choose (.extern "internal/bytealg.MakeNoZero.bytes" 0)).run P { w with drawn := w.drawn + 1 } = .ok bytes { w with drawn := w.drawn + 1 + 1 } := by
          exact ⟨w.tape (w.drawn + 1) (.extern "internal/bytealg.MakeNoZero.bytes" 0), by simp [choose, Sem.run, Question.forced, Question.cut]; exact ⟨rfl, rfl, rfl⟩⟩
        obtain ⟨bytes, hch2⟩ := hch2
        have hdig : ∀ (k b : Nat) (acc : Array Value), (Extern.BytealgMakeNoZero.digits k b acc).size = acc.size + k := by
          intro k
          induction k with
          | zero => intro b acc; rfl
          | succ k ih => intro b acc; simp only [Extern.BytealgMakeNoZero.digits, ih, Array.size_push]; omega
        have hno : ¬ ((n0 : Int) < 0 || (n0 : Int) > 2 ^ 48) = true := by
          have := hn.2; unfold most at this; simp; omega
        refine ⟨.slice (some ⟨w.heap.size, 0, none⟩) n0 cap, ρ.upd h.next ⟨w.heap.size, 0, cap⟩, { w with heap := w.heap.push (.cells (Extern.BytealgMakeNoZero.digits cap bytes #[]) e), drawn := w.drawn + 1 + 1 }, ?_, ?_, grow_new hr rfl rfl ⟨rfl, rfl, rfl⟩ ?_⟩
        · have := VRel.fuzzy (ρ := ρ.upd h.next ⟨w.heap.size, 0, cap⟩) (o := 0) (n := n0) (es := 1) (c := cap) (Inj.upd_same _ _ _) (by omega) (by simp)
          simpa using this
        · simp only [extSem, makeNoZero1, show (#[t] : Array TypeId)[0]? = some t from rfl, Sem.run_bind, run_und hE hu, Result.andThen_ok]
          rw [if_neg hno]
          simp only [Int.toNat_natCast, Sem.run_bind, Sem.run_pure, Result.andThen_ok, hch, run_askRoom, hch2, newRow, run_newObj]
        · exact new_cells (cs := []) (Inj.le_upd (hr.fresh _ (Nat.le_refl _))) (fun i x hx => by simp at hx) rfl cap (by simp) (by rw [hdig]; simp) (.inl rfl) rfl
      · cases hv
    · cases hv
  · -- count
    rename_i s c
    obtain ⟨s', r, rfl, hs, hr2⟩ := ha.cons_inv
    obtain ⟨c', r, rfl, hc, hr3⟩ := hr2.cons_inv
    obtain rfl := hr3.nil_inv
    cases hv; cases hs; cases hc
    refine ⟨_, ρ, w, .int _ _, ?_, .refl hr⟩
    have h8 : ∀ n : Int, (Extern.Bytes.asByte (.int .u8 n)).run P w = .ok (UInt8.ofNat n.toNat) w := fun n => rfl
    simp only [extSem, count2, Sem.run_bind, Extern.Bytes.bytesOf, Sem.run_pure, Result.andThen_ok, h8, goInt]
    rw [count_eq]
    congr 2
    exact Lib.foldl_data _ _ _
  · rename_i s c
    obtain ⟨s', r, rfl, hs, hr2⟩ := ha.cons_inv
    obtain ⟨c', r, rfl, hc, hr3⟩ := hr2.cons_inv
    obtain rfl := hr3.nil_inv
    cases hv; cases hs; cases hc
    refine ⟨_, ρ, w, .int _ _, ?_, .refl hr⟩
    have h8 : ∀ n : Int, (Extern.Bytes.asByte (.int .u8 n)).run P w = .ok (UInt8.ofNat n.toNat) w := fun n => rfl
    simp only [extSem, indexByte2, Sem.run_bind, Extern.Bytes.bytesOf, Sem.run_pure, Result.andThen_ok, h8]
    rw [index_eq]
    have e : (List.range s.size).find? (fun i => s[i]! == UInt8.ofNat c.toNat) = (List.range' 0 s.data.toList.length).find? (fun j => s.data.toList[j - 0]? == some (UInt8.ofNat c.toNat)) := by
      rw [List.range_eq_range', show s.data.toList.length = s.size from by simp]
      have key : ∀ (ls : List Nat), (∀ j ∈ ls, j < s.size) → ls.find? (fun i => s[i]! == UInt8.ofNat c.toNat) = ls.find? (fun j => s.data.toList[j - 0]? == some (UInt8.ofNat c.toNat)) := by
        intro ls
        induction ls with
        | nil => intro _; rfl
        | cons j ls ih =>
          intro hj
          have hlt := hj j (by simp)
          have h1 : s[j]! = s.data.toList[j]'(by simpa using hlt) := by
            rw [getElem!_pos s j hlt]; rfl
          rw [List.find?_cons, List.find?_cons, ih (fun k hk => hj k (by simp [hk])), h1, Nat.sub_zero, List.getElem?_eq_getElem (by simpa using hlt)]
          rfl
      exact key _ (fun j hj => by have := List.mem_range'_1.1 hj; omega)
    rw [e]
    split <;> rfl
  · cases hv
end
end Go.Ab
