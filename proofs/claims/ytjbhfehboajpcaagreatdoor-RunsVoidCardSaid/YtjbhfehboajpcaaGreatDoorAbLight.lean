/-
  The abstract evaluator: operations that make one block, and do nothing else.
-/
import Derived.Test.YtjbhfehboajpcaaGreatDoorAbEvRead
import Derived.IntWalk
namespace Go.Ab
open Go

section
variable {P : Program} {E : Env} {ρ : Inj} {h : Heap} {w : World}

theorem push_get (w w' : World) (o : Obj) (hw : w'.heap = w.heap.push o) : w'.heap[w.heap.size]? = some o := by rw [hw]; simp

theorem new_cells {ρ' : Inj} {w w' : World} {cs : List Value} {c : Array Value} {elem : TypeId} {fz : Nat × Nat} (hle : ρ.le ρ') (hc : ∀ (i : Nat) (x : Value), cs[i]? = some x → ∃ y, c.toList[i]? = some y ∧ VRel ρ x y) (hw : w'.heap = w.heap.push (.cells c elem fz)) (n : Nat) (hn : cs.length ≤ n) (hn' : n ≤ c.size)
    (hfz : fz.1 = fz.2 ∨ n ≤ fz.1) {ty : Tag} (hty : TagOk ty elem 0) : BlkRel ρ' w' ⟨w.heap.size, 0, n⟩ (.cells cs false ty) := by
  refine ⟨c, elem, fz, push_get _ _ _ hw, hty, hn, by simpa using hn', fun i x hx => ?_, fun _ => by simpa using hfz⟩
  obtain ⟨y, hy, hv⟩ := hc i x hx
  exact ⟨y, by simpa using hy, hv.mono hle⟩

theorem repeat_length (z : List Value) : ∀ n, (repeatCells z n).length = n * z.length := by
  intro n
  induction n with
  | zero => simp [repeatCells]
  | succ n ih => simp [repeatCells, ih, Nat.succ_mul, Nat.add_comm]

theorem repeat_get (z : List Value) : ∀ (n i : Nat), i < n * z.length → (repeatCells z n)[i]? = z[i % z.length]? := by
  intro n
  induction n with
  | zero => intro i hi; simp at hi
  | succ n ih =>
    intro i hi
    have hz : 0 < z.length := by
      rcases Nat.eq_zero_or_pos z.length with h | h
      · rw [h] at hi; simp at hi
      · exact h
    simp only [repeatCells]
    by_cases hlt : i < z.length
    · rw [List.getElem?_append_left hlt, Nat.mod_eq_of_lt hlt]
    · rw [List.getElem?_append_right (by omega), ih _ (by rw [Nat.succ_mul] at hi; omega)]
      congr 1
      rw [Nat.mod_eq_sub_mod (a := i) (by omega)]

/-- The model's way of laying a value again and again. -/
theorem repeat_eq (z : Array Value) (n : Nat) : (repeatCells z.toList n) = ((Array.range (n * z.size)).map (z[· % z.size]!)).toList := by
  apply List.ext_getElem?
  intro i
  by_cases hi : i < n * z.size
  · have hz : 0 < z.size := by
      rcases Nat.eq_zero_or_pos z.size with h | h
      · rw [h] at hi; simp at hi
      · exact h
    rw [repeat_get _ _ _ (by simpa using hi)]
    have hm : i % z.size < z.size := Nat.mod_lt _ hz
    simp [hi, hm]
  · rw [List.getElem?_eq_none (by rw [repeat_length]; simp; omega), List.getElem?_eq_none (by simp; omega)]

theorem zeros_spec (hE : EnvOk P E) {e : TypeId} {n : Nat} {l : List Value} (hz : zeros E e n = some l) : ∃ z s, zero E e = some z ∧ size E e = some s ∧ z.cells.size = s ∧ l = repeatCells z.cells.toList n ∧ VRels ρ l l := by
  unfold zeros at hz
  split at hz
  · rename_i z s h1 h2
    split at hz
    · rename_i h3
      cases hz
      refine ⟨z, s, h1, h2, h3, rfl, ?_⟩
      have hr := (zero_rel (ρ := ρ) hE h1).cells
      induction n with
      | zero => exact VRels.nil
      | succ n ih => exact hr.append ih
    · cases hz
  · cases hz

structure LightOk (P : Program) (ρ : Inj) (w : World) (s : Sem Value) (id : Nat) (v : Value) (blk : Blk) : Prop where
  ok : ∃ v' w' obj l, s.run P w = .ok v' w' ∧ w'.heap = w.heap.push obj ∧ SameRest w w' ∧ l.block = w.heap.size ∧ blk.rw ∧ ∀ ρ', ρ.le ρ' → ρ' id = some l → VRel ρ' v v' ∧ BlkRel ρ' w' l blk

theorem newVar_light {v v' : Value} {t : TypeId} {id : Nat} (hv : VRel ρ v v') : LightOk P ρ w (do pure (.pointer (some (← newVar t v')))) id (.pointer (some ⟨id, 0, none⟩)) (.cells v.cells.toList false (.var t)) := by
  refine ⟨_, _, _, ⟨w.heap.size, 0, v'.cells.size⟩, rfl, rfl, ⟨rfl, rfl, rfl⟩, rfl, rfl, fun ρ' hle hid => ⟨?_, ?_⟩⟩
  · have := VRel.ptr (ρ := ρ') (o := 0) hid
    simpa using this
  · exact new_cells hle (fun _ _ => hv.cells.get) rfl _ (by have := hv.cells.1; simp at this ⊢; omega) (Nat.le_refl _) (.inl rfl) ⟨rfl, rfl⟩

theorem buildSlice_light (hE : EnvOk P E) {t : TypeId} {len : Nat} {ps ps' : List (Nat × Value)} {v : Value} {blk : Blk} {id : Nat} (hi : ps.map (·.1) = ps'.map (·.1)) (hv : VRels ρ (ps.map (·.2)) (ps'.map (·.2)))
    (hb : buildSlice E t len ps id = some (v, blk)) : LightOk P ρ w (Instr.buildSlice t len ps'.toArray) id v blk := by
  unfold buildSlice at hb
  split at hb
  · rename_i e hu
    split at hb
    · rename_i n l hn hz
      obtain ⟨z, s, h1, h2, h3, h4, h5⟩ := zeros_spec (ρ := ρ) hE hz
      rw [hn] at h2; cases h2
      split at hb
      · cases hb
      · rename_i hlim
        split at hb
        · rename_i cs hf
          cases hb
          have hrep := repeat_eq z.cells len
          rw [h3] at hrep
          have hzr : VRels ρ l ((Array.range (len * n)).map (z.cells[· % z.cells.size]!)).toList := by
            rw [h3, ← hrep, ← h4]; exact h5
          obtain ⟨r', hr', hrel⟩ := fill_rel _ _ _ _ _ hzr hi hv hf
          have hlen : r'.size = len * n := by
            have h6 : ∀ (ps : List (Nat × Value)) (c r : List Value), fillList (fun i => some (i * n, n)) c ps = some r → r.length = c.length := by
              intro ps
              induction ps with
              | nil => intro c r hr; simp [fillList] at hr; rw [hr]
              | cons p ps ih =>
                intro c r hr
                obtain ⟨i, u⟩ := p
                simp only [fillList] at hr
                split at hr
                · cases hr
                · split at hr
                  · rename_i hs; rw [ih _ _ hr, (splice_spec _ _ _ _ hs).1]
                  · cases hr
            have h7 := h6 _ _ _ hf
            have := hrel.1
            simp at this
            rw [← this, h7, h4, repeat_length]; simp [h3]
          refine ⟨.slice (some ⟨w.heap.size, 0, none⟩) len len, { w with heap := w.heap.push (.cells r' e) }, .cells r' e, ⟨w.heap.size, 0, r'.size⟩, ?_, rfl, ⟨rfl, rfl, rfl⟩, rfl, rfl, fun ρ' hle hid => ⟨?_, ?_⟩⟩
          · simp only [Instr.buildSlice, Sem.run_bind, run_und hE hu, Result.andThen_ok, run_size hE hn]
            rw [if_neg (fun h => hlim (.inl h))]
            by_cases h0 : len * n = 0
            · have : ((Array.range (len * n)).map (z.cells[· % z.cells.size]!)) = ((Array.range (len * n)).map ((#[] : Array Value)[· % (#[] : Array Value).size]!)) := by rw [h0]; simp
              rw [this] at hr'
              simp only [if_pos h0, Sem.run_bind, Sem.run_pure, Result.andThen_ok, hr']
              rfl
            · simp only [if_neg h0, Sem.run_bind, run_zero hE h1, Result.andThen_ok, Sem.run_pure, hr']
              rfl
          · have := VRel.slice (ρ := ρ') (o := 0) (n := len) (c := len) hid (Nat.lt_of_not_le fun h => hlim (.inr h))
            simpa using this
          · exact new_cells hle (fun _ _ => hrel.get) rfl _ (by have := hrel.1; simp at this ⊢; omega) (Nat.le_refl _) (.inl rfl) (show TagOk .any _ 0 from trivial)
        · cases hb
    · cases hb
  · cases hb

theorem makeSlice_light (hE : EnvOk P E) {t : TypeId} {len len' cap cap' : Value} {v : Value} {blk : Blk} {id : Nat} (hl : VRel ρ len len') (hc : VRel ρ cap cap')
    (hb : makeSlice E t len cap id = some (v, blk)) : LightOk P ρ w (Instr.makeSlice t len' cap') id v blk := by
  unfold makeSlice at hb
  split at hb
  · rename_i e k1 l k2 c hu
    cases hl; cases hc
    split at hb
    · rename_i by_ n hby hn
      split at hb
      · rename_i hlim
        split at hb
        · rename_i lz hz
          cases hb
          obtain ⟨z, s, h1, h2, h3, h4, h5⟩ := zeros_spec (ρ := ρ) hE hz
          rw [hn] at h2; cases h2
          obtain ⟨g1, g2, g3, g4⟩ := hlim
          have hrep := repeat_eq z.cells c.toNat
          rw [h3] at hrep
          have hzr : VRels ρ lz ((Array.range (c.toNat * n)).map (z.cells[· % z.cells.size]!)).toList := by
            rw [h3, ← hrep, ← h4]; exact h5
          have hi : ∃ i, P.info? e = some i ∧ i.bytes = by_ := by
            unfold bytesOfT at hby
            split at hby
            · rename_i i hi; cases hby; exact ⟨i, hE.info _ _ hi, rfl⟩
            · cases hby
          obtain ⟨i, hi, rfl⟩ := hi
          have hlw : ∀ x : Int, 0 ≤ x → x ≤ most → IntKind.i64.wrap x = x := fun x h0 hm => by
            unfold most at hm
            exact IntWalk.i64_in x (by omega)
          have hl' := hlw l g1 (by omega)
          have hc' := hlw c (by omega) g3
          have hby2 : ((i.bytes : Int) * c) ≤ 2 ^ 48 := by
            unfold most at g4
            have : (i.bytes : Int) * c = ((i.bytes * c.toNat : Nat) : Int) := by
              rw [Int.natCast_mul, Int.toNat_of_nonneg (by omega)]
            rw [this]; omega
          have hcond : ¬ ((decide (c < 0) || decide ((i.bytes : Int) * c > 2 ^ 48) || decide (l < 0) || decide (l > c)) = true) := by
            simp only [Bool.or_eq_true, decide_eq_true_eq, not_or]
            omega
          refine ⟨.slice (some ⟨w.heap.size, 0, none⟩) l.toNat c.toNat, { w with heap := w.heap.push (.cells ((Array.range (c.toNat * n)).map (z.cells[· % z.cells.size]!)) e) }, _, ⟨w.heap.size, 0, c.toNat * n⟩, ?_, rfl, ⟨rfl, rfl, rfl⟩, rfl, rfl, fun ρ' hle hid => ⟨?_, ?_⟩⟩
          · simp only [Instr.makeSlice, Sem.run_bind, run_und hE hu, Result.andThen_ok, asInt, asIntOf, Sem.run_pure, typeInfo, run_program, hi, hl', hc']
            rw [if_neg hcond]
            by_cases h0 : c.toNat * n = 0
            · have : ((Array.range (c.toNat * n)).map (z.cells[· % z.cells.size]!)) = ((Array.range (c.toNat * n)).map ((#[] : Array Value)[· % (#[] : Array Value).size]!)) := by rw [h0]; simp
              rw [this]
              simp only [Sem.run_bind, Result.andThen_ok, run_askRoom, run_size hE hn, if_pos h0, Sem.run_pure]
              rfl
            · simp only [Sem.run_bind, Result.andThen_ok, run_askRoom, run_size hE hn, if_neg h0, Sem.run_pure, run_zero hE h1]
              rfl
          · have := VRel.slice (ρ := ρ') (o := 0) (n := l.toNat) (c := c.toNat) hid (by unfold most at g3; unfold fuzz; omega)
            simpa using this
          · refine new_cells hle (fun _ _ => hzr.get) rfl _ ?_ (by simp) (.inl rfl) (show TagOk .any _ 0 from trivial)
            rw [h4, repeat_length]; simp [h3]
        · cases hb
      · cases hb
    · cases hb
  · cases hb

theorem modify_push (a : Array Obj) (o : Obj) (f : Obj → Obj) : (a.push o).modify a.size f = a.push (f o) := by
  apply Array.ext_getElem?
  intro k
  rw [Array.getElem?_modify]
  by_cases hk : k = a.size
  · subst hk; simp
  · rw [if_neg (Ne.symm hk), Array.getElem?_push, Array.getElem?_push, if_neg hk, if_neg hk]

theorem convert_light (hE : EnvOk P E) {src dst : TypeId} {x x' : Value} {v : Value} {blk : Blk} {id : Nat} (hx : VRel ρ x x')
    (hb : convertLight E src dst x id = some (v, blk)) : LightOk P ρ w (Go.convert src dst x') id v blk := by
  unfold convertLight at hb
  split at hb
  · rename_i e s hs hd
    split at hb
    · rename_i he
      cases hb; cases hx
      have hch0 : (choose (.appendCap s.size 0 e)).run P w = .ok (s.size + w.tape w.drawn (.appendCap s.size 0 e) % (2 ^ 63 - s.size)) { w with drawn := w.drawn + 1 } := by
        simp [choose, Sem.run, Question.forced, Question.cut]
      obtain ⟨cap, hcap, hch⟩ : ∃ cap, s.size ≤ cap ∧ (choose (.appendCap s.size 0 e)).run P w = .ok cap { w with drawn := w.drawn + 1 } := ⟨_, Nat.le_add_right _ _, hch0⟩
      have hcs : (s.data.map (fun b : UInt8 => Value.int .u8 (b.toNat : Int)) ++ Array.replicate (cap - s.size) (Value.int .u8 0)).size = cap := by
        simp; show s.size + (cap - s.size) = cap; omega
      refine ⟨.slice (some ⟨w.heap.size, 0, none⟩) s.size cap, { w with heap := w.heap.push (.cells (s.data.map (fun b : UInt8 => Value.int .u8 (b.toNat : Int)) ++ Array.replicate (cap - s.size) (Value.int .u8 0)) e (cap, cap + 1)), drawn := w.drawn + 1 },
        _, ⟨w.heap.size, 0, cap⟩, ?_, rfl, ⟨rfl, rfl, rfl⟩, rfl, rfl, fun ρ' hle hid => ⟨?_, ?_⟩⟩
      · simp only [Go.convert, Sem.run_bind, run_und hE hs, run_und hE hd, Result.andThen_ok, run_und hE he, Conv.stringToBytes, hch, newRow, run_newObj, Sem.run_pure, markStringish, run_shape]
        have hsh : (World.shape? { w with heap := w.heap.push (.cells (s.data.map (fun b : UInt8 => Value.int .u8 (b.toNat : Int)) ++ Array.replicate (cap - s.size) (Value.int .u8 0)) e), drawn := w.drawn + 1 } w.heap.size) = some (e, cap) := by
          simp only [World.shape?, Array.getElem?_push_size, hcs]
        simp only [hsh, run_freeze, Result.andThen_ok]
        congr 1
        simp only [World.freeze, Nat.one_ne_zero, if_false]
        congr 1
        rw [modify_push]
        simp
      · have := VRel.fuzzy (ρ := ρ') (o := 0) (n := s.size) (es := 1) (c := cap) hid hcap (by simp)
        simpa using this
      · refine new_cells (c := s.data.map (fun b : UInt8 => Value.int .u8 (b.toNat : Int)) ++ Array.replicate (cap - s.size) (Value.int .u8 0)) hle (cs := s.data.toList.map fun b : UInt8 => Value.int .u8 (b.toNat : Int)) (fun i x hx => ?_) rfl cap (by simpa using hcap) (by rw [hcs]; exact Nat.le_refl _) (.inr (Nat.le_refl _)) (show TagOk .any _ 0 from trivial)
        have hlt : i < (s.data.toList.map fun b : UInt8 => Value.int .u8 (b.toNat : Int)).length := (List.getElem?_eq_some_iff.1 hx).1
        refine ⟨x, ?_, ?_⟩
        · rw [Array.toList_append, List.getElem?_append_left (by simpa using hlt)]
          simpa using hx
        · obtain ⟨b, _, rfl⟩ := List.mem_map.1 (List.mem_of_getElem? hx)
          exact .int _ _
    · cases hb
  · cases hb
end
end Go.Ab
