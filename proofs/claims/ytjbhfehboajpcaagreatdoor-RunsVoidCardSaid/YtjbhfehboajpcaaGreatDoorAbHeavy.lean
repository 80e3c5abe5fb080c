/-
  The abstract evaluator: operations that write.
-/
import Derived.Test.YtjbhfehboajpcaaGreatDoorAbLight
namespace Go.Ab
open Go

section
variable {P : Program} {E : Env} {ρ : Inj} {h : Heap} {w : World}

theorem evLight_plain {fr : Fr} {id : Nat} {o : Op} {v : Value} {b : Blk} (h : evLight E fr id o = some (v, b)) : b.plain := by
  have h1 : ∀ {t : TypeId} {n : Nat} {ps : List (Nat × Value)}, buildSlice E t n ps id = some (v, b) → b.plain := fun h => by
    unfold buildSlice at h
    repeat' (split at h)
    all_goals first | (cases h; done) | (cases h; trivial)
  have h2 : ∀ {t : TypeId} {l c : Value}, makeSlice E t l c id = some (v, b) → b.plain := fun h => by
    unfold makeSlice at h
    repeat' (split at h)
    all_goals first | (cases h; done) | (cases h; trivial)
  have h3 : ∀ {s d : TypeId} {x : Value}, convertLight E s d x id = some (v, b) → b.plain := fun h => by
    unfold convertLight at h
    repeat' (split at h)
    all_goals first | (cases h; done) | (cases h; trivial)
  unfold evLight at h
  split at h
  · split at h
    · cases h; trivial
    · cases h
  · cases h; trivial
  · exact h1 h
  · cases h; trivial
  · exact h2 h
  · exact h3 h
  · cases h

theorem evLight_rel (hE : EnvOk P E) (hr : HRel ρ h w) {fr : Fr} {a : Act} (hf : FrRel ρ fr a) {o : Oper} (ho : okOp h.base o.op = true) {id : Nat} {v : Value} {blk : Blk} (hv : evLight E fr id o.op = some (v, blk)) :
    ∃ v' w' obj l, (execOp a.eval o).run P w = .ok (.value v') w' ∧ w'.heap = w.heap.push obj ∧ SameRest w w' ∧ l.block = w.heap.size ∧ blk.rw ∧ ∀ ρ', ρ.le ρ' → ρ' id = some l → VRel ρ' v v' ∧ BlkRel ρ' w' l blk := by
  obtain ⟨dst, op, type, pos, after, guard⟩ := o
  have hop : ∀ x ∈ op.operands.toList, okOpnd h.base x = true := List.all_eq_true.1 ho
  have hvr : ∀ x ∈ op.operands.toList, VRel ρ (val fr x) (a.eval x) := fun x hx => val_rel hr hf (hop x hx)
  have key : ∀ {s : Sem Value}, (∀ w, (execOp a.eval ⟨dst, op, type, pos, after, guard⟩).run P w = (do pure (Next.value (← s)) : Sem Next).run P w) → LightOk P ρ w s id v blk →
      ∃ v' w' obj l, (execOp a.eval ⟨dst, op, type, pos, after, guard⟩).run P w = .ok (.value v') w' ∧ w'.heap = w.heap.push obj ∧ SameRest w w' ∧ l.block = w.heap.size ∧ blk.rw ∧ ∀ ρ', ρ.le ρ' → ρ' id = some l → VRel ρ' v v' ∧ BlkRel ρ' w' l blk := by
    intro s hs hl
    obtain ⟨v', w', obj, l, h1, h2⟩ := hl.ok
    exact ⟨v', w', obj, l, by rw [hs w]; simp [h1], h2⟩
  unfold evLight at hv
  dsimp only at hv
  split at hv
  · rename_i e
    split at hv
    · rename_i z hz
      cases hv
      refine key (s := do pure (.pointer (some (← newVar e z)))) (fun w => ?_) (newVar_light (zero_rel hE hz))
      simp only [execOp, Instr.alloc, Sem.run_bind, run_zero hE hz, Result.andThen_ok]
    · cases hv
  · rename_i e x
    cases hv
    exact key (s := do pure (.pointer (some (← newVar e (a.eval x))))) (fun w => rfl) (newVar_light (hvr x (by simp [Op.operands])))
  · rename_i t n ps
    have hl := vals_rel hr hf (ps.toList.map (·.2)) (fun x hx => hop x (by simp [Op.operands]; simpa using hx))
    refine key (s := Instr.buildSlice t n (ps.toList.map fun p => (p.1, a.eval p.2)).toArray) (fun w => ?_) (buildSlice_light hE (ps := ps.toList.map fun p => (p.1, val fr p.2)) (by simp) (by simpa [Function.comp_def] using hl) hv)
    simp only [execOp]
    rw [show (ps.map fun x => (x.1, a.eval x.2)) = (ps.toList.map fun p => (p.1, a.eval p.2)).toArray from Array.toList_inj.1 (by simp)]
  · rename_i t
    cases hv
    refine ⟨_, _, _, ⟨w.heap.size, 0, 0⟩, rfl, rfl, ⟨rfl, rfl, rfl⟩, rfl, trivial, fun ρ' hle hid => ⟨.map hid rfl, rfl, #[], ?_, rfl, fun i x y hx => by simp at hx⟩⟩
    simp
  · rename_i t l c
    exact key (s := Instr.makeSlice t (a.eval l) (a.eval c)) (fun w => rfl) (makeSlice_light hE (hvr l (by simp [Op.operands])) (hvr c (by simp [Op.operands])) hv)
  · rename_i s d x
    exact key (s := Go.convert s d (a.eval x)) (fun w => rfl) (convert_light hE (hvr x (by simp [Op.operands])) hv)
  · cases hv

/-! ### Maps -/
theorem keyEq_true {k e : Value} (hk : keyEq k e = some true) : e = k ∧ Instr.sameBits 10000 e k = true := by
  unfold keyEq at hk
  split at hk
  · split at hk
    · rename_i h1; subst h1; simp at hk; subst hk; exact ⟨rfl, by simp [Instr.sameBits]⟩
    · cases hk
  · rename_i a b
    simp only [Option.some.injEq] at hk
    have e : a = b := by
      rw [beq_toListBytes, ByteArray.toList_eq, ByteArray.toList_eq] at hk
      have := eq_of_beq hk
      cases a; cases b; simp at this; rw [this]
    subst e
    exact ⟨rfl, by simp only [Instr.sameBits]; rw [beq_toListBytes]; simp⟩
  · simp at hk; subst hk; exact ⟨rfl, by simp [Instr.sameBits]⟩
  · cases hk

theorem modify_rels {es es' : List MapEntry} (he : ERels ρ es es') {i : Nat} {f f' : MapEntry → MapEntry} (hf : ∀ e e', es[i]? = some e → es'[i]? = some e' → ERel ρ (f e) (f' e')) : ERels ρ (es.modify i f) (es'.modify i f') := by
  refine ⟨by simp [he.1], fun j x y hx hy => ?_⟩
  rw [List.getElem?_modify] at hx hy
  by_cases hj : i = j
  · subst hj
    simp only [if_pos] at hx hy
    cases h1 : es[i]? with
    | none => rw [h1] at hx; simp at hx
    | some e =>
      cases h2 : es'[i]? with
      | none => rw [h2] at hy; simp at hy
      | some e' =>
        rw [h1] at hx; rw [h2] at hy; simp at hx hy
        subst hx hy
        exact hf e e' h1 h2
  · simp only [if_neg hj] at hx hy
    simp at hx hy
    exact he.2 j x y hx hy

theorem push_rels {es es' : List MapEntry} (he : ERels ρ es es') {e e' : MapEntry} (hx : ERel ρ e e') : ERels ρ (es ++ [e]) (es' ++ [e']) := by
  refine ⟨by simp [he.1], fun j x y h1 h2 => ?_⟩
  by_cases hj : j < es.length
  · rw [List.getElem?_append_left hj] at h1
    rw [List.getElem?_append_left (by rw [← he.1]; exact hj)] at h2
    exact he.2 j x y h1 h2
  · rw [List.getElem?_append_right (by omega)] at h1
    rw [List.getElem?_append_right (by rw [← he.1]; omega), ← he.1] at h2
    cases hk : j - es.length with
    | zero => rw [hk] at h1 h2; simp at h1 h2; subst h1 h2; exact hx
    | succ n => rw [hk] at h1; simp at h1

/-- A map's block. -/
theorem map_block (hr : HRel ρ h w) {b : Nat} {m' : Value} {es : List MapEntry} {c : Nat} (hm : VRel ρ (.map (some b)) m') (hg : h.get b = some (.map es c)) :
    ∃ l es', ρ b = some l ∧ m' = .map (some l.block) ∧ l.shift = 0 ∧ w.heap[l.block]? = some (.map es' c) ∧ ERels ρ es es'.toList := by
  cases hm with
  | map hb h0 =>
    obtain ⟨l, hl, hbk⟩ := hr.blk b _ hg trivial
    rw [hb] at hl; cases hl
    obtain ⟨_, es', hw, hrel⟩ := hbk
    exact ⟨_, es', hb, rfl, h0, hw, hrel⟩

theorem run_getObj_map {r c : Nat} {es : Array MapEntry} (hw : w.heap[r]? = some (.map es c)) : (getObj r).run P w = .ok (.map es c) w := by simp [getObj, Sem.run, hw]
theorem run_setObj_map {r c : Nat} {es : Array MapEntry} (hw : w.heap[r]? = some (.map es c)) (o : Obj) : (setObj r o).run P w = .ok () { w with heap := w.heap.setIfInBounds r o } := by simp [setObj, Sem.run, hw]

theorem map_upd (hr : HRel ρ h w) {b : Nat} {es : List MapEntry} {c c' : Nat} {l : Loc} {es1 : List MapEntry} {es1' : Array MapEntry} (hg : h.get b = some (.map es c)) (hl : ρ b = some l) (h0 : l.shift = 0) (hlt : l.block < w.heap.size)
    (hrel : ERels ρ es1 es1'.toList) : Grow ρ h w ρ (h.set b (.map es1 c')) { w with heap := w.heap.setIfInBounds l.block (.map es1' c') } :=
  grow_upd hr hg trivial hl rfl ⟨rfl, rfl, rfl⟩ (fun _ => ⟨h0, es1', by simp [hlt], hrel⟩)

theorem get_entry {es' : Array MapEntry} {j : Nat} {e' : MapEntry} (he : es'.toList[j]? = some e') : es'[j]? = some e' := by simpa using he

theorem mapPut_rel (hE : EnvOk P E) (hr : HRel ρ h w) {t : TypeId} {m m' k k' v v' : Value} {h' : Heap} (hm : VRel ρ m m') (hk : VRel ρ k k') (hv : VRel ρ v v') (hp : mapPut E h t m k v = some h') :
    ∃ w', (Instr.mapUpdate t m' k' v').run P w = .ok () w' ∧ Grow ρ h w ρ h' w' := by
  unfold mapPut at hp
  split at hp
  · rename_i kt et b hu
    split at hp
    · rename_i hpk
      obtain rfl := plainKey_rel hpk hk
      obtain ⟨d, hd⟩ := plainKey_und hpk
      split at hp
      · rename_i es c hg
        obtain ⟨l, es', hl, rfl, h0, hw, hrel⟩ := map_block hr hm hg
        have hlt : l.block < w.heap.size := (Array.getElem?_eq_some_iff.1 hw).1
        split at hp
        · rename_i i e hf
          cases hp
          rcases find_rel hd hpk es es'.toList 0 _ hrel hf with ⟨a, _⟩ | ⟨j, e0, e', a, b1, c1, d1, d2, f, g⟩
          · cases a
          · cases a
            obtain ⟨ek, hsb⟩ := keyEq_true g
            have hkey' : e'.key = k' := by have := scalar_rel2 g f.1; rw [this, ek]
            have hge : es'[i]? = some e' := by simpa using d2
            refine ⟨_, ?_, map_upd (es1' := es'.modify i fun e => { e with key := k', val := v' }) hr hg hl h0 hlt ?_⟩
            · simp only [Instr.mapUpdate, Sem.run_bind, run_und hE hu, Result.andThen_ok, run_getObj_map hw, run_checkKey hE hpk, run_findKey hE hd b1, Instr.keyThatStays, hge, Option.map_some, Option.getD_some, hkey']
              rw [if_pos (by rw [← ek]; exact (by rw [ek] at hsb ⊢; exact hsb))]
              simp [run_setObj_map hw]
            · rw [Array.toList_modify]
              refine modify_rels hrel (fun x x' hx hx' => ⟨hk, hv, ?_⟩)
              exact (hrel.2 i x x' hx hx').2.2
        · rename_i hf
          cases hp
          rcases find_rel hd hpk es es'.toList 0 _ hrel hf with ⟨_, b1⟩ | ⟨j, e0, e', a, _⟩
          · refine ⟨_, ?_, map_upd (es1' := es'.push { key := k', val := v', born := c }) hr hg hl h0 hlt ?_⟩
            · simp only [Instr.mapUpdate, Sem.run_bind, run_und hE hu, Result.andThen_ok, run_getObj_map hw, run_checkKey hE hpk, run_findKey hE hd b1, run_setObj_map hw]
            · rw [Array.toList_push]
              exact push_rels hrel ⟨hk, hv, rfl⟩
          · cases a
        · cases hp
      · cases hp
    · cases hp
  · cases hp

theorem mapEntry_rel (hE : EnvOk P E) (hr : HRel ρ h w) {t : TypeId} {m m' k k' v : Value} {h' : Heap} (hm : VRel ρ m m') (hk : VRel ρ k k') (hp : mapEntry E h t m k = some (v, h')) :
    ∃ v' w', VRel ρ v v' ∧ (Instr.mapEntry t m' k').run P w = .ok v' w' ∧ Grow ρ h w ρ h' w' := by
  unfold mapEntry at hp
  split at hp
  · rename_i kt et b hu
    split at hp
    · rename_i hpk
      obtain rfl := plainKey_rel hpk hk
      obtain ⟨d, hd⟩ := plainKey_und hpk
      split at hp
      · rename_i es c hg
        obtain ⟨l, es', hl, rfl, h0, hw, hrel⟩ := map_block hr hm hg
        have hlt : l.block < w.heap.size := (Array.getElem?_eq_some_iff.1 hw).1
        split at hp
        · rename_i i e hf
          cases hp
          rcases find_rel hd hpk es es'.toList 0 _ hrel hf with ⟨a, _⟩ | ⟨j, e0, e', a, b1, c1, d1, d2, f, g⟩
          · cases a
          · cases a
            obtain ⟨ek, hsb⟩ := keyEq_true g
            have hkey' : e'.key = k' := by have := scalar_rel2 g f.1; rw [this, ek]
            have hge : es'[i]? = some e' := by simpa using d2
            refine ⟨.tuple #[e'.val, .int .i64 e'.born], _, VRels.toTuple (by simp; exact .cons f.2.1 (.cons (by rw [f.2.2]; exact .int _ _) .nil)), ?_, map_upd (es1' := es'.modify i fun e => { e with key := k' }) hr hg hl h0 hlt ?_⟩
            · simp only [Instr.mapEntry, Sem.run_bind, run_und hE hu, Result.andThen_ok, run_getObj_map hw, run_checkKey hE hpk, run_findKey hE hd b1, Instr.keyThatStays, hge, Option.map_some, Option.getD_some, hkey']
              rw [if_pos (by rw [← ek]; exact (by rw [ek] at hsb ⊢; exact hsb))]
              simp [run_setObj_map hw, goInt]
            · rw [Array.toList_modify]
              refine modify_rels hrel (fun x x' hx hx' => ⟨hk, (hrel.2 i x x' hx hx').2.1, ?_⟩)
              exact (hrel.2 i x x' hx hx').2.2
        · rename_i hf
          split at hp
          · rename_i z hz
            cases hp
            rcases find_rel hd hpk es es'.toList 0 _ hrel hf with ⟨_, b1⟩ | ⟨j, e0, e', a, _⟩
            · refine ⟨.tuple #[z, .int .i64 c], _, VRels.toTuple (by simp; exact .cons (zero_rel hE hz) (.cons (.int _ _) .nil)), ?_, map_upd (es1' := es'.push { key := k', val := z, born := c }) hr hg hl h0 hlt ?_⟩
              · simp only [Instr.mapEntry, Sem.run_bind, run_und hE hu, Result.andThen_ok, run_getObj_map hw, run_checkKey hE hpk, run_findKey hE hd b1, run_zero hE hz, run_setObj_map hw]
                rfl
              · rw [Array.toList_push]
                exact push_rels hrel ⟨hk, zero_rel hE hz, rfl⟩
            · cases a
          · cases hp
        · cases hp
      · cases hp
    · cases hp
  · cases hp

theorem findIdx_arr (a : Array MapEntry) (p : MapEntry → Bool) : a.findIdx? p = a.toList.findIdx? p := by cases a; simp

theorem findIdx_rel {p : MapEntry → Bool} (hp : ∀ e e' : MapEntry, e.born = e'.born → p e = p e') : ∀ {es es' : List MapEntry}, ERels ρ es es' → es.findIdx? p = es'.findIdx? p := by
  intro es
  induction es with
  | nil =>
    intro es' he
    have : es' = [] := List.eq_nil_of_length_eq_zero (by have := he.1; simpa using this.symm)
    rw [this]
  | cons e es ih =>
    intro es' he
    cases es' with
    | nil => have := he.1; simp at this
    | cons e' es' =>
      have h0 : ERel ρ e e' := he.2 0 _ _ rfl rfl
      have hrest : ERels ρ es es' := ⟨by have := he.1; simpa using this, fun j x y hx hy => he.2 (j + 1) x y (by simpa using hx) (by simpa using hy)⟩
      rw [List.findIdx?_cons, List.findIdx?_cons, hp e e' h0.2.2, ih hrest]

theorem entryStore_rel (hr : HRel ρ h w) {t : TypeId} {m m' s s' v v' : Value} {h' : Heap} (hm : VRel ρ m m') (hs : VRel ρ s s') (hv : VRel ρ v v') (hp : entryStore h m s v = some h') :
    ∃ w', (Instr.entryStore t m' s' v').run P w = .ok () w' ∧ Grow ρ h w ρ h' w' := by
  unfold entryStore at hp
  split at hp
  · rename_i b kd n
    split at hp
    · rename_i es c hg
      obtain ⟨l, es', hl, rfl, h0, hw, hrel⟩ := map_block hr hm hg
      have hlt : l.block < w.heap.size := (Array.getElem?_eq_some_iff.1 hw).1
      split at hp
      · rename_i i hi
        cases hp
        cases hs
        have hi' : es'.findIdx? (fun e => (e.born : Int) == n) = some i := by
          rw [findIdx_arr, ← findIdx_rel (fun e e' h => by rw [h]) hrel]; exact hi
        refine ⟨_, ?_, map_upd (es1' := es'.modify i fun e => { e with val := v' }) hr hg hl h0 hlt ?_⟩
        · simp only [Instr.entryStore, Sem.run_bind, run_getObj_map hw, Result.andThen_ok, asInt, asIntOf, Sem.run_pure, hi', run_setObj_map hw]
        · rw [Array.toList_modify]
          exact modify_rels hrel (fun x x' hx hx' => ⟨(hrel.2 i x x' hx hx').1, hv, (hrel.2 i x x' hx hx').2.2⟩)
      · cases hp
    · cases hp
  · cases hp
end
end Go.Ab
