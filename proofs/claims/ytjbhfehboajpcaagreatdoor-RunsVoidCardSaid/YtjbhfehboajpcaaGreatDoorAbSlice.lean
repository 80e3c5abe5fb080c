/-
  The abstract evaluator: slices, look-ups, and the whole of the operations that only reckon or read.
-/
import Derived.Test.YtjbhfehboajpcaaGreatDoorAbRead
namespace Go.Ab
open Go

section
variable {P : Program} {E : Env} {ρ : Inj} {h : Heap} {w : World}

/-- What may be there, or not. -/
inductive ORel (ρ : Inj) : Option Value → Option Value → Prop
  | none : ORel ρ none none
  | some {v v' : Value} (hv : VRel ρ v v') : ORel ρ (some v) (some v')

theorem bound_run {x x' : Value} {d m k : Nat} {code : BoundsCode} (hx : VRel ρ x x') (hb : bound (some x) d m = some k) (w : World) : (Instr.sliceBound x' m code).run P w = .ok k w := by
  unfold bound at hb
  split at hb
  · rename_i e; cases e
  · rename_i kd i e
    cases e
    split at hb
    · rename_i hc; cases hb; cases hx; simp [Instr.sliceBound, asIntOf, hc.1, hc.2]
    · cases hb
  · cases hb

theorem bound_mono {v : Option Value} {d m m' k : Nat} (hle : m ≤ m') (hb : bound v d m = some k) : bound v d m' = some k := by
  unfold bound at hb ⊢
  split at hb
  · exact hb
  · split at hb
    · rename_i hc; rw [if_pos ⟨hc.1, by omega⟩]; exact hb
    · cases hb
  · cases hb

theorem bound_le {v : Option Value} {d m k : Nat} (hb : bound v d m = some k) : k ≤ m ∨ (v = none ∧ k = d) := by
  unfold bound at hb
  split at hb
  · right; exact ⟨rfl, by simpa using hb.symm⟩
  · split at hb
    · rename_i hc; cases hb; left; omega
    · cases hb
  · cases hb

theorem bounds_none {s : Bool} {lo hi lo' hi' : Option Value} {len m l k : Nat} (hlo : ORel ρ lo lo') (hhi : ORel ρ hi hi') (h1 : bound hi len m = some k) (h2 : bound lo 0 k = some l) (w : World) :
    (Instr.sliceBounds s len m lo' hi' none).run P w = .ok (l, k, m) w := by
  cases hhi with
  | none =>
    simp [bound] at h1; subst h1
    cases hlo with
    | none => simp [bound] at h2; subst h2; simp [Instr.sliceBounds]
    | some hv => simp [Instr.sliceBounds, bound_run hv h2]
  | some hv1 =>
    cases hlo with
    | none => simp [bound] at h2; subst h2; simp [Instr.sliceBounds, bound_run hv1 h1]
    | some hv => simp [Instr.sliceBounds, bound_run hv1 h1, bound_run hv h2]

theorem bounds_max {s : Bool} {lo lo' : Option Value} {hi hi' mx mx' : Value} {len cap m l k : Nat} (hlo : ORel ρ lo lo') (hhi : VRel ρ hi hi') (hmx : VRel ρ mx mx') (h0 : bound (some mx) 0 cap = some m)
    (h1 : bound (some hi) 0 m = some k) (h2 : bound lo 0 k = some l) (w : World) : (Instr.sliceBounds s len cap lo' (some hi') (some mx')).run P w = .ok (l, k, m) w := by
  cases hlo with
  | none => simp [bound] at h2; subst h2; simp [Instr.sliceBounds, bound_run hmx h0, bound_run hhi h1]
  | some hv => simp [Instr.sliceBounds, bound_run hmx h0, bound_run hhi h1, bound_run hv h2]

theorem cutAt_none (b o n : Nat) : cutAt ⟨b, o, none⟩ n = ⟨b, o + n, none⟩ := by unfold cutAt; split <;> simp_all

theorem slice_res {b o n c k m l : Nat} {loc : Loc} (hk : ρ b = some loc) (hc : c < fuzz) :
    VRel ρ (.slice (if m = l then some ⟨b, o, none⟩ else (some (⟨b, o, none⟩ : Addr)).map (cutAt · k)) n c) (.slice (if m = l then some ⟨loc.block, loc.shift + o, none⟩ else (some (⟨loc.block, loc.shift + o, none⟩ : Addr)).map (·.add k)) n c) := by
  split
  · exact .slice hk hc
  · simp only [Option.map_some, cutAt_none, add_none, Nat.add_assoc]
    exact .slice hk hc

theorem slice_rel (hE : EnvOk P E) {t : TypeId} {x x' v : Value} {lo hi mx lo' hi' mx' : Option Value} (hx : VRel ρ x x') (hlo : ORel ρ lo lo') (hhi : ORel ρ hi hi') (hmx : ORel ρ mx mx')
    (hv : slice E t x lo hi mx = some v) : ∃ v', VRel ρ v v' ∧ ∀ w, (Instr.sliceAt t x' lo' hi' mx').run P w = .ok v' w := by
  unfold slice at hv
  split at hv
  · -- a text
    rename_i s hu
    cases hx
    cases hmx with
    | some _ => simp at hv
    | none =>
      simp only at hv
      split at hv
      · rename_i k h1
        split at hv
        · rename_i l h2
          cases hv
          refine ⟨_, .string _, fun w => ?_⟩
          simp only [Instr.sliceAt, Instr.slice, Sem.run_bind, run_und hE hu, Result.andThen_ok]
          simp [bounds_none hlo hhi h1 h2]
        · cases hv
      · cases hv
  · -- a slice
    rename_i e a len cap hu
    split at hv
    · cases hv
    · rename_i n hn
      have hrun : ∀ {a' : Option Addr} {len' cap' l k m : Nat}, (∀ w, (Instr.sliceBounds true len' cap' lo' hi' mx').run P w = .ok (l, k, m) w) →
          ∀ w, (Instr.sliceAt t (.slice a' len' cap') lo' hi' mx').run P w = .ok (.slice (if m = l then a' else a'.map (·.add (l * n))) (k - l) (m - l)) w := by
        intro a' len' cap' l k m hb w
        simp only [Instr.sliceAt, Instr.slice, Sem.run_bind, run_und hE hu, Result.andThen_ok, hb, run_size hE hn]
        rfl
      cases hmx with
      | some hvm =>
        rename_i mv mv'
        simp only at hv
        split at hv
        · rename_i m h0
          split at hv
          · cases hv
          · rename_i hvv
            cases hhi with
            | some hvh =>
              split at hv
              · rename_i k h1
                split at hv
                · cases hv
                · rename_i hfz
                  split at hv
                  · rename_i l h2
                    cases hv
                    have hb : ∀ cap', (if cap < fuzz then cap else len) ≤ cap' → ∀ w, (Instr.sliceBounds true len cap' lo' (some _) (some mv')).run P w = .ok (l, k, m) w := fun cap' hle => bounds_max hlo hvh hvm (bound_mono hle h0) h1 h2
                    cases hx with
                    | nilSlice => exact ⟨_, by simp; rw [show k - l = 0 from by rcases bound_le h1 with h | h <;> rcases bound_le h0 with h' | h' <;> simp_all [fuzz] <;> omega, show m - l = 0 from by rcases bound_le h0 with h' | h' <;> simp_all [fuzz]]; exact .nilSlice, hrun (hb 0 (by simp [fuzz]))⟩
                    | slice hk hc => exact ⟨_, slice_res hk (by omega), hrun (hb cap (by rw [if_pos hc]; exact Nat.le_refl _))⟩
                    | fuzzy hk hnn hcc => exact ⟨_, slice_res hk (by omega), hrun (hb _ (by rw [if_neg (by omega)]; exact hnn))⟩
                    | fuzzyEnd =>
                      rw [if_neg (by omega)] at h0
                      have hm : m = 0 := by rcases bound_le h0 with h' | h' <;> simp_all
                      subst hm
                      have hk0 : k = 0 := by rcases bound_le h1 with h' | h' <;> simp_all
                      subst hk0
                      have hl0 : l = 0 := by rcases bound_le h2 with h' | h' <;> simp_all
                      subst hl0
                      exact ⟨_, by simp; exact .emptyEnd, hrun (hb 0 (by rw [if_neg (by omega)]; exact Nat.le_refl _))⟩
                    | emptyEnd =>
                      rw [if_pos (by simp [fuzz])] at h0
                      have hm : m = 0 := by rcases bound_le h0 with h' | h' <;> simp_all
                      subst hm
                      have hk0 : k = 0 := by rcases bound_le h1 with h' | h' <;> simp_all
                      subst hk0
                      have hl0 : l = 0 := by rcases bound_le h2 with h' | h' <;> simp_all
                      subst hl0
                      exact ⟨_, by simp; exact .emptyEnd, hrun (hb 0 (by rw [if_pos (by simp [fuzz])]; exact Nat.le_refl _))⟩
                  · cases hv
              · cases hv
        · cases hv
      | none =>
        simp only at hv
        split at hv
        · rename_i hcf
          split at hv
          · rename_i k h1
            split at hv
            · rename_i l h2
              cases hv
              have hb : ∀ w, (Instr.sliceBounds true len cap lo' hi' none).run P w = .ok (l, k, cap) w := bounds_none hlo hhi h1 h2
              cases hx with
              | nilSlice => exact ⟨_, by simp; rw [show k - l = 0 from by rcases bound_le h1 with h | h <;> simp_all <;> omega]; exact .nilSlice, hrun hb⟩
              | slice hk hc => exact ⟨_, slice_res hk (by omega), hrun hb⟩
              | fuzzy hk hnn hcc => omega
              | fuzzyEnd => omega
              | emptyEnd =>
                have hk0 : k = 0 := by rcases bound_le h1 with h' | h' <;> simp_all
                subst hk0
                have hl0 : l = 0 := by rcases bound_le h2 with h' | h' <;> simp_all
                subst hl0
                exact ⟨_, by simp; exact .emptyEnd, hrun hb⟩
            · cases hv
          · cases hv
        · rename_i hcf
          split at hv
          · rename_i hcn
            subst hcn
            split at hv
            · rename_i k h1
              split at hv
              · rename_i l h2
                cases hv
                have hkl : k ≤ len := by rcases bound_le h1 with h | h <;> omega
                have hlk : l ≤ k := by rcases bound_le h2 with h | h <;> omega
                have hb : ∀ cap', len ≤ cap' → ∀ w, (Instr.sliceBounds true len cap' lo' hi' none).run P w = .ok (l, k, cap') w := fun cap' hle => bounds_none hlo hhi (bound_mono hle h1) h2
                generalize hq : Value.slice a len (fuzz + n) = q at hx
                cases hx with
                | nilSlice => simp [fuzz] at hq
                | slice hk hc => simp at hq; omega
                | fuzzy hk hnn hcc =>
                  rename_i b o loc len0 es c
                  simp only [Value.slice.injEq] at hq
                  obtain ⟨rfl, rfl, hes⟩ := hq
                  obtain rfl : n = es := by omega
                  refine ⟨_, ?_, hrun (hb c hnn)⟩
                  by_cases hcl : c = l
                  · subst hcl
                    rw [if_pos rfl, Nat.sub_self, show k - c = 0 from by omega]
                    simp only [Option.map_some]
                    exact .fuzzyEnd
                  · rw [if_neg hcl]
                    simp only [Option.map_some, cutAt_none, add_none, Nat.add_assoc]
                    refine .fuzzy hk (by omega) ?_
                    have : l * n + (c - l) * n = c * n := by rw [← Nat.add_mul]; congr 1; omega
                    omega
                | fuzzyEnd =>
                  rename_i a0 a1 es
                  simp only [Value.slice.injEq] at hq
                  obtain ⟨rfl, rfl, hes⟩ := hq
                  obtain rfl : n = es := by omega
                  obtain rfl : k = 0 := by omega
                  obtain rfl : l = 0 := by omega
                  exact ⟨_, by simp; exact .fuzzyEnd, hrun (hb 0 (Nat.le_refl _))⟩
                | emptyEnd => simp [fuzz] at hq
                | _ => cases hq
              · cases hv
            · cases hv
          · cases hv
  · -- an array behind a pointer
    rename_i len e b o hu
    split at hv
    · rename_i n hn
      cases hmx
      split at hv
      · cases hv
      rename_i hlf
      split at hv
      · rename_i k h1
        split at hv
        · rename_i l h2
          cases hv
          cases hx with
          | ptr hk =>
            have hb : ∀ w, (Instr.sliceBounds false len len lo' hi' none).run P w = .ok (l, k, len) w := bounds_none hlo hhi h1 h2
            rename_i loc
            refine ⟨.slice (some (if len = l then ⟨loc.block, loc.shift + o, none⟩ else (⟨loc.block, loc.shift + o, none⟩ : Addr).add (l * n))) (k - l) (len - l), ?_, fun w => ?_⟩
            · split
              · exact .slice hk (by omega)
              · simp only [cutAt_none, add_none, Nat.add_assoc]; exact .slice hk (by omega)
            · simp only [Instr.sliceAt, Sem.run_bind, run_und hE hu, Result.andThen_ok, Instr.sureAddr, Sem.run_pure, hb, run_size hE hn]
        · cases hv
      · cases hv
    · cases hv
  · cases hv

/-! ### Maps -/
theorem keyEq_spec {t : TypeId} {d : TypeDesc} (hu : E.und t = some d) {k k' : Value} (hp : plainKey E t k = true) {b : Bool} (hk : keyEq k k' = some b) :
    Instr.sameNow d k k' = some b := by
  unfold plainKey at hp
  rw [hu] at hp
  unfold keyEq at hk
  split at hk <;> first
    | (split at hk
       · rename_i e; subst e; cases hk; cases d <;> simp_all [Instr.sameNow]
       · cases hk)
    | (cases hk; cases d <;> simp_all [Instr.sameNow])
    | cases hk

theorem scalar_rel {k k' x : Value} {b : Bool} (hk : keyEq k x = some b) (hr : VRel ρ k k') : k' = k := by
  unfold keyEq at hk
  split at hk <;> first
    | (cases hk; done)
    | (cases hr; rfl)
theorem scalar_rel2 {k x x' : Value} {b : Bool} (hk : keyEq k x = some b) (hr : VRel ρ x x') : x' = x := by
  unfold keyEq at hk
  split at hk <;> first
    | (cases hk; done)
    | (cases hr; rfl)

theorem plainKey_rel {t : TypeId} {k k' : Value} (hp : plainKey E t k = true) (hr : VRel ρ k k') : k' = k := by
  unfold plainKey at hp
  split at hp <;> first
    | (cases hp; done)
    | (cases hr; rfl)

theorem find_rel {t : TypeId} {d : TypeDesc} (hu : E.und t = some d) {k : Value} (hp : plainKey E t k = true) : ∀ (es es' : List MapEntry) (i : Nat) (r : Option (Nat × MapEntry)), ERels ρ es es' → find k es i = some r →
    (r = none ∧ Instr.findNow d k es' i = some none) ∨ ∃ j e e', r = some (j, e) ∧ Instr.findNow d k es' i = some (some (j, e'.val)) ∧ i ≤ j ∧ es[j - i]? = some e ∧ es'[j - i]? = some e' ∧ ERel ρ e e' ∧ keyEq k e.key = some true := by
  intro es
  induction es with
  | nil =>
    intro es' i r he hf
    have : es' = [] := List.eq_nil_of_length_eq_zero (by have := he.1; simpa using this.symm)
    subst this
    simp [find] at hf; subst hf
    exact .inl ⟨rfl, rfl⟩
  | cons e es ih =>
    intro es' i r he hf
    cases es' with
    | nil => have := he.1; simp at this
    | cons e' es' =>
      have h0 : ERel ρ e e' := he.2 0 _ _ rfl rfl
      have hrest : ERels ρ es es' := ⟨by have := he.1; simpa using this, fun j x y hx hy => he.2 (j + 1) x y (by simpa using hx) (by simpa using hy)⟩
      unfold find at hf
      split at hf
      · rename_i hk
        cases hf
        have e1 := scalar_rel2 hk h0.1
        have := keyEq_spec hu hp hk
        exact .inr ⟨i, e, e', rfl, by simp only [Instr.findNow, e1, this], Nat.le_refl _, by simp, by simp, h0, hk⟩
      · rename_i hk
        have e1 := scalar_rel2 hk h0.1
        have := keyEq_spec hu hp hk
        rcases ih es' (i + 1) r hrest hf with ⟨a, b⟩ | ⟨j, x, x', a, b, c, d1, d2, f, g⟩
        · exact .inl ⟨a, by simp only [Instr.findNow, e1, this]; exact b⟩
        · refine .inr ⟨j, x, x', a, by simp only [Instr.findNow, e1, this]; exact b, by omega, ?_, ?_, f, g⟩
          · rw [show j - i = (j - (i + 1)) + 1 from by omega, List.getElem?_cons_succ]; exact d1
          · rw [show j - i = (j - (i + 1)) + 1 from by omega, List.getElem?_cons_succ]; exact d2
      · cases hf

theorem run_checkKey {t : TypeId} {k : Value} (hE : EnvOk P E) (hp : plainKey E t k = true) (b : Bool) (w : World) : (Instr.checkKey b 10000 t k).run P w = .ok () w := by
  have key : ∀ n, (Instr.checkKey b (n + 1) t k).run P w = .ok () w := fun n => by
    unfold plainKey at hp
    split at hp <;> first
      | (rename_i hu; simp only [Instr.checkKey, Sem.run_bind, run_und hE hu, Result.andThen_ok]; rfl)
      | cases hp
  exact key 9999

theorem plainKey_und {t : TypeId} {k : Value} (hp : plainKey E t k = true) : ∃ d, E.und t = some d := by
  unfold plainKey at hp
  split at hp <;> first
    | exact ⟨_, ‹_›⟩
    | cases hp

theorem run_findKey (hE : EnvOk P E) {t : TypeId} {d : TypeDesc} (hu : E.und t = some d) {k : Value} {es' : List MapEntry} {r : Option (Nat × Value)} (hf : Instr.findNow d k es' 0 = some r) (w : World) :
    (Instr.findKey t k es').run P w = .ok r w := by
  simp only [Instr.findKey, Sem.run_bind, run_und hE hu, Result.andThen_ok, hf]
  rfl

theorem lookup_rel (hE : EnvOk P E) (hr : HRel ρ h w) {t : TypeId} {m m' k k' v : Value} {ok : Bool} (hm : VRel ρ m m') (hk : VRel ρ k k') (hv : lookup E h t m k ok = some v) :
    ∃ v', VRel ρ v v' ∧ (Instr.lookup t m' k' ok).run P w = .ok v' w := by
  unfold lookup at hv
  split at hv
  · rename_i kt et hu
    split at hv
    · rename_i hp
      obtain rfl := plainKey_rel hp hk
      obtain ⟨d, hd⟩ := plainKey_und hp
      split at hv
      · rename_i es hes
        have hget : ∃ es' : Array MapEntry, ERels ρ es es'.toList ∧ ((m' = .map none ∧ es' = #[]) ∨ ∃ r c, m' = .map (some r) ∧ w.heap[r]? = some (.map es' c)) := by
          split at hes
          · cases hes; cases hm
            exact ⟨#[], ⟨rfl, fun i x y hx => by simp at hx⟩, .inl ⟨rfl, rfl⟩⟩
          · rename_i b
            split at hes
            · rename_i hg
              cases hes
              cases hm with
              | map hb h0 =>
                obtain ⟨l, hl, hbk⟩ := hr.blk b _ hg trivial
                rw [hb] at hl; cases hl
                obtain ⟨_, es', hw, hrel⟩ := hbk
                exact ⟨es', hrel, .inr ⟨_, _, rfl, hw⟩⟩
            · cases hes
          · cases hes
        obtain ⟨es', hrel, hrun⟩ := hget
        have hgoal : ∀ (x : Value) (b : Bool) (r : Option (Nat × Value)), Instr.findNow d k' es'.toList 0 = some r → (∀ w, ((match r with
              | some (_, v) => pure (v, true)
              | none => do pure (← zeroValue et, false) : Sem (Value × Bool))).run P w = .ok (x, b) w) → (Instr.lookup t m' k' ok).run P w = .ok (if ok then .tuple #[x, .bool b] else x) w := by
          intro x b r hf hx
          have hx := hx w
          rcases hrun with ⟨rfl, rfl⟩ | ⟨rr, c, rfl, hw⟩
          · simp only [Instr.lookup, Sem.run_bind, run_und hE hu, Result.andThen_ok, Sem.run_pure, run_checkKey hE hp]
            rw [run_findKey hE hd hf]
            cases r with
            | none =>
              simp only [Sem.run_bind, Sem.run_pure, Result.andThen_ok] at hx ⊢
              cases hz : (zeroValue et).run P w with
              | ok z w' => rw [hz] at hx; simp at hx; obtain ⟨⟨rfl, rfl⟩, rfl⟩ := hx; simp
              | halt a w' => rw [hz] at hx; simp at hx
            | some r => simp at hx ⊢; obtain ⟨rfl, rfl⟩ := hx; simp
          · have hget : (getObj rr).run P w = .ok (.map es' c) w := by simp [getObj, Sem.run, hw]
            simp only [Instr.lookup, Sem.run_bind, run_und hE hu, Result.andThen_ok, hget, Sem.run_pure, run_checkKey hE hp]
            rw [run_findKey hE hd hf]
            cases r with
            | none =>
              simp only [Sem.run_bind, Sem.run_pure, Result.andThen_ok] at hx ⊢
              cases hz : (zeroValue et).run P w with
              | ok z w' => rw [hz] at hx; simp at hx; obtain ⟨⟨rfl, rfl⟩, rfl⟩ := hx; simp
              | halt a w' => rw [hz] at hx; simp at hx
            | some r => simp at hx ⊢; obtain ⟨rfl, rfl⟩ := hx; simp
        split at hv
        · rename_i j e hf
          rcases find_rel hd hp es es'.toList 0 _ hrel hf with ⟨a, _⟩ | ⟨j', e0, e', a, b, c, d1, d2, f, g⟩
          · cases a
          · cases a
            cases hv
            refine ⟨_, ?_, hgoal e'.val true _ b (fun w => by rfl)⟩
            cases ok
            · exact f.2.1
            · exact VRels.toTuple (by simp; exact .cons f.2.1 (.cons (.bool true) .nil))
        · rename_i hf
          rcases find_rel hd hp es es'.toList 0 _ hrel hf with ⟨_, b⟩ | ⟨j', e0, e', a, _⟩
          · split at hv
            · rename_i z hz
              cases hv
              refine ⟨_, ?_, hgoal z false none b (fun w => by simp [run_zero hE hz])⟩
              have := zero_rel (ρ := ρ) hE hz
              cases ok
              · exact this
              · exact VRels.toTuple (by simp; exact .cons this (.cons (.bool false) .nil))
            · cases hv
          · cases a
        · cases hv
      · cases hv
    · cases hv
  · cases hv
end
end Go.Ab
