/-
  The abstract evaluator: the operations that only reckon or read, all of them.
-/
import Derived.Test.YtjbhfehboajpcaaGreatDoorAbBin
namespace Go.Ab
open Go

section
variable {P : Program} {E : Env} {ρ : Inj} {h : Heap} {w : World}

/-! ### Conversions -/
theorem run_und2 (hE : EnvOk P E) {t : TypeId} {d : TypeDesc} (hu : E.und t = some d) : P.underlying t = some d := hE.und _ _ hu

theorem push_fold (l : List UInt8) : ∀ (l' : List Value) (s : ByteArray) (w : World), l'.length = l.length → (∀ (i : Nat) (c : UInt8), l[i]? = some c → ∃ n : Int, l'[i]? = some (Value.int .u8 n) ∧ UInt8.ofNat n.toNat = c) →
    (forIn l' s fun c r => (do
      let __discr := c
      match __discr with
      | Value.int IntKind.u8 n => do
        let r := r.push (UInt8.ofNat n.toNat)
        pure PUnit.unit
        pure (ForInStep.yield r)
      | _ => stuck "bytesToString: byte expected" : Sem (ForInStep ByteArray))).run P w = .ok ⟨s.data ++ l.toArray⟩ w := by
  induction l with
  | nil =>
    intro l' s w hl _
    have : l' = [] := by cases l' <;> simp_all
    subst this; simp
  | cons c l ih =>
    intro l' s w hl hc
    cases l' with
    | nil => simp at hl
    | cons v l' =>
      obtain ⟨n, h1, h2⟩ := hc 0 c rfl
      simp at h1; subst h1
      simp only [List.forIn_cons, Sem.run_bind, Sem.run_pure, Result.andThen_ok]
      rw [ih l' _ w (by simpa using hl) (fun i c hi => by obtain ⟨n, a, b⟩ := hc (i + 1) c (by simpa using hi); exact ⟨n, by simpa using a, b⟩)]
      rw [h2]
      refine congrArg (fun d => Result.ok (ByteArray.mk d) w) (Array.toList_inj.1 ?_)
      simp [ByteArray.push]

theorem bytesOf_spec : ∀ (l : List Value) (bs : List UInt8), bytesOf l = some bs → l.length = bs.length ∧ ∀ (i : Nat) (c : UInt8), bs[i]? = some c → ∃ n : Int, l[i]? = some (Value.int .u8 n) ∧ UInt8.ofNat n.toNat = c := by
  intro l
  induction l with
  | nil => intro bs hb; simp [bytesOf] at hb; subst hb; exact ⟨rfl, fun i c hi => by simp at hi⟩
  | cons v l ih =>
    intro bs hb
    unfold bytesOf at hb
    split at hb
    · rename_i e; cases e
    · rename_i n r e
      cases e
      split at hb
      · rename_i r' hr
        cases hb
        obtain ⟨h1, h2⟩ := ih _ hr
        refine ⟨by simp [h1], fun i c hi => ?_⟩
        cases i with
        | zero => simp at hi; exact ⟨n, rfl, hi⟩
        | succ i => simpa using h2 i c (by simpa using hi)
      · cases hb
    · cases hb

theorem ints_rel {l l' : List Value} (hl : VRels ρ l l') (hi : ∀ v ∈ l, ∃ k n, v = .int k n) : l' = l := by
  apply List.ext_getElem?
  intro i
  by_cases h : i < l.length
  · have hx := List.getElem?_eq_getElem h
    obtain ⟨y, hy, hv⟩ := hl.get hx
    obtain ⟨k, n, e⟩ := hi _ (List.getElem_mem h)
    rw [e] at hv hx
    have := int_of_rel hv
    rw [hx, hy, this]
  · have := hl.1; rw [List.getElem?_eq_none (show l.length ≤ i by omega), List.getElem?_eq_none (show l'.length ≤ i by omega)]

theorem bytesOf_ints {l : List Value} {bs : List UInt8} (hb : bytesOf l = some bs) : ∀ v ∈ l, ∃ k n, v = .int k n := by
  intro v hv
  obtain ⟨i, hi⟩ := List.getElem?_of_mem hv
  obtain ⟨h1, h2⟩ := bytesOf_spec _ _ hb
  have hlt : i < bs.length := by rw [← h1]; exact (List.getElem?_eq_some_iff.1 hi).1
  obtain ⟨n, hn, _⟩ := h2 i _ (List.getElem?_eq_getElem hlt)
  rw [hi] at hn; cases hn
  exact ⟨_, _, rfl⟩

theorem convert_rel (hE : EnvOk P E) (hr : HRel ρ h w) {src dst : TypeId} {x x' v : Value} (hx : VRel ρ x x') (hv : convert E h src dst x = some v) :
    ∃ v', VRel ρ v v' ∧ (Go.convert src dst x').run P w = .ok v' w := by
  unfold convert at hv
  split at hv
  · rename_i hs hd
    cases hv; cases hx
    exact ⟨_, .int _ _, by simp only [Go.convert, Sem.run_bind, run_und hE hs, run_und hE hd, Result.andThen_ok]; rfl⟩
  · rename_i hs hd
    cases hv; cases hx
    exact ⟨_, .string _, by simp only [Go.convert, Sem.run_bind, run_und hE hs, run_und hE hd, Result.andThen_ok]; rfl⟩
  · rename_i hs hd
    cases hv; cases hx
    exact ⟨_, .string _, by simp only [Go.convert, Sem.run_bind, run_und hE hs, run_und hE hd, Result.andThen_ok]; rfl⟩
  · rename_i e a len c hs hd
    split at hv
    · rename_i he
      cases hv
      generalize hq : Value.slice none len c = q at hx
      cases hx <;> cases hq
      refine ⟨_, .string _, ?_⟩
      simp only [Go.convert, Sem.run_bind, run_und hE hs, run_und hE hd, Result.andThen_ok, run_und hE he]; rfl
    · rename_i b o he
      split at hv
      · rename_i l hrd
        split at hv
        · rename_i bs hbs
          cases hv
          obtain ⟨k, l', hk, hlen, hvl, hc⟩ := readCells_rel hr hrd
          have hll : l' = l := ints_rel hvl (bytesOf_ints hbs)
          subst hll
          obtain ⟨s1, s2⟩ := bytesOf_spec _ _ hbs
          have hload := run_loadCells_rel (P := P) hlen hc
          have hfold := push_fold (P := P) bs l' ByteArray.empty w s1 s2
          refine ⟨_, .string _, ?_⟩
          have hx' : ∃ c', x' = .slice (some ⟨k.block, k.shift + o, none⟩) len c' ∨ len = 0 ∧ ∃ a', x' = .slice (some a') 0 0 := by
            generalize hq : Value.slice (some ⟨b, o, none⟩) len c = q at hx
            cases hx <;> cases hq
            · rename_i hk' hcc; rw [hk] at hk'; cases hk'; exact ⟨_, .inl rfl⟩
            · rename_i hk' hn hcc; rw [hk] at hk'; cases hk'; exact ⟨_, .inl rfl⟩
            · exact ⟨0, .inr ⟨rfl, _, rfl⟩⟩
            · exact ⟨0, .inr ⟨rfl, _, rfl⟩⟩
          obtain ⟨c', rfl | ⟨rfl, a', rfl⟩⟩ := hx'
          · simp only [Go.convert, Sem.run_bind, run_und hE hs, run_und hE hd, Result.andThen_ok, run_und hE he, Conv.bytesToString, hload]
            rw [← Array.forIn_toList]
            simp only [] 
            erw [hfold]
            simp only [Result.andThen_ok, Sem.run_pure]
            rw [show ByteArray.empty.data = #[] from rfl]
            simp
          · have : l' = [] := List.eq_nil_of_length_eq_zero hlen
            subst this
            have : bs = [] := by simpa [bytesOf] using hbs
            subst this
            simp only [Go.convert, Sem.run_bind, run_und hE hs, run_und hE hd, Result.andThen_ok, run_und hE he, Conv.bytesToString]
            rfl
        · cases hv
      · cases hv
    · cases hv
  · cases hv

/-! ### Unsafe pointers -/
theorem varAt_rel (hE : EnvOk P E) (hr : HRel ρ h w) {t : TypeId} {b : Nat} (hv : varAt E h t b = true) :
    ∃ k c fz i, ρ b = some k ∧ k.shift = 0 ∧ w.heap[k.block]? = some (.cells c t fz) ∧ P.info? t = some i ∧ i.size ≠ 0 ∧ i.size ≤ c.size := by
  unfold varAt at hv
  split at hv
  · rename_i cs ro u n hg hn
    simp only [Bool.and_eq_true, Bool.not_eq_true'] at hv
    obtain ⟨⟨h1, h2⟩, h3⟩ := hv
    have e1 : t = u := Nat.eq_of_beq_eq_true h1
    have e2 : n ≠ 0 := fun e => by subst e; simp at h2
    have e3 : n ≤ cs.length := Nat.le_of_ble_eq_true h3
    obtain ⟨k, hk, c, elem, fz, g1, ⟨rfl, gs⟩, g2, g3, _⟩ := hr.blk b _ hg trivial
    obtain ⟨i, hi, rfl⟩ := size_spec hE hn
    subst e1
    exact ⟨k, c, fz, i, hk, gs, g1, hi, e2, by omega⟩
  · cases hv

theorem lies_at_first {t : TypeId} {i : TypeInfo} (hi : P.info? t = some i) (hs : i.size ≠ 0) {n : Nat} (hn : i.size ≤ n) : liesAt P P.depth t (n / P.cellsOf t) 0 t 1 = true := by
  have hd : P.depth = (2 * (P.types.size + Made.depth) + 1) + 1 := rfl
  have hc : P.cellsOf t = i.size := by simp [Program.cellsOf, hi]
  have hq : 1 ≤ n / i.size := (Nat.le_div_iff_mul_le (by omega)).2 (by omega)
  rw [hd]
  simp only [liesAt, hd, rowAt, hc, if_neg hs, sameLayout, Nat.zero_div, Nat.zero_mod, beq_self_eq_true, Bool.true_and, Bool.true_or, Bool.and_true]
  simp [hq]

theorem convPtr_rel (hE : EnvOk P E) (hr : HRel ρ h w) {src dst : TypeId} {x x' v : Value} (hx : VRel ρ x x') (hv : convPtr E h src dst x = some v) :
    ∃ v', VRel ρ v v' ∧ (Go.convert src dst x').run P w = .ok v' w := by
  have hview : ∀ {r : Nat} {c : Array Value} {t : TypeId} {fz : Nat × Nat}, w.heap[r]? = some (.cells c t fz) → (viewAt r).run P w = .ok none w := fun hh => by
    simp [viewAt, World.shape?, hh]
  unfold convPtr at hv
  split at hv
  · rename_i t b hs hd
    split at hv
    · rename_i hva
      cases hv
      obtain ⟨k, c, fz, i, hk, hsh, hw, hi, h0, hle⟩ := varAt_rel hE hr hva
      generalize hq : Value.pointer (some ⟨b, 0, none⟩) = q at hx
      cases hx <;> cases hq
      rename_i hk'
      rw [hk] at hk'; cases hk'
      refine ⟨.pointer (some ⟨k.block, k.shift + 0, none⟩), .ptr hk, ?_⟩
      have hsz : (sizeOf t).run P w = .ok i.size w := by simp [sizeOf, typeInfo, hi]
      have hc0 : ¬ c.size ≤ 0 := by omega
      simp only [Go.convert, Sem.run_bind, run_und hE hs, run_und hE hd, Result.andThen_ok, Conv.unsafePointer, Conv.seenAt, hview hw, Sem.run_pure, cellsIn, run_shape, World.shape?, hw, hsz]
      simp [hsh, h0, hc0]
    · cases hv
  · rename_i t b hs hd
    split at hv
    · rename_i hva
      cases hv
      obtain ⟨k, c, fz, i, hk, hsh, hw, hi, h0, hle⟩ := varAt_rel hE hr hva
      generalize hq : Value.pointer (some ⟨b, 0, none⟩) = q at hx
      cases hx <;> cases hq
      rename_i hk'
      rw [hk] at hk'; cases hk'
      refine ⟨.pointer (some ⟨k.block, k.shift + 0, none⟩), .ptr hk, ?_⟩
      have hsz : (sizeOf t).run P w = .ok i.size w := by simp [sizeOf, typeInfo, hi]
      have hlies := lies_at_first (P := P) hi h0 hle
      simp only [Go.convert, Sem.run_bind, run_und hE hs, run_und hE hd, Result.andThen_ok, Conv.unsafePointer, Conv.seenAt, hview hw, Sem.run_pure, hsz, variablesAt, run_program, run_shape, World.shape?, hw, hsh, Nat.add_zero, hlies]
      simp [h0]
    · cases hv
  · rename_i hs hd
    cases hv; cases hx
    exact ⟨_, .nilPtr, by simp only [Go.convert, Sem.run_bind, run_und hE hs, run_und hE hd, Result.andThen_ok, Conv.unsafePointer]; rfl⟩
  · rename_i hs hd
    cases hv; cases hx
    exact ⟨_, .nilPtr, by simp only [Go.convert, Sem.run_bind, run_und hE hs, run_und hE hd, Result.andThen_ok, Conv.unsafePointer]; rfl⟩
  · cases hv

/-! ### Aggregates -/
theorem foldl_splice (off : Nat) : ∀ (l : List Value) (i : Nat) (c : Array Value), (l.zipIdx i).foldl (fun cs p => cs.setIfInBounds (off + p.2) p.1) c = arrSplice c (off + i) l := by
  intro l
  induction l with
  | nil => intro i c; rfl
  | cons v l ih => intro i c; simp only [List.zipIdx_cons, List.foldl_cons, arrSplice]; rw [ih]; rfl

theorem splice_arr {cells : List Value} {c' : Array Value} (hc : VRels ρ cells c'.toList) {off : Nat} {vs vs' r : List Value} (hv : VRels ρ vs vs') (hs : splice cells off vs = some r) (hle : off + vs.length ≤ cells.length) :
    VRels ρ r (arrSplice c' off vs').toList := by
  obtain ⟨s1, s2, s3⟩ := splice_spec _ _ _ _ hs
  have hl := hv.1
  have hcl := hc.1
  simp at hcl
  refine ⟨by simp [arrSplice_size]; omega, fun k x y hx hy => ?_⟩
  rw [s3 k] at hx
  have hy' : (arrSplice c' off vs')[k]? = some y := by simpa using hy
  rw [arrSplice_get _ _ _ _ (by omega)] at hy'
  by_cases hk : off ≤ k ∧ k < off + vs.length
  · rw [if_pos hk] at hx
    rw [if_pos (by omega)] at hy'
    exact hv.2 _ x y hx hy'
  · rw [if_neg hk] at hx
    rw [if_neg (by omega)] at hy'
    exact hc.2 k x y hx (by simpa using hy')

theorem fill_rel {place : Nat → Option (Nat × Nat)} : ∀ (ps ps' : List (Nat × Value)) (cells r : List Value) (cells' : Array Value), VRels ρ cells cells'.toList →
    ps.map (·.1) = ps'.map (·.1) → VRels ρ (ps.map (·.2)) (ps'.map (·.2)) → fillList place cells ps = some r →
    ∃ r' : Array Value, Instr.fill place cells' ps' = some r' ∧ VRels ρ r r'.toList := by
  intro ps
  induction ps with
  | nil =>
    intro ps' cells r cells' hc hi _ hf
    have : ps' = [] := by cases ps' <;> simp_all
    subst this
    simp [fillList] at hf; subst hf
    exact ⟨cells', rfl, hc⟩
  | cons p ps ih =>
    intro ps' cells r cells' hc hi hv hf
    cases ps' with
    | nil => simp at hi
    | cons p' ps' =>
      obtain ⟨i, v⟩ := p
      obtain ⟨i', v'⟩ := p'
      simp only [List.map_cons, List.cons.injEq] at hi hv
      obtain ⟨rfl, hi⟩ := hi
      obtain ⟨y, rr, e, hvv, hvs⟩ := hv.cons_inv
      cases e
      unfold fillList at hf
      split at hf
      · cases hf
      · rename_i off n hp
        split at hf
        · cases hf
        · rename_i hn
          split at hf
          · rename_i cs hs
            have hcl := hvv.cells
            obtain ⟨s1, s2, s3⟩ := splice_spec _ _ _ _ hs
            have hn' : v'.cells.size = n := by have := hcl.1; simp at this; simp at hn; omega
            have hvn : v.cells.toList.length = n := by simp at hn; simpa using hn.1
            have hle : off + v.cells.toList.length ≤ cells.length := by simp at hn ⊢; omega
            have hno : ¬ ((v'.cells.size ≠ n || off + v'.cells.size > cells'.size) = true) := by
              have h1 := hc.1
              simp at h1 hle ⊢
              refine ⟨hn', ?_⟩
              have := hcl.1; simp at this; omega
            obtain ⟨r', hr', hrel⟩ := ih ps' cs r _ (splice_arr hc hcl hs hle) hi hvs hf
            refine ⟨r', ?_, hrel⟩
            simp only [Instr.fill, hp]
            rw [if_neg hno]
            have := foldl_splice off v'.cells.toList 0 cells'
            rw [Nat.add_zero] at this
            rw [← hr', ← this, ← Array.foldl_toList]
            simp
          · cases hf

theorem places_spec (hE : EnvOk P E) : ∀ (fs : List Field) (ps : List (Nat × Nat)), places E fs = some ps → ∀ w, (fs.mapM fun f => do pure (f.offset, ← sizeOf f.type) : Sem (List (Nat × Nat))).run P w = .ok ps w := by
  intro fs
  induction fs with
  | nil => intro ps hp w; simp [places] at hp; subst hp; simp
  | cons f fs ih =>
    intro ps hp w
    simp only [places] at hp
    split at hp
    · rename_i n r hn hr
      cases hp
      simp only [List.mapM_cons, Sem.run_bind, run_size hE hn, Result.andThen_ok, Sem.run_pure, ih _ hr w]
    · cases hp

theorem build_rel (hE : EnvOk P E) {t : TypeId} {ps ps' : List (Nat × Value)} {v : Value} (hi : ps.map (·.1) = ps'.map (·.1)) (hv : VRels ρ (ps.map (·.2)) (ps'.map (·.2))) (hb : build E t ps = some v) :
    ∃ v', VRel ρ v v' ∧ ∀ w, (Instr.build t ps'.toArray).run P w = .ok v' w := by
  unfold build at hb
  split at hb
  · rename_i z fs hz hu
    split at hb
    · rename_i pl hpl
      split at hb
      · rename_i cs hf
        cases hb
        have hzr := (zero_rel (ρ := ρ) hE hz).cells
        obtain ⟨r', hr', hrel⟩ := fill_rel _ _ _ _ _ hzr hi hv hf
        refine ⟨.agg r', VRels.toAgg (by simpa using hrel), fun w => ?_⟩
        simp only [Instr.build, Sem.run_bind, run_zero hE hz, Result.andThen_ok, run_und hE hu, Array.mapM_eq_mapM_toList, Sem.run_map, places_spec hE _ _ hpl]
        have : (fun x : Nat => pl.toArray[x]?) = fun i : Nat => pl[i]? := by funext i; simp
        simp only [this, hr']
        rfl
      · cases hb
    · cases hb
  · rename_i z len e hz hu
    split at hb
    · rename_i n hn
      split at hb
      · rename_i cs hf
        cases hb
        have hzr := (zero_rel (ρ := ρ) hE hz).cells
        obtain ⟨r', hr', hrel⟩ := fill_rel _ _ _ _ _ hzr hi hv hf
        refine ⟨.agg r', VRels.toAgg (by simpa using hrel), fun w => ?_⟩
        simp only [Instr.build, Sem.run_bind, run_zero hE hz, Result.andThen_ok, run_und hE hu, run_size hE hn, hr']
        rfl
      · cases hb
    · cases hb
  · cases hb
end
end Go.Ab
