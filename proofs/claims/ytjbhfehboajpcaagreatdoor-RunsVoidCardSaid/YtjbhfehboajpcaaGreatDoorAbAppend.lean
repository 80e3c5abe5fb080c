/-
  The abstract evaluator: append, copy, clear.
-/
import Derived.Test.YtjbhfehboajpcaaGreatDoorAbHeavy
namespace Go.Ab
open Go

section
variable {P : Program} {E : Env} {ρ : Inj} {h : Heap} {w : World}

theorem bytesOfT_spec (hE : EnvOk P E) {t : TypeId} {n : Nat} (hb : bytesOfT E t = some n) : ∃ i, P.info? t = some i ∧ i.bytes = n := by
  unfold bytesOfT at hb
  split at hb
  · rename_i i hi; cases hb; exact ⟨i, hE.info _ _ hi, rfl⟩
  · cases hb

theorem growBy_le (n : Nat) (h256 : 256 ≤ n) : ∀ (r c : Nat), c ≤ 2 * n → Builtin.growBy n r c ≤ 2 * n := by
  intro r
  induction r with
  | zero => intro c hc; exact hc
  | succ r ih =>
    intro c hc
    simp only [Builtin.growBy]
    split
    · exact hc
    · exact ih _ (by omega)

theorem nextcap_le {need old : Nat} (hlt : old < need) : Builtin.nextslicecap need old ≤ 2 * need := by
  unfold Builtin.nextslicecap
  split
  · omega
  · split
    · omega
    · exact growBy_le need (by omega) _ _ (by omega)

/-- What is appended, in the model: how many elements, and their cells. -/
def Appended (elem : TypeId) (size : Nat) (zeros : Bool) (n : Nat) (x : Value) : Sem (Array Value) :=
  if !zeros then Builtin.firstCells size n x
  else if n * size = 0 then pure #[]
  else do pure (Builtin.zeroCells (← zeroValue elem).cells n)

theorem zeroCells_eq (z : Array Value) (n : Nat) : (Builtin.zeroCells z n).toList = repeatCells z.toList n := by
  rw [repeat_eq]; rfl

def isInt (d : Option TypeDesc) : Bool := match d with | some (.int _) => true | _ => false

theorem news_rel (hE : EnvOk P E) (hr : HRel ρ h w) {e : TypeId} {es by_ : Nat} {z : Value} (hes : size E e = some es) (hby : bytesOfT E e = some by_) (hz : zero E e = some z) (hzs : z.cells.size = es) {d : Option TypeDesc} {x x' : Value} {n : Nat} {new : List Value}
    (hx : VRel ρ x x') (hn : news E h e es d x = some (n, new)) :
    ∃ new' : List Value, VRels ρ new new' ∧ new'.length = n * es ∧
      (isInt d = true → ∃ k i, x' = .int k i ∧ 0 ≤ i ∧ i ≤ most ∧ i.toNat = n ∧ n * by_ ≤ most) ∧ (isInt d = false → (Builtin.lenOf x').run P w = .ok n w) ∧
      ∀ w' : World, w'.heap = w.heap → (Appended e es (isInt d) n x').run P w' = .ok new'.toArray w' := by
  unfold news at hn
  split at hn
  · -- zeros
    rename_i k k2 i
    split at hn
    · rename_i hb
      split at hn
      · rename_i l by2 hl hby2
        rw [hby] at hby2; cases hby2
        split at hn
        · rename_i hlim
          cases hn; cases hx
          obtain ⟨z2, s, h1, h2, h3, h4, h5⟩ := zeros_spec (ρ := ρ) hE hl
          rw [hz] at h1; cases h1
          refine ⟨new, h5, by rw [h4, repeat_length]; simp [hzs], fun _ => ⟨_, _, rfl, hb.1, hb.2, rfl, hlim⟩, fun hh => by simp [isInt] at hh, fun w' hw' => ?_⟩
          simp only [Appended, isInt, Bool.not_true, Bool.false_eq_true, if_false]
          by_cases h0 : i.toNat * es = 0
          · have : new = [] := List.eq_nil_of_length_eq_zero (by rw [h4, repeat_length]; simp [hzs, h0])
            rw [if_pos h0, this]; rfl
          · rw [if_neg h0]
            simp only [Sem.run_bind, run_zero hE hz, Result.andThen_ok, Sem.run_pure]
            congr 1
            apply Array.toList_inj.1
            rw [zeroCells_eq, h4]
        · cases hn
      · cases hn
    · cases hn
  · cases hn
  · -- nothing
    rename_i hni
    cases hn
    have hd : isInt d = false := by unfold isInt; split <;> first | rfl | exact (hni _ rfl).elim
    cases hx
    refine ⟨[], VRels.nil, by simp, fun hh => (by rw [hd] at hh; cases hh), fun _ => rfl, fun w' _ => ?_⟩
    simp [Appended, hd, Builtin.firstCells]
  · -- a slice
    rename_i b o n0 c hni
    have hd : isInt d = false := by unfold isInt; split <;> first | rfl | exact (hni _ rfl).elim
    split at hn
    · rename_i l hrd
      cases hn
      obtain ⟨k, l', hk, hlen, hvl, hc⟩ := readCells_rel hr hrd
      have hx' : ∃ c', x' = .slice (some ⟨k.block, k.shift + o, none⟩) n c' ∨ n = 0 ∧ ∃ a', x' = .slice (some a') 0 0 := by
        generalize hq : Value.slice (some ⟨b, o, none⟩) n c = q at hx
        cases hx <;> cases hq
        · rename_i hk' hcc; rw [hk] at hk'; cases hk'; exact ⟨_, .inl rfl⟩
        · rename_i hk' hn hcc; rw [hk] at hk'; cases hk'; exact ⟨_, .inl rfl⟩
        · exact ⟨0, .inr ⟨rfl, _, rfl⟩⟩
        · exact ⟨0, .inr ⟨rfl, _, rfl⟩⟩
      refine ⟨l', hvl, hlen, fun hh => (by rw [hd] at hh; cases hh), fun _ => ?_, fun w' hw' => ?_⟩
      · obtain ⟨c', rfl | ⟨rfl, a', rfl⟩⟩ := hx' <;> rfl
      · simp only [Appended, hd, Bool.not_false, if_true]
        obtain ⟨c', rfl | ⟨rfl, a', rfl⟩⟩ := hx'
        · exact run_loadCells_rel (P := P) hlen (fun j v hv => by
            have := hc j v hv
            simp only [World.cell?] at this ⊢
            rw [hw']; exact this)
        · have : l' = [] := List.eq_nil_of_length_eq_zero (by simpa using hlen)
          subst this
          simp [Builtin.firstCells, loadCells, loadCellsFrom]
    · cases hn
  · -- a text
    rename_i s hni
    have hd : isInt d = false := by unfold isInt; split <;> first | rfl | exact (hni _ rfl).elim
    split at hn
    · rename_i h1
      cases hn; cases hx
      subst h1
      refine ⟨s.data.toList.map fun c : UInt8 => Value.int .u8 (c.toNat : Int), ?_, by simp, fun hh => (by rw [hd] at hh; cases hh), fun _ => rfl, fun w' _ => ?_⟩
      · exact VRels.of_all fun v hv => by
          obtain ⟨b, _, rfl⟩ := List.mem_map.1 hv
          exact .int _ _
      · simp only [Appended, hd, Bool.not_false, if_true, Builtin.firstCells, Sem.run_pure]
        congr 1
        apply Array.toList_inj.1
        simp
    · cases hn
  · cases hn

/-- A block that is not used any more. -/
theorem grow_dead {b : Nat} {x : Blk} {l : Loc} (hr : HRel ρ h w) (hb : h.get b = some x) (hx : x.rw) (hl : ρ b = some l) : Grow ρ h w ρ (h.set b .dead) w := by
  obtain ⟨k, hk, hbk⟩ := hr.blk b x hb hx.live
  have hlt := hbk.lt hx.live
  rw [hl] at hk; cases hk
  have hw : w.heap = w.heap.setIfInBounds l.block w.heap[l.block] := by
    apply Array.ext_getElem?
    intro j
    by_cases hj : j = l.block
    · subst hj; rw [Array.getElem?_setIfInBounds_self_of_lt hlt, Array.getElem?_eq_getElem hlt]
    · rw [Array.getElem?_setIfInBounds_ne (Ne.symm hj)]
  exact grow_upd hr hb hx hl hw ⟨rfl, rfl, rfl⟩ (fun hd => hd.elim)

/-- A block goes on as another one, at the same place in the world. -/
theorem grow_move {w' : World} {b : Nat} {x x' : Blk} {l l' : Loc} {o : Obj} (hr : HRel ρ h w) (hb : h.get b = some x) (hx : x.rw) (hl : ρ b = some l)
    (hll : l'.block = l.block) (hw : w'.heap = w.heap.setIfInBounds l.block o) (hs : SameRest w w') (hx' : BlkRel (ρ.upd h.next l') w' l' x') (hpl : x'.plain := by trivial) :
    Grow ρ h w (ρ.upd h.next l') ((h.set b .dead).push x') w' := by
  have hfresh := hr.fresh h.next (Nat.le_refl _)
  have hle : ρ.le (ρ.upd h.next l') := Inj.le_upd hfresh
  have hold : ∀ r, r ≠ l.block → w'.heap[r]? = w.heap[r]? := fun r hne => by rw [hw, Array.getElem?_setIfInBounds_ne (Ne.symm hne)]
  have hsz : w'.heap.size = w.heap.size := by rw [hw]; simp
  have hget : ∀ c y, ((h.set b .dead).push x').get c = some y → y.live → (c = h.next ∧ y = x') ∨ (c ≠ h.next ∧ c ≠ b ∧ h.get c = some y) := fun c y hc hy => by
    rw [Heap.get_push] at hc
    by_cases e : c = (h.set b .dead).next
    · rw [if_pos e] at hc; cases hc; exact .inl ⟨e, rfl⟩
    · rw [if_neg e, Heap.get_set] at hc
      by_cases e2 : c = b
      · rw [if_pos e2] at hc; cases hc; exact hy.elim
      · rw [if_neg e2] at hc; exact .inr ⟨e, e2, hc⟩
  have hfeet : ∀ c y k, c ≠ b → h.get c = some y → y.live → ρ c = some k → (∀ r ∈ y.foot w k, w'.heap[r]? = w.heap[r]?) ∧ y.foot w' k = y.foot w k := fun c y k e hc hy hk => by
    obtain ⟨k', hk', hbk⟩ := hr.blk c y hc hy
    rw [hk] at hk'; cases hk'
    have h1 : ∀ r ∈ y.foot w k, w'.heap[r]? = w.heap[r]? := fun r hrf =>
      hold r fun e' => hr.apartF b c x y l k (Ne.symm e) hb hc hx hy hl hk l.block (foot_self x w l) (by rw [← e']; exact hrf)
    exact ⟨h1, foot_stays h1 hbk⟩
  refine ⟨hle, fun c hc => Inj.upd_ne ρ l' (by omega), ⟨?_, ?_, ?_, ?_⟩, by simp, rfl, by omega, ?_, ?_, hs.os, hs.tape, hs.output⟩
  · intro c y hc hy
    rcases hget c y hc hy with ⟨rfl, rfl⟩ | ⟨e1, e2, hc'⟩
    · exact ⟨l', Inj.upd_same _ _ _, hx'⟩
    · obtain ⟨k, hk, hbk⟩ := hr.blk c y hc' hy
      exact ⟨k, by rw [Inj.upd_ne ρ l' e1]; exact hk, hbk.mono hle (hfeet c y k e2 hc' hy hk).1⟩
  · intro c d y z k m hne hc hd hy hz hk hm r hrf
    rcases hget c y hc hy.live with ⟨rfl, rfl⟩ | ⟨e1, e2, hc'⟩
    · rw [Inj.upd_same] at hk; cases hk
      rw [foot_plain hpl] at hrf
      rcases hget d z hd hz with ⟨rfl, _⟩ | ⟨e3, e4, hd'⟩
      · exact absurd rfl hne
      · rw [Inj.upd_ne ρ l' e3] at hm
        rw [(hfeet d z m e4 hd' hz hm).2, List.mem_singleton.1 hrf, hll]
        exact hr.apartF b d x z l m (Ne.symm e4) hb hd' hx hz hl hm l.block (foot_self x w l)
    · rw [Inj.upd_ne ρ l' e1] at hk
      rw [(hfeet c y k e2 hc' hy.live hk).2] at hrf
      rcases hget d z hd hz with ⟨rfl, rfl⟩ | ⟨e3, e4, hd'⟩
      · rw [Inj.upd_same] at hm; cases hm
        rw [foot_plain hpl]
        intro hrl
        rw [List.mem_singleton.1 hrl, hll] at hrf
        exact hr.apartF c b y x k l e2 hc' hb hy hx.live hk hl l.block hrf (foot_self x w l)
      · rw [Inj.upd_ne ρ l' e3] at hm
        rw [(hfeet d z m e4 hd' hz hm).2]
        exact hr.apartF c d y z k m hne hc' hd' hy hz hk hm r hrf
  · intro c hc
    simp at hc
    rw [Inj.upd_ne ρ l' (by omega)]; exact hr.fresh c (by omega)
  · intro g hg
    obtain ⟨n, hn⟩ := hr.glob g hg
    exact ⟨n, hle _ _ hn⟩
  · intro r _ hf
    exact hold r (fun e => hf b x l hb hx hl (by rw [e]; exact foot_self x w l))
  · intro c y k hc hy hk r hrf
    rcases hget c y hc hy with ⟨rfl, rfl⟩ | ⟨e1, e2, hc'⟩
    · rw [Inj.upd_same] at hk; cases hk
      rw [foot_plain hpl] at hrf
      exact .inr ⟨b, x, l, hb, hx.live, fun _ => hx, hl, by rw [List.mem_singleton.1 hrf, hll]; exact foot_self x w l⟩
    · rw [Inj.upd_ne ρ l' e1] at hk
      rw [(hfeet c y k e2 hc' hy hk).2] at hrf
      exact .inr ⟨c, y, k, hc', hy, id, hk, hrf⟩

theorem run_storeCells_nil (a : Addr) (w : World) : (storeCells a []).run P w = .ok () w := rfl

theorem all_oneCell {l l' : List Value} (hl : VRels ρ l l') (h1 : l.all oneCell = true) : ∀ v ∈ l', v.oneCell' = true := fun v hv => by
  obtain ⟨i, hi⟩ := List.getElem?_of_mem hv
  have hlt : i < l.length := by rw [hl.1]; exact (List.getElem?_eq_some_iff.1 hi).1
  exact oneCell_rel (hl.2 i _ _ (List.getElem?_eq_getElem hlt) hi) (List.all_eq_true.1 h1 _ (List.getElem_mem hlt))

/-- The model's append, behind the look at what is appended. -/
def appTail (elem : TypeId) (size : Nat) (zeros : Bool) (base : Option Addr) (sLen sCap n : Nat) (x : Value) : Sem Value := do
  let need := sLen + n
  if need ≤ sCap then
    let new ← Appended elem size zeros n x
    if let some a := base then storeCells (a.add (sLen * size)) new.toList
    pure (.slice base need sCap)
  else
    if (need : Int) > IntKind.i64.max ∧ (zeros ∨ (← typeInfo elem).bytes = 0) then runtimePanic (.error "growslice: len out of range")
    if Builtin.nextslicecap need sCap * (← typeInfo elem).bytes > 2 ^ 48 then (if zeros then runtimePanic (.error "growslice: len out of range") else do
      if !(← Builtin.mayShare size sLen n base x) then mark .noRoom
      unsupported (.resourceLimit "append: a slice or a string whose bytes no memory bears"))
    let newCap ← choose (.appendCap need sCap elem)
    askRoom (newCap * (← typeInfo elem).bytes)
    let old ← Builtin.firstCells size sLen (.slice base sLen sCap)
    let new ← Appended elem size zeros n x
    let rest := Builtin.zeroCells (← zeroValue elem).cells (newCap - need)
    pure (.slice (some (← newRow elem (old ++ new ++ rest))) need newCap)

theorem run_append (hE : EnvOk P E) {st e : TypeId} {ats : Array TypeId} {ty : TypeId} {args : Array Value} {base : Option Addr} {x' : Value} {len cap n es by_ : Nat} {d : Option TypeDesc} {w : World}
    (hst : ats[0]? = some st) (hs : args[0]? = some (.slice base len cap)) (hx : args[1]? = some x') (hu : E.und st = some (.slice e)) (hes : size E e = some es) (hby : bytesOfT E e = some by_)
    (hd : descOf E ats[1]? = some d) (hz : isInt d = true → ∃ k i, x' = .int k i ∧ 0 ≤ i ∧ i ≤ most ∧ i.toNat = n ∧ n * by_ ≤ most) (hn : isInt d = false → (Builtin.lenOf x').run P w = .ok n w) :
    (Builtin.append_ ats ty args).run P w = (appTail e es (isInt d) base len cap n x').run P w := by
  obtain ⟨i, hi, rfl⟩ := bytesOfT_spec hE hby
  have hcases : (ats[1]? = none ∧ d = none) ∨ ∃ t dd, ats[1]? = some t ∧ E.und t = some dd ∧ d = some dd := by
    unfold descOf at hd
    split at hd
    · rename_i e; cases hd; exact .inl ⟨e, rfl⟩
    · rename_i t e
      split at hd
      · rename_i dd hdd; cases hd; exact .inr ⟨t, dd, e, hdd, rfl⟩
      · cases hd
  rcases hcases with ⟨h1, rfl⟩ | ⟨t, dd, h1, h2, rfl⟩
  · simp only [Builtin.append_, hst, hs, hx, h1, Sem.run_bind, run_und hE hu, Result.andThen_ok, run_size hE hes, Sem.run_pure]
    rw [if_neg Bool.false_ne_true]
    simp only [Sem.run_bind, hn rfl, Result.andThen_ok]
    rfl
  · by_cases hint : isInt (some dd) = true
    · obtain ⟨k, z, rfl, g1, g2, g3, g4⟩ := hz hint
      have hdd : ∃ kd, dd = .int kd := by
        unfold isInt at hint
        split at hint
        · rename_i kd hh; cases hh; exact ⟨_, rfl⟩
        · cases hint
      obtain ⟨kd, rfl⟩ := hdd
      subst g3
      have hwr : IntKind.i64.wrap z = z := IntWalk.i64_in z (by unfold most at g2; omega)
      have hnl : ¬ (z < 0) := by omega
      have hby2 : ¬ (z * (i.bytes : Int) > 2 ^ 48) := by
        have : z * (i.bytes : Int) = ((z.toNat * i.bytes : Nat) : Int) := by rw [Int.natCast_mul, Int.toNat_of_nonneg g1]
        rw [this]; unfold most at g4; omega
      simp only [-eq_self, Builtin.append_, hst, hs, hx, h1, Sem.run_bind, run_und hE hu, Result.andThen_ok, run_size hE hes, Sem.run_pure, run_und hE h2]
      rw [if_pos rfl]
      simp only [-eq_self, Sem.run_bind, Result.andThen_ok, asInt, asIntOf, Sem.run_pure, hwr]
      rw [if_neg hnl]
      simp only [-eq_self, Sem.run_bind]
      rw [show (typeInfo e).run P w = .ok i w from by simp [typeInfo, hi]]
      simp only [-eq_self, Result.andThen_ok]
      rw [if_neg hby2]
      simp only [-eq_self, Sem.run_bind, Sem.run_pure]
      rfl
    · have hf : isInt (some dd) = false := by simpa using hint
      simp only [Builtin.append_, hst, hs, hx, h1, Sem.run_bind, run_und hE hu, Result.andThen_ok, run_size hE hes, Sem.run_pure, run_und hE h2]
      cases dd <;> first
        | (simp [isInt] at hf; done)
        | (rw [if_neg Bool.false_ne_true]
           simp only [Sem.run_bind, hn hf, Result.andThen_ok]
           rfl)

theorem run_tail_room {elem : TypeId} {es n len cap : Nat} {zs : Bool} {base : Option Addr} {x : Value} {new' : List Value} {w w1 : World} (hle : len + n ≤ cap) (happ : (Appended elem es zs n x).run P w = .ok new'.toArray w)
    (hst : ∀ a, base = some a → (storeCells (a.add (len * es)) new').run P w = .ok () w1) (hno : base = none → w1 = w) : (appTail elem es zs base len cap n x).run P w = .ok (.slice base (len + n) cap) w1 := by
  simp only [appTail, Sem.run_ite]
  rw [if_pos hle]
  simp only [Sem.run_bind, happ, Result.andThen_ok]
  cases base with
  | none => simp [hno rfl]
  | some a => simp [hst a rfl]

theorem run_tail_grow (hE : EnvOk P E) {elem : TypeId} {es by_ n len cap : Nat} {zs : Bool} {base : Option Addr} {x z : Value} {old' new' : List Value} {w : World} (hgt : ¬ len + n ≤ cap) (hby : bytesOfT E elem = some by_) (hz : zero E elem = some z) (hzs : z.cells.size = es)
    (hl1 : len + n ≤ most) (hl2 : (len + n) * by_ ≤ most) (happ : ∀ w' : World, w'.heap = w.heap → (Appended elem es zs n x).run P w' = .ok new'.toArray w') (hold : ∀ w' : World, w'.heap = w.heap → (Builtin.firstCells es len (.slice base len cap)).run P w' = .ok old'.toArray w') :
    ∃ newCap w2 rest, len + n ≤ newCap ∧ rest.length = (newCap - (len + n)) * es ∧ w2.heap = w.heap.push (.cells (old' ++ new' ++ rest).toArray elem) ∧ SameRest w w2 ∧
      (appTail elem es zs base len cap n x).run P w = .ok (.slice (some ⟨w.heap.size, 0, none⟩) (len + n) newCap) w2 := by
  obtain ⟨i, hi, rfl⟩ := bytesOfT_spec hE hby
  have hinfo : ∀ w, (typeInfo elem).run P w = .ok i w := fun w => by simp [typeInfo, hi]
  have hcut : ∀ t, Question.cut (.appendCap (len + n) cap elem) t = len + n + t % (2 ^ 63 - (len + n)) := fun _ => rfl
  have hch : (choose (.appendCap (len + n) cap elem)).run P w = .ok (len + n + w.tape w.drawn (.appendCap (len + n) cap elem) % (2 ^ 63 - (len + n))) { w with drawn := w.drawn + 1 } := by
    simp [choose, Sem.run, Question.forced, Question.cut]
  generalize hnc : len + n + w.tape w.drawn (.appendCap (len + n) cap elem) % (2 ^ 63 - (len + n)) = newCap at hch
  have h1 : ¬ (((len + n : Nat) : Int) > IntKind.i64.max ∧ (zs = true ∨ i.bytes = 0)) := fun h => by
    have := h.1; rw [IntKind.max_i64] at this; unfold most at hl1; omega
  have h2 : ¬ (Builtin.nextslicecap (len + n) cap * i.bytes > 2 ^ 48) := by
    have := nextcap_le (need := len + n) (old := cap) (by omega)
    have h3 : Builtin.nextslicecap (len + n) cap * i.bytes ≤ (2 * (len + n)) * i.bytes := Nat.mul_le_mul_right _ this
    rw [Nat.mul_assoc] at h3
    unfold most at hl2; omega
  refine ⟨newCap, { w with heap := w.heap.push (.cells (old' ++ new' ++ (Builtin.zeroCells z.cells (newCap - (len + n))).toList).toArray elem), drawn := w.drawn + 1 }, (Builtin.zeroCells z.cells (newCap - (len + n))).toList, by omega, ?_, rfl, ⟨rfl, rfl, rfl⟩, ?_⟩
  · rw [zeroCells_eq, repeat_length]; simp [hzs]
  · simp only [appTail, Sem.run_ite]
    rw [if_neg hgt]
    simp only [Sem.run_bind, hinfo, Result.andThen_ok, Sem.run_ite]
    rw [if_neg h1]
    rw [if_neg h2]
    simp only [hch, Result.andThen_ok, run_askRoom, hold { w with drawn := w.drawn + 1 } rfl, happ { w with drawn := w.drawn + 1 } rfl, run_zero hE hz, newRow, Sem.run_pure]
    simp
    exact ⟨by show w.heap.push _ = w.heap.push _; congr 2; apply Array.toList_inj.1; simp, rfl, rfl⟩

theorem new_row {ρ' : Inj} {w w' : World} {cs all : List Value} {elem : TypeId} (hle : ρ.le ρ') (hc : ∀ (i : Nat) (x : Value), cs[i]? = some x → ∃ y, all[i]? = some y ∧ VRel ρ x y) (hw : w'.heap = w.heap.push (.cells all.toArray elem)) (n : Nat) (hn : cs.length ≤ n) (hn' : n ≤ all.length) {ty : Tag} (hty : TagOk ty elem 0) :
    BlkRel ρ' w' ⟨w.heap.size, 0, n⟩ (.cells cs false ty) :=
  new_cells hle (by simpa using hc) hw n hn (by simpa using hn') (.inl rfl) hty

theorem pre_get {l l' r : List Value} (hl : VRels ρ l l') : ∀ (i : Nat) (x : Value), l[i]? = some x → ∃ y, (l' ++ r)[i]? = some y ∧ VRel ρ x y := fun i x hx => by
  obtain ⟨y, hy, hv⟩ := hl.get hx
  exact ⟨y, by rw [List.getElem?_append_left (List.getElem?_eq_some_iff.1 hy).1]; exact hy, hv⟩

theorem append_rel (hE : EnvOk P E) (hr : HRel ρ h w) {st : TypeId} {ats : Array TypeId} {ty : TypeId} {args : Array Value} {s s' x x' v : Value} {h' : Heap} (hst : ats[0]? = some st) (hs' : args[0]? = some s') (hx' : args[1]? = some x')
    (hs : VRel ρ s s') (hx : VRel ρ x x') (hv : append E h st ats[1]? s x = some (v, h')) : ∃ v' ρ' w', VRel ρ' v v' ∧ (Builtin.append_ ats ty args).run P w = .ok v' w' ∧ Grow ρ h w ρ' h' w' := by
  unfold append at hv
  split at hv
  · rename_i e base len cap d hu hd
    split at hv
    · rename_i es by_ z hes hby hz
      split at hv
      · cases hv
      · rename_i hes0
        split at hv
        · cases hv
        · rename_i n new hnew
          have hes1 : es ≠ 0 := fun hh => hes0 (.inl hh)
          have hzs : z.cells.size = es := Classical.byContradiction fun hh => hes0 (.inr hh)
          obtain ⟨new', hnr, hnl, hni, hnn, happ⟩ := news_rel hE hr hes hby hz hzs hx hnew
          split at hv
          · cases hv
          · rename_i hlim
            have hl1 : len + n ≤ most := by omega
            have hl2 : (len + n) * by_ ≤ most := by omega
            have hrun : ∀ {base' : Option Addr} {cap' : Nat}, s' = .slice base' len cap' → (Builtin.append_ ats ty args).run P w = (appTail e es (isInt d) base' len cap' n x').run P w := fun {base' cap'} hh =>
              run_append hE hst (by rw [hs', hh]) hx' hu hes hby hd hni hnn
            split at hv
            · rename_i hcf
              split at hv
              · rename_i hroom
                split at hv
                · split at hv
                  · rename_i hn0
                    cases hv
                    subst hn0
                    cases hs
                    have hnil : new' = [] := List.eq_nil_of_length_eq_zero (by rw [hnl]; simp)
                    refine ⟨_, ρ, w, .nilSlice, ?_, .refl hr⟩
                    rw [hrun rfl]
                    exact run_tail_room (by omega) (happ w rfl) (fun a ha => by cases ha) (fun _ => rfl)
                  · cases hv
                · rename_i b o
                  split at hv
                  · rename_i h1 hw
                    cases hv
                    obtain ⟨k, w', hk, hst', hg⟩ := writeCells_rel (P := P) hr hnr hw
                    generalize hq : Value.slice (some ⟨b, o, none⟩) len cap = q at hs
                    cases hs <;> cases hq
                    · rename_i hk' hcc
                      rw [hk] at hk'; cases hk'
                      refine ⟨_, ρ, w', .slice hk hcf, ?_, hg⟩
                      rw [hrun rfl]
                      refine run_tail_room hroom (happ w rfl) (fun a ha => ?_) (fun hh => by cases hh)
                      cases ha
                      rw [add_none, Nat.add_assoc]; exact hst'
                    · omega
                    · omega
                    · rename_i a'
                      obtain rfl : n = 0 := by omega
                      have hnil : new' = [] := List.eq_nil_of_length_eq_zero (by rw [hnl]; simp)
                      subst hnil
                      rw [run_storeCells_nil] at hst'
                      cases hst'
                      refine ⟨_, ρ, w, .emptyEnd (a' := a'), ?_, hg⟩
                      rw [hrun rfl]
                      exact run_tail_room hroom (happ w rfl) (fun a ha => rfl) (fun hh => by cases hh)
                  · cases hv
                · cases hv
              · rename_i hroom
                split at hv
                · rename_i old hold
                  cases hv
                  have hold' : ∃ base' cap' old', s' = .slice base' len cap' ∧ ¬ len + n ≤ cap' ∧ VRels ρ old old' ∧ old'.length = len * es ∧ ∀ w' : World, w'.heap = w.heap → (Builtin.firstCells es len (.slice base' len cap')).run P w' = .ok old'.toArray w' := by
                    split at hold
                    · split at hold
                      · cases hold; cases hs
                        exact ⟨none, 0, [], rfl, hroom, VRels.nil, by simp, fun w' _ => rfl⟩
                      · cases hold
                    · rename_i b o
                      obtain ⟨k, l', hk, hlen, hvl, hc⟩ := readCells_rel hr hold
                      generalize hq : Value.slice (some ⟨b, o, none⟩) len cap = q at hs
                      cases hs <;> cases hq
                      · rename_i hk' hcc
                        rw [hk] at hk'; cases hk'
                        exact ⟨_, _, l', rfl, hroom, hvl, hlen, fun w' hw' => run_loadCells_rel (P := P) hlen (fun j v hv => by
                          have := hc j v hv
                          simp only [World.cell?] at this ⊢
                          rw [hw']; exact this)⟩
                      · omega
                      · omega
                      · refine ⟨_, _, [], rfl, hroom, ?_, by simp, fun w' _ => by simp [Builtin.firstCells, loadCells, loadCellsFrom]⟩
                        have : l' = [] := List.eq_nil_of_length_eq_zero (by simpa using hlen)
                        subst this; exact hvl
                    · cases hold
                  obtain ⟨base', cap', old', rfl, hgt, hor, hol, hof⟩ := hold'
                  obtain ⟨newCap, w2, rest, c1, c2, c3, c4, c5⟩ := run_tail_grow hE hgt hby hz hzs hl1 hl2 happ hof
                  have hlen : (old' ++ new' ++ rest).length = newCap * es := by
                    simp only [List.length_append, hol, hnl, c2]
                    rw [← Nat.add_mul, ← Nat.add_mul]; congr 1; omega
                  refine ⟨_, ρ.upd h.next ⟨w.heap.size, 0, newCap * es⟩, w2, ?_, by rw [hrun rfl]; exact c5, grow_new hr rfl c3 c4 ?_⟩
                  · have := VRel.fuzzy (ρ := ρ.upd h.next ⟨w.heap.size, 0, newCap * es⟩) (o := 0) (n := len + n) (es := es) (c := newCap) (Inj.upd_same _ _ _) c1 (by simp)
                    simpa using this
                  · refine new_row (Inj.le_upd (hr.fresh _ (Nat.le_refl _))) (pre_get (hor.append hnr)) c3 _ ?_ (by rw [hlen]; exact Nat.le_refl _) rfl
                    have h1 := (hor.append hnr).1
                    rw [h1]; simp only [List.length_append, hol, hnl]; rw [← Nat.add_mul]; exact Nat.mul_le_mul_right _ c1
                · cases hv
            · rename_i hcf
              split at hv
              · rename_i hce
                subst hce
                split at hv
                · rename_i hn0
                  cases hv
                  subst hn0
                  have hnil : new' = [] := List.eq_nil_of_length_eq_zero (by rw [hnl]; simp)
                  subst hnil
                  have : ∃ a' cap', s' = .slice (some a') len cap' ∧ len ≤ cap' := by
                    generalize hq : Value.slice base len (fuzz + es) = q at hs
                    cases hs <;> simp only [Value.slice.injEq, reduceCtorEq] at hq
                    · simp [fuzz] at hq
                    · omega
                    · rename_i hn _; obtain ⟨_, rfl, _⟩ := hq; exact ⟨_, _, rfl, hn⟩
                    · obtain ⟨_, rfl, _⟩ := hq; exact ⟨_, _, rfl, Nat.le_refl _⟩
                    · simp [fuzz] at hq
                  obtain ⟨a', cap', rfl, hle⟩ := this
                  refine ⟨_, ρ, w, hs, ?_, .refl hr⟩
                  rw [hrun rfl]
                  exact run_tail_room hle (happ w rfl) (fun a ha => rfl) (fun hh => by cases hh)
                · rename_i hn0
                  split at hv
                  · rename_i b o
                    split at hv
                    · rename_i cs tg hg
                      split at hv
                      · rename_i old hold
                        split at hv
                        · rename_i hone
                          cases hv
                          have hrd : readCells h b o (len * es) = some old := by simp only [readCells, hg]; exact hold
                          obtain ⟨k, old', hk, hol, hor, hoc⟩ := readCells_rel hr hrd
                          have hgrow : ∀ {a' : Addr} {cap' : Nat}, s' = .slice (some a') len cap' → ¬ len + n ≤ cap' → (∀ w' : World, w'.heap = w.heap → (Builtin.firstCells es len (.slice (some a') len cap')).run P w' = .ok old'.toArray w') →
                              ∃ v' ρ' w', VRel ρ' (.slice (some ⟨h.next, 0, none⟩) (len + n) (fuzz + es)) v' ∧ (Builtin.append_ ats ty args).run P w = .ok v' w' ∧ Grow ρ h w ρ' ((h.set b .dead).push (.cells (old ++ new) false (keep tg e))) w' := by
                            intro a' cap' hh hgt hof
                            obtain ⟨newCap, w2, rest, c1, c2, c3, c4, c5⟩ := run_tail_grow hE hgt hby hz hzs hl1 hl2 happ hof
                            have hlen : (old' ++ new' ++ rest).length = newCap * es := by
                              simp only [List.length_append, hol, hnl, c2]
                              rw [← Nat.add_mul, ← Nat.add_mul]; congr 1; omega
                            have hd := grow_dead hr hg rfl hk
                            refine ⟨_, ρ.upd h.next ⟨w.heap.size, 0, newCap * es⟩, w2, ?_, by rw [hrun hh]; exact c5, hd.trans (grow_new hd.rel rfl c3 c4 ?_)⟩
                            · have := VRel.fuzzy (ρ := ρ.upd h.next ⟨w.heap.size, 0, newCap * es⟩) (o := 0) (n := len + n) (es := es) (c := newCap) (Inj.upd_same _ _ _) c1 (by simp)
                              simpa using this
                            · refine new_row (Inj.le_upd (hr.fresh _ (Nat.le_refl _))) (pre_get (hor.append hnr)) c3 _ ?_ (by rw [hlen]; exact Nat.le_refl _) TagOk.row_keep
                              have h1 := (hor.append hnr).1
                              rw [h1]; simp only [List.length_append, hol, hnl]; rw [← Nat.add_mul]; exact Nat.mul_le_mul_right _ c1
                          generalize hq : Value.slice (some ⟨b, o, none⟩) len (fuzz + es) = q at hs
                          cases hs with
                          | slice hk' hc' => simp only [Value.slice.injEq] at hq; omega
                          | nilSlice => simp at hq
                          | emptyEnd => simp [fuzz] at hq
                          | fuzzyEnd =>
                            simp only [Value.slice.injEq] at hq
                            obtain ⟨_, rfl, _⟩ := hq
                            have : old' = [] := List.eq_nil_of_length_eq_zero (by rw [hol]; simp)
                            subst this
                            exact hgrow rfl (by omega) (fun w' _ => by simp [Builtin.firstCells, loadCells, loadCellsFrom])
                          | fuzzy hk' hn2 hcap =>
                            rename_i b2 o2 l2 n2 es2 cap'
                            simp only [Value.slice.injEq] at hq
                            obtain ⟨hb, rfl, hes2⟩ := hq
                            simp at hb
                            obtain ⟨rfl, rfl⟩ := hb
                            obtain rfl : es = es2 := by omega
                            rw [hk] at hk'; cases hk'
                            by_cases hroom : len + n ≤ cap'
                            · -- there is room
                              obtain ⟨k2, hk2, c, elem, fz, g1, gt, g2, g3, g4, g5⟩ := hr.blk b _ hg trivial
                              rw [hk] at hk2; cases hk2
                              have hmul : (len + n) * es ≤ cap' * es := Nat.mul_le_mul_right _ hroom
                              rw [Nat.add_mul] at hmul
                              have hstore := run_storeCells_row (P := P) k.block elem fz new' c (k.shift + o + len * es) 0 w g1 (by rw [hnl]; omega) (all_oneCell hnr hone) (fun j hj hj' => by
                                have := not_frozen (g5 rfl) (j - k.shift) (by rw [hnl] at hj'; omega)
                                rw [show k.shift + (j - k.shift) = j from by omega] at this
                                exact this)
                              refine ⟨.slice (some ⟨k.block, k.shift + o, none⟩) (len + n) cap', ρ.upd h.next ⟨k.block, k.shift + o, k.ecap - o⟩, { w with heap := w.heap.setIfInBounds k.block (.cells (arrSplice c (k.shift + o + len * es + 0) new') elem fz) }, ?_, ?_, grow_move hr hg rfl hk rfl rfl ⟨rfl, rfl, rfl⟩ ?_⟩
                              · have := VRel.fuzzy (ρ := ρ.upd h.next ⟨k.block, k.shift + o, k.ecap - o⟩) (o := 0) (n := len + n) (es := es) (c := cap') (Inj.upd_same _ _ _) hroom (by simp; omega)
                                simpa using this
                              · rw [hrun rfl]
                                refine run_tail_room hroom (happ w rfl) (fun a ha => ?_) (fun hh => by cases hh)
                                cases ha
                                rw [add_none]; exact hstore
                              · have hlt : k.block < w.heap.size := (Array.getElem?_eq_some_iff.1 g1).1
                                have h1 := (hor.append hnr).1
                                simp only [List.length_append, hol, hnl] at h1
                                refine ⟨_, elem, fz, by simp only [Array.getElem?_setIfInBounds_self_of_lt hlt]; rfl, gt.keep, by simp only [List.length_append]; omega, by rw [arrSplice_size]; simp only; omega, fun i y hy => ?_, fun _ => by simp only; have := g5 rfl; omega⟩
                                simp only
                                rw [arrSplice_get _ _ _ _ (by rw [hnl]; omega)]
                                by_cases hi : i < old.length
                                · rw [List.getElem?_append_left hi] at hy
                                  have hol2 := hor.1
                                  rw [if_neg (by omega)]
                                  obtain ⟨y', hy', hv⟩ := hor.get hy
                                  have hcell := hoc i y' hy'
                                  rw [cell_of_heap g1] at hcell
                                  exact ⟨y', hcell, hv.mono (Inj.le_upd (hr.fresh _ (Nat.le_refl _)))⟩
                                · rw [List.getElem?_append_right (by omega)] at hy
                                  have hol2 := hor.1
                                  have hlt2 := (List.getElem?_eq_some_iff.1 hy).1
                                  have hnl2 := hnr.1
                                  rw [if_pos (by omega)]
                                  obtain ⟨y', hy', hv⟩ := hnr.get hy
                                  refine ⟨y', ?_, hv.mono (Inj.le_upd (hr.fresh _ (Nat.le_refl _)))⟩
                                  rw [show k.shift + o + i - (k.shift + o + len * es + 0) = i - old.length from by omega]
                                  exact hy'
                            · exact hgrow rfl hroom (fun w' hw' => run_loadCells_rel (P := P) hol (fun j v hv => by
                                have := hoc j v hv
                                simp only [World.cell?] at this ⊢
                                rw [hw']; exact this))
                          | _ => cases hq
                        · cases hv
                      · cases hv
                    · cases hv
                  · cases hv
              · cases hv
    · cases hv
  · cases hv
end
end Go.Ab
