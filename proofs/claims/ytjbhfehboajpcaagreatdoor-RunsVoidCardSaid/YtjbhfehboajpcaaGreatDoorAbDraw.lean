/-
  The abstract evaluator: regions that draw their order, the ground. What an operation looks at; heaps that lie in one another; equal values.
-/
import Derived.Test.YtjbhfehboajpcaaGreatDoorAbSeq
namespace Go.Ab
open Go

section
variable {P : Program} {E : Env}

/-! ### What an operation looks at -/
theorem mapOpt_congr {fr fr' : Fr} (x : Option Operand) (h : ∀ y ∈ x, val fr y = val fr' y) : x.map (val fr) = x.map (val fr') := by
  cases x with
  | none => rfl
  | some y => simp [h y (by simp)]

theorem evRead_congr {fr fr' : Fr} {o : Op} (hc : ∀ x ∈ o.operands.toList, val fr x = val fr' x) (h : Heap) : evRead E fr h o = evRead E fr' h o := by
  cases o with
  | call c =>
    obtain ⟨callee, args, ats⟩ := c
    have ha : ∀ x ∈ args.toList, val fr x = val fr' x := fun x hx => hc x (by simp [Op.operands, Call.operands]; right; simpa using hx)
    have ha0 : ∀ x, args[0]? = some x → val fr x = val fr' x := fun x hx => ha x (by simpa using Array.mem_of_getElem? hx)
    have hm : args.toList.map (val fr) = args.toList.map (val fr') := List.map_congr_left ha
    cases callee with
    | builtin b =>
      cases b <;> simp only [evRead] <;> first | rfl | (rw [hm]) | skip
      all_goals
        cases ats[0]? with
        | none => rfl
        | some t =>
          cases h0 : args[0]? with
          | none => rfl
          | some x => simp only [ha0 x h0]
    | _ => rfl
  | build t ps =>
    simp only [evRead]
    have : (ps.toList.map fun p => (p.1, val fr p.2)) = ps.toList.map fun p => (p.1, val fr' p.2) := List.map_congr_left fun p hp => by
      rw [hc p.2 (by simp [Op.operands]; exact ⟨p.1, by simpa using hp⟩)]
    rw [this]
  | makeFunc f first cap =>
    simp only [evRead]
    have h1 : first.map (val fr) = first.map (val fr') := Array.map_congr_left fun x hx => hc x (by simp [Op.operands]; left; simpa using hx)
    have h2 : cap.map (val fr) = cap.map (val fr') := Array.map_congr_left fun x hx => hc x (by simp [Op.operands]; right; simpa using hx)
    rw [h1, h2]
  | slice t x lo hi mx =>
    simp only [evRead]
    have h1 := hc x (by simp [Op.operands])
    have h2 := mapOpt_congr lo (fr := fr) (fr' := fr') fun y hy => hc y (by simp [Op.operands]; simp at hy; simp [hy])
    have h3 := mapOpt_congr hi (fr := fr) (fr' := fr') fun y hy => hc y (by simp [Op.operands]; simp at hy; simp [hy])
    have h4 := mapOpt_congr mx (fr := fr) (fr' := fr') fun y hy => hc y (by simp [Op.operands]; simp at hy; simp [hy])
    rw [h1, h2, h3, h4]
  | _ =>
    simp only [evRead]
    try simp only [Op.operands] at hc
    try simp at hc
    try simp only [hc]

theorem evLight_congr {fr fr' : Fr} {o : Op} (hc : ∀ x ∈ o.operands.toList, val fr x = val fr' x) (id : Nat) : evLight E fr id o = evLight E fr' id o := by
  cases o with
  | buildSlice t n ps =>
    simp only [evLight]
    have : (ps.toList.map fun p => (p.1, val fr p.2)) = ps.toList.map fun p => (p.1, val fr' p.2) := List.map_congr_left fun p hp => by
      rw [hc p.2 (by simp [Op.operands]; exact ⟨p.1, by simpa using hp⟩)]
    rw [this]
  | makeMap t r => cases r <;> rfl
  | _ =>
    simp only [evLight]
    try simp only [Op.operands] at hc
    try simp at hc
    try simp only [hc]

theorem evHeavy_congr {cf : FuncId → List Value → Heap → Ans} {yl : Nat → List Value → Heap → Ans} {fr fr' : Fr} {o : Op} (hc : ∀ x ∈ o.operands.toList, val fr x = val fr' x) (h : Heap) : evHeavy E cf yl fr h o = evHeavy E cf yl fr' h o := by
  cases o with
  | call c =>
    obtain ⟨callee, args, ats⟩ := c
    have ha : ∀ x ∈ args.toList, val fr x = val fr' x := fun x hx => hc x (by simp [Op.operands, Call.operands]; right; simpa using hx)
    have ha0 : ∀ (i : Nat) x, args[i]? = some x → val fr x = val fr' x := fun i x hx => ha x (by simpa using Array.mem_of_getElem? hx)
    have hm : args.toList.map (val fr) = args.toList.map (val fr') := List.map_congr_left ha
    cases callee with
    | value f =>
      have hf := hc f (by simp [Op.operands, Call.operands])
      simp only [evHeavy, hf, hm]
    | invoke r name =>
      have hf := hc r (by simp [Op.operands, Call.operands])
      simp only [evHeavy, hf, hm]
    | builtin b =>
      cases b <;> simp only [evHeavy] <;> first | rfl | skip
      case unsafeSliceData =>
        split
        · rename_i s hl; rw [ha s (by rw [hl]; simp)]
        · rfl
      case unsafeString =>
        split
        · rename_i t p n _ hl; rw [ha p (by rw [hl]; simp), ha n (by rw [hl]; simp)]
        · rfl
      all_goals
        cases ats[0]? with
        | none => rfl
        | some t =>
          cases h0 : args[0]? with
          | none => rfl
          | some x =>
            first
              | (cases h1 : args[1]? with
                 | none => rfl
                 | some y => simp only [ha0 0 x h0, ha0 1 y h1])
              | simp only [ha0 0 x h0]
  | next it s =>
    cases s with
    | true =>
      have := hc it (by simp [Op.operands])
      simp only [evHeavy, this]
    | false => rfl
  | _ =>
    simp only [evHeavy]
    try simp only [Op.operands] at hc
    try simp at hc
    try simp only [hc]

theorem wants_congr {ops : List Oper} {fr fr' : Fr} {o : Oper} (hc : ∀ j want oj d, o.guard = some (j, want) → ops[j]? = some oj → oj.dst = some d → lget fr d = lget fr' d) : wants ops fr o = wants ops fr' o := by
  unfold wants
  split
  · rfl
  · rename_i j want hg
    split
    · rename_i oj hj
      split
      · rename_i d hd; rw [hc j want oj d hg hj hd]
      · rfl
    · rfl

/-- What is pure looks at no heap. -/
theorem evRead_pure {fr : Fr} {o : Op} (hk : kind E o = .pure) (h h' : Heap) : evRead E fr h o = evRead E fr h' o := by
  cases o with
  | convert s d x =>
    simp only [kind] at hk
    have hun : (isUnsafe E s || isUnsafe E d) = false := by
      cases hun : (isUnsafe E s || isUnsafe E d) with
      | false => rfl
      | true => rw [hun] at hk; cases hk
    rw [hun] at hk
    simp only [Bool.false_eq_true, if_false] at hk
    have hs : isSlice E s = false := by
      by_cases hs : isSlice E s = true
      · rw [if_pos hs] at hk; split at hk <;> cases hk
      · simpa using hs
    simp only [evRead, hun, Bool.false_eq_true, if_false, convert]
    unfold isSlice at hs
    cases hu : E.und s with
    | none => rfl
    | some u =>
      cases u <;> first | (simp [hu] at hs; done) | (cases E.und d with
        | none => rfl
        | some u2 => cases u2 <;> cases val fr x <;> rfl)
  | call c =>
    obtain ⟨callee, args, ats⟩ := c
    cases callee with
    | builtin b => cases b <;> first | (simp [kind] at hk; done) | rfl
    | _ => rfl
  | load t a => simp [kind] at hk
  | lookup t m k ok => simp [kind] at hk
  | _ => rfl

/-! ### Equal values -/
theorem veqL_eq {eq : Value → Value → Bool} (h : ∀ a b, eq a b = true → a = b) : ∀ l l', veqL eq l l' = true → l = l' := by
  intro l
  induction l with
  | nil => intro l' h'; cases l' with
    | nil => rfl
    | cons _ _ => cases h'
  | cons a l ih => intro l' h'; cases l' with
    | nil => cases h'
    | cons b l' =>
      simp only [veqL, Bool.and_eq_true] at h'
      rw [h a b h'.1, ih l' h'.2]

theorem addrEq_eq {a b : Addr} (h : addrEq a b = true) : a = b := by
  obtain ⟨b1, o1, s1⟩ := a
  obtain ⟨b2, o2, s2⟩ := b
  simp only [addrEq, Bool.and_eq_true, beq_iff_eq] at h
  obtain ⟨⟨h1, h2⟩, h3⟩ := h
  rw [h1, h2, h3]

theorem optEq_eq {a b : Option Addr} (h : optEq a b = true) : a = b := by
  cases a <;> cases b <;> simp only [optEq] at h <;> first | rfl | (cases h; done) | rw [addrEq_eq h]

theorem fnEq_eq {a b : Fn} (h : fnEq a b = true) : a = b := by
  cases a <;> cases b <;> simp only [fnEq] at h <;> first | (cases h; done) | (simp at h; rw [h])

theorem veq_eq : ∀ (d : Nat) (a b : Value), veq d a b = true → a = b := by
  intro d
  induction d with
  | zero => intro a b h; cases h
  | succ d ih =>
    intro a b h
    unfold veq at h
    split at h
    · simp at h; rw [h]
    · simp only [Bool.and_eq_true, beq_iff_eq] at h; rw [h.1, h.2]
    · rename_i a b
      have := eq_of_beq h
      obtain ⟨a⟩ := a
      obtain ⟨b⟩ := b
      simp only at this
      rw [Array.toList_inj.1 this]
    · rw [optEq_eq h]
    · simp only [Bool.and_eq_true, beq_iff_eq] at h; rw [optEq_eq h.1.1, h.1.2, h.2]
    · rw [eq_of_beq h]
    · simp only [Bool.and_eq_true] at h; rw [fnEq_eq h.1.1, Array.toList_inj.1 (veqL_eq ih _ _ h.1.2), Array.toList_inj.1 (veqL_eq ih _ _ h.2)]
    · rfl
    · simp only [Bool.and_eq_true, beq_iff_eq] at h; rw [h.1, ih _ _ h.2]
    · rfl
    · rw [Array.toList_inj.1 (veqL_eq ih _ _ h)]
    · rw [Array.toList_inj.1 (veqL_eq ih _ _ h)]
    · cases h

/-! ### Heaps that lie in one another -/
structure Sub (h' h : Heap) : Prop where
  next : h'.next = h.next
  base : h'.base = h.base
  get : ∀ b x, h'.get b = some x → x.live → h.get b = some x

theorem Sub.refl (h : Heap) : Sub h h := ⟨rfl, rfl, fun _ _ e _ => e⟩
theorem Sub.trans {a b c : Heap} (h : Sub a b) (h' : Sub b c) : Sub a c := ⟨h.next.trans h'.next, h.base.trans h'.base, fun x y e l => h'.get x y (h.get x y e l) l⟩

theorem HRel.sub {ρ : Inj} {h h' : Heap} {w : World} (hr : HRel ρ h w) (hs : Sub h' h) : HRel ρ h' w where
  blk := fun b x hb hx => hr.blk b x (hs.get b x hb hx) hx
  apartF := fun b b' x x' l l' hne hb hb' hx hx' hl hl' => hr.apartF b b' x x' l l' hne (hs.get b x hb hx.live) (hs.get b' x' hb' hx') hx hx' hl hl'
  fresh := fun b hb => hr.fresh b (by rw [← hs.next]; exact hb)
  glob := fun g hg => hr.glob g (by rw [← hs.base]; exact hg)

theorem Grow.sub {ρ ρ' : Inj} {h h' h2 : Heap} {w w' : World} (g : Grow ρ h w ρ' h' w') (hs : Sub h2 h') : Grow ρ h w ρ' h2 w' where
  inj := g.inj
  old := g.old
  rel := g.rel.sub hs
  next := by rw [hs.next]; exact g.next
  base := by rw [hs.base]; exact g.base
  size := g.size
  frame := g.frame
  img := fun b x l hb hx hl => g.img b x l (hs.get b x hb hx) hx hl
  os := g.os
  tape := g.tape
  output := g.output

/-- What lies beside the heap that has turned, and may be written by none but its own, stays. -/
theorem grow_frame {ρ ρ' : Inj} {h hs hs' h' : Heap} {w w' : World} (hr : HRel ρ h w) (hsub : Sub hs h) (g : Grow ρ hs w ρ' hs' w') (hn : h'.next = hs'.next) (hb : h'.base = hs'.base)
    (hget : ∀ b x, h'.get b = some x → x.live → hs'.get b = some x ∨ (h.get b = some x ∧ x.rw ∧ ∀ y, hs.get b = some y → ¬ y.live)) : Grow ρ h w ρ' h' w' := by
  have hkeep : ∀ b x l, h.get b = some x → x.rw → (∀ y, hs.get b = some y → ¬ y.live) → ρ b = some l → BlkRel ρ w l x → ∀ r ∈ x.foot w l, w'.heap[r]? = w.heap[r]? := by
    intro b x l hbx hx hno hl hbr r hrf
    refine g.frame _ (BlkRel.ltF hx.live hbr r hrf) ?_
    intro c y m hc hy hm e
    by_cases hbc : c = b
    · subst hbc; exact hno y hc hy.live
    · exact hr.apartF c b y x m l hbc (hsub.get c y hc hy.live) hbx hy hx.live hm hl r e hrf
  -- where a block of the heap that has turned lies, and a block beside it
  have hside : ∀ b x l c y m, h.get b = some x → x.rw → (∀ y, hs.get b = some y → ¬ y.live) → ρ' b = some l → hs'.get c = some y → y.live → ρ' c = some m → ∀ r ∈ x.foot w' l, r ∉ y.foot w' m := by
    intro b x l c y m hbx hx hno hl hc hy hm r hrx e
    obtain ⟨l1, hl1, hbr⟩ := hr.blk b x hbx hx.live
    have := g.inj b l1 hl1
    rw [hl] at this; cases this
    rw [foot_stays (hkeep b x l hbx hx hno hl1 hbr) hbr] at hrx
    rcases g.img c y m hc hy hm r e with h1 | ⟨b0, x0, l0, g0, lv0, _, i0, e0⟩
    · have := BlkRel.ltF hx.live hbr r hrx
      omega
    · by_cases hbb : b = b0
      · subst hbb; exact hno x0 g0 lv0
      · exact hr.apartF b b0 x x0 l l0 hbb hbx (hsub.get b0 x0 g0 lv0) hx lv0 hl1 i0 r hrx e0
  refine ⟨g.inj, fun b hbn => g.old b (by rw [hsub.next]; exact hbn), ⟨?_, ?_, ?_, ?_⟩, by rw [hn, ← hsub.next]; exact g.next, by rw [hb, g.base, hsub.base], g.size, ?_, ?_, g.os, g.tape, g.output⟩
  · intro b x hbx hx
    rcases hget b x hbx hx with h1 | ⟨h1, hrw, hno⟩
    · exact g.rel.blk b x h1 hx
    · obtain ⟨l, hl, hbr⟩ := hr.blk b x h1 hx
      exact ⟨l, g.inj _ _ hl, hbr.mono g.inj (hkeep b x l h1 hrw hno hl hbr)⟩
  · intro b c x y l m hne hbx hcy hx hy hl hm r hrx
    rcases hget b x hbx hx.live with h1 | ⟨h1, hrw, hno⟩
    · rcases hget c y hcy hy with h2 | ⟨h2, hrw2, hno2⟩
      · exact g.rel.apartF b c x y l m hne h1 h2 hx hy hl hm r hrx
      · exact fun e => hside c y m b x l h2 hrw2 hno2 hm h1 hx.live hl r e hrx
    · rcases hget c y hcy hy with h2 | ⟨h2, hrw2, hno2⟩
      · exact hside b x l c y m h1 hrw hno hl h2 hy hm r hrx
      · obtain ⟨l1, hl1, hbr1⟩ := hr.blk b x h1 hx.live
        obtain ⟨m1, hm1, hbr2⟩ := hr.blk c y h2 hy
        have e1 := g.inj _ _ hl1
        have e2 := g.inj _ _ hm1
        rw [hl] at e1; rw [hm] at e2
        cases e1; cases e2
        rw [foot_stays (hkeep b x l h1 hrw hno hl1 hbr1) hbr1] at hrx
        rw [foot_stays (hkeep c y m h2 hrw2 hno2 hm1 hbr2) hbr2]
        exact hr.apartF b c x y l m hne h1 h2 hx hy hl1 hm1 r hrx
  · intro b hbn; exact g.rel.fresh b (by rw [← hn]; exact hbn)
  · intro b hbn; exact g.rel.glob b (by rw [← hb]; exact hbn)
  · intro r hr' hf
    exact g.frame r hr' fun b x l hbx hx hl => hf b x l (hsub.get b x hbx hx.live) hx hl
  · intro b x l hbx hx hl r hrx
    rcases hget b x hbx hx with h1 | ⟨h1, hrw, hno⟩
    · rcases g.img b x l h1 hx hl r hrx with h2 | ⟨b0, x0, l0, g0, lv0, r0, i0, e0⟩
      · exact .inl h2
      · exact .inr ⟨b0, x0, l0, hsub.get b0 x0 g0 lv0, lv0, r0, i0, e0⟩
    · obtain ⟨l1, hl1, hbr⟩ := hr.blk b x h1 hx
      have := g.inj _ _ hl1
      rw [hl] at this; cases this
      rw [foot_stays (hkeep b x l h1 hrw hno hl1 hbr) hbr] at hrx
      exact .inr ⟨b, x, l, h1, hx, id, hl1, hrx⟩

/-- A new block at a number that was kept for it. -/
theorem grow_side {ρ0 ρ : Inj} {h0 h : Heap} {w0 w w' : World} {id : Nat} {x : Blk} {l : Loc} {o : Obj} (g : Grow ρ0 h0 w0 ρ h w) (h1 : h0.next ≤ id) (h2 : id < h.next) (hn : ρ id = none) (hl : l.block = w.heap.size) (hw : w'.heap = w.heap.push o) (hs : SameRest w w')
    (hx : BlkRel (ρ.upd id l) w' l x) (hpl : x.plain) : Grow ρ0 h0 w0 (ρ.upd id l) (h.set id x) w' := by
  have hr := g.rel
  have hle : ρ.le (ρ.upd id l) := Inj.le_upd hn
  have hold : ∀ r, r < w.heap.size → w'.heap[r]? = w.heap[r]? := fun r hlt => by rw [hw, Array.getElem?_push_lt hlt, Array.getElem?_eq_getElem hlt]
  have hget : ∀ c y, (h.set id x).get c = some y → c ≠ id → h.get c = some y := fun c y hc e => by rw [Heap.get_set, if_neg e] at hc; exact hc
  have hsz : w'.heap.size = w.heap.size + 1 := by rw [hw]; simp
  have hfeet : ∀ c y k, h.get c = some y → y.live → ρ c = some k → (∀ r ∈ y.foot w k, r < w.heap.size) ∧ y.foot w' k = y.foot w k := fun c y k hc hy hk => by
    obtain ⟨k', hk', hbk⟩ := hr.blk c y hc hy
    rw [hk] at hk'; cases hk'
    have h1 := BlkRel.ltF hy hbk
    exact ⟨h1, foot_stays (fun r hrf => hold r (h1 r hrf)) hbk⟩
  refine ⟨Inj.le_trans g.inj hle, fun b hb => by rw [Inj.upd_ne ρ l (by omega)]; exact g.old b hb, ⟨?_, ?_, ?_, ?_⟩, g.next, g.base, by have := g.size; omega, ?_, ?_, hs.os.trans g.os, hs.tape.trans g.tape, hs.output.trans g.output⟩
  · intro c y hc hy
    by_cases e : c = id
    · subst e
      rw [Heap.get_set, if_pos rfl] at hc; cases hc
      exact ⟨l, Inj.upd_same _ _ _, hx⟩
    · obtain ⟨k, hk, hbk⟩ := hr.blk c y (hget c y hc e) hy
      exact ⟨k, by rw [Inj.upd_ne ρ l e]; exact hk, hbk.mono hle fun r hrf => hold r ((hfeet c y k (hget c y hc e) hy hk).1 r hrf)⟩
  · intro c d y z k m hne hc hd hy hz hk hm r hrf
    by_cases e : c = id
    · subst e
      rw [Heap.get_set, if_pos rfl] at hc; cases hc
      rw [Inj.upd_same] at hk; cases hk
      rw [Inj.upd_ne ρ l (Ne.symm hne)] at hm
      obtain ⟨q1, q2⟩ := hfeet d z m (hget d z hd (Ne.symm hne)) hz hm
      rw [foot_plain hpl] at hrf
      rw [q2, List.mem_singleton.1 hrf]
      intro hc'
      have := q1 _ hc'
      omega
    · rw [Inj.upd_ne ρ l e] at hk
      obtain ⟨q1, q2⟩ := hfeet c y k (hget c y hc e) hy.live hk
      rw [q2] at hrf
      by_cases e2 : d = id
      · subst e2
        rw [Heap.get_set, if_pos rfl] at hd; cases hd
        rw [Inj.upd_same] at hm; cases hm
        rw [foot_plain hpl]
        intro hrl
        rw [List.mem_singleton.1 hrl] at hrf
        have := q1 _ hrf
        omega
      · rw [Inj.upd_ne ρ l e2] at hm
        rw [(hfeet d z m (hget d z hd e2) hz hm).2]
        exact hr.apartF c d y z k m hne (hget c y hc e) (hget d z hd e2) hy hz hk hm r hrf
  · intro b hb
    rw [Inj.upd_ne ρ l (by simp at hb; omega)]; exact hr.fresh b hb
  · intro b hb
    obtain ⟨n, hn'⟩ := hr.glob b hb
    exact ⟨n, hle _ _ hn'⟩
  · intro r hr' hf
    rw [hold r (Nat.lt_of_lt_of_le hr' g.size)]; exact g.frame r hr' hf
  · intro c y k hc hy hk r hrf
    by_cases e : c = id
    · subst e
      rw [Heap.get_set, if_pos rfl] at hc; cases hc
      rw [Inj.upd_same] at hk; cases hk
      rw [foot_plain hpl] at hrf
      exact .inl (by rw [List.mem_singleton.1 hrf, hl]; exact g.size)
    · rw [Inj.upd_ne ρ l e] at hk
      rw [(hfeet c y k (hget c y hc e) hy hk).2] at hrf
      exact g.img c y k (hget c y hc e) hy hk r hrf

/-! ### Blocks that are set upon a heap -/
theorem get_addPend (bf : Nat) : ∀ (ps : List Pend) (h : Heap) (b : Nat) (x : Blk), (addPend bf ps h).get b = some x → (∃ p ∈ ps, bf.testBit p.at_ = true ∧ p.id = b ∧ p.blk = x) ∨ h.get b = some x := by
  intro ps
  induction ps with
  | nil => intro h b x e; exact .inr e
  | cons p ps ih =>
    intro h b x e
    simp only [addPend] at e
    split at e
    · rename_i hb
      rw [Heap.get_set] at e
      split at e
      · rename_i hbp; cases e; exact .inl ⟨p, by simp, hb, hbp.symm, rfl⟩
      · rcases ih h b x e with ⟨q, hq, h1⟩ | h1
        · exact .inl ⟨q, by simp [hq], h1⟩
        · exact .inr h1
    · rcases ih h b x e with ⟨q, hq, h1⟩ | h1
      · exact .inl ⟨q, by simp [hq], h1⟩
      · exact .inr h1

theorem get_allPend : ∀ (ps : List Pend) (h : Heap) (b : Nat) (x : Blk), (allPend ps h).get b = some x → (∃ p ∈ ps, p.id = b ∧ p.blk = x) ∨ h.get b = some x := by
  intro ps
  induction ps with
  | nil => intro h b x e; exact .inr e
  | cons p ps ih =>
    intro h b x e
    simp only [allPend] at e
    rw [Heap.get_set] at e
    split at e
    · rename_i hbp; cases e; exact .inl ⟨p, by simp, hbp.symm, rfl⟩
    · rcases ih h b x e with ⟨q, hq, h1⟩ | h1
      · exact .inl ⟨q, by simp [hq], h1⟩
      · exact .inr h1

theorem addPend_next (bf : Nat) : ∀ (ps : List Pend) (h : Heap), (addPend bf ps h).next = h.next ∧ (addPend bf ps h).base = h.base := by
  intro ps
  induction ps with
  | nil => intro h; exact ⟨rfl, rfl⟩
  | cons p ps ih =>
    intro h
    simp only [addPend]
    split
    · exact ⟨(ih h).1, (ih h).2⟩
    · exact ih h

theorem allPend_next : ∀ (ps : List Pend) (h : Heap), (allPend ps h).next = h.next ∧ (allPend ps h).base = h.base := by
  intro ps
  induction ps with
  | nil => intro h; exact ⟨rfl, rfl⟩
  | cons p ps ih => intro h; exact ⟨(ih h).1, (ih h).2⟩

theorem mem_dropPend (bf : Nat) : ∀ (ps : List Pend) (p : Pend), p ∈ dropPend bf ps → p ∈ ps ∧ bf.testBit p.at_ = false := by
  intro ps
  induction ps with
  | nil => intro p h; cases h
  | cons q ps ih =>
    intro p h
    simp only [dropPend] at h
    split at h
    · exact ⟨List.mem_cons_of_mem _ (ih p h).1, (ih p h).2⟩
    · rename_i hq
      rcases List.mem_cons.1 h with rfl | h
      · exact ⟨by simp, by simpa using hq⟩
      · exact ⟨List.mem_cons_of_mem _ (ih p h).1, (ih p h).2⟩
end
end Go.Ab
