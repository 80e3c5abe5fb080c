/-
  The abstract evaluator: code, and functions.
-/
import Derived.Test.YtjbhfehboajpcaaGreatDoorAbRegion
import Derived.RangeFuncRecord
namespace Go.Ab
open Go

/-! ### What is asked of code -/
theorem okDrawL_ok {ops : Array Oper} : ∀ (l : List (Oper × Nat)) (i : Nat) (seen : List (Nat × Oper)), okDrawL ops l i seen = true → (∀ k o bf, l[k]? = some (o, bf) → ops[i + k]? = some o ∧ bfOf ops (i + k) = bf) → (∀ x ∈ seen, ops[x.1]? = some x.2) → (∀ j oj, j < i → ops[j]? = some oj → (j, oj) ∈ seen) →
    (∀ k o e, i ≤ k → k < i + l.length → ops[k]? = some o → e ∈ o.after → Region.binds .any e = true → e.on < k) ∧ (∀ k j ok oj, i ≤ k → k < i + l.length → j < k → ops[k]? = some ok → ops[j]? = some oj → (bfOf ops k).testBit j = true ∨ oj.apart ops ok = true) := by
  intro l
  induction l with
  | nil => intro i seen _ _ _ _; exact ⟨fun k o e h1 h2 => by simp at h2; omega, fun k j ok oj h1 h2 => by simp at h2; omega⟩
  | cons x l ih =>
    intro i seen h hl hs hj
    obtain ⟨o, bf⟩ := x
    simp only [okDrawL, Bool.and_eq_true] at h
    obtain ⟨⟨h1, h2⟩, h3⟩ := h
    obtain ⟨ho, hbf⟩ := hl 0 o bf rfl
    simp only [Nat.add_zero] at ho hbf
    obtain ⟨i1, i2⟩ := ih (i + 1) ((i, o) :: seen) h3 (fun k o' bf' hk => by
        have := hl (k + 1) o' bf' (by simpa using hk)
        rw [show i + 1 + k = i + (k + 1) by omega]; exact this) (fun y hy => by
        rcases List.mem_cons.1 hy with rfl | hy
        · exact ho
        · exact hs y hy) (fun j oj hji hoj => by
        by_cases e : j = i
        · subst e; rw [ho] at hoj; cases hoj; simp
        · exact List.mem_cons_of_mem _ (hj j oj (by omega) hoj))
    refine ⟨fun k o' e hk1 hk2 hok he hb => ?_, fun k j ok oj hk1 hk2 hjk hok hoj => ?_⟩
    · by_cases e' : k = i
      · subst e'
        rw [ho] at hok; cases hok
        have := List.all_eq_true.1 h1 e (by simpa using he)
        rw [hb] at this
        simpa using this
      · exact i1 k o' e (by omega) (by simp at hk2; omega) hok he hb
    · by_cases e' : k = i
      · subst e'
        rw [ho] at hok; cases hok
        have := List.all_eq_true.1 h2 (j, oj) (hj j oj hjk hoj)
        rw [hbf]
        simpa using this
      · exact i2 k j ok oj (by omega) (by simp at hk2; omega) hjk hok hoj

theorem okDrawB_ok {ops : Array Oper} (h : okDrawB ops = true) : OkDraw ops := by
  unfold okDrawB at h
  obtain ⟨h1, h2⟩ := okDrawL_ok _ 0 [] h (fun k o bf hk => by
    rw [List.getElem?_zip_eq_some] at hk
    obtain ⟨hk1, hk2⟩ := hk
    rw [Array.getElem?_toList] at hk1 hk2
    refine ⟨by rw [Nat.zero_add]; exact hk1, ?_⟩
    unfold bfOf
    rw [Nat.zero_add, Array.getD_eq_getD_getElem?, hk2]; rfl) (fun x hx => by cases hx) (fun j oj hj => by omega)
  have hlen : (ops.toList.zip (Region.before ops).toList).length = ops.size := by simp [before_size]
  rw [hlen] at h1 h2
  exact ⟨fun i o e ho => h1 i o e (by omega) (by have := (Array.getElem?_eq_some_iff.1 ho).1; omega) ho, fun i j oi oj hji hoi => h2 i j oi oj (by omega) (by have := (Array.getElem?_eq_some_iff.1 hoi).1; omega) hji hoi⟩

theorem okCode_label {g : Nat} {rd : Bool} : ∀ {c rest : Code} {l : Nat}, okCode g rd c = true → findLabel c l = some rest → okCode g rd rest = true := by
  intro c
  induction c with
  | seq a b iha ihb =>
    intro rest l h hf
    simp only [okCode, Bool.and_eq_true] at h
    simp only [findLabel] at hf
    split at hf
    · rename_i r hr
      cases hf
      simp only [okCode, Bool.and_eq_true]
      exact ⟨iha h.1 hr, h.2⟩
    · exact ihb h.2 hf
  | label l' =>
    intro rest l h hf
    simp only [findLabel] at hf
    split at hf
    · cases hf; rfl
    · cases hf
  | _ => intro rest l h hf; simp [findLabel] at hf

/-! ### What lies aside -/
section
variable {P : Program} {E : Env} {ρ ρ' ρ0 : Inj} {h h' h0 : Heap} {w w' w0 : World}

theorem grow_push (hr : HRel ρ h w) {o : Obj} (hw : w'.heap = w.heap.push o) (hs : SameRest w w') : Grow ρ h w ρ h w' := by
  have hold : ∀ r, r < w.heap.size → w'.heap[r]? = w.heap[r]? := fun r hlt => by rw [hw, Array.getElem?_push_lt hlt, Array.getElem?_eq_getElem hlt]
  exact grow_keep hr (by rw [hw]; simp) hold hs

theorem grow_aside (g : Grow ρ0 h0 w0 ρ h w) {r : Nat} {o : Obj} (hr0 : w0.heap.size ≤ r) (hno : ∀ b x l, h.get b = some x → x.live → ρ b = some l → r ∉ x.foot w l) : Grow ρ0 h0 w0 ρ h (w.putObj r o) := by
  have hold : ∀ k, k ≠ r → (w.putObj r o).heap[k]? = w.heap[k]? := fun k hk => World.putObj_heap_other hk
  have hr := g.rel
  have hfeet : ∀ c y k, h.get c = some y → y.live → ρ c = some k → (∀ q ∈ y.foot w k, (w.putObj r o).heap[q]? = w.heap[q]?) ∧ y.foot (w.putObj r o) k = y.foot w k := fun c y k hc hy hk => by
    obtain ⟨k', hk', hbk⟩ := hr.blk c y hc hy
    rw [hk] at hk'; cases hk'
    have h1 : ∀ q ∈ y.foot w k, (w.putObj r o).heap[q]? = w.heap[q]? := fun q hq => hold q fun e => hno c y k hc hy hk (by rw [← e]; exact hq)
    exact ⟨h1, foot_stays h1 hbk⟩
  refine ⟨g.inj, g.old, ⟨?_, ?_, hr.fresh, hr.glob⟩, g.next, g.base, by rw [World.putObj_size]; exact g.size,
    fun k hk hf => by rw [hold k (by omega)]; exact g.frame k hk hf, ?_, g.os, g.tape, g.output⟩
  · intro b x hb hx
    obtain ⟨l, hl, hbk⟩ := hr.blk b x hb hx
    exact ⟨l, hl, hbk.mono ρ.le_refl (hfeet b x l hb hx hl).1⟩
  · intro c d y z k m hne hc hd hy hz hk hm q hq
    rw [(hfeet c y k hc hy.live hk).2] at hq
    rw [(hfeet d z m hd hz hm).2]
    exact hr.apartF c d y z k m hne hc hd hy hz hk hm q hq
  · intro b x l hb hx hl q hq
    rw [(hfeet b x l hb hx hl).2] at hq
    exact g.img b x l hb hx hl q hq

def mark (r : Nat) : Deferred := { target := .collected r, args := #[] }

/-- The blocks for the rounds' deferred calls. -/
def MarksAt (ρ : Inj) (h : Heap) (w : World) (n0 : Nat) (rs : List Nat) : Prop :=
  rs.Nodup ∧ ∀ r ∈ rs, n0 ≤ r ∧ w.heap[r]? = some (.deferred (some [])) ∧ ∀ b x l, h.get b = some x → x.live → ρ b = some l → r ∉ x.foot w l

theorem MarksAt.nil {n0 : Nat} : MarksAt ρ h w n0 [] := ⟨List.nodup_nil, fun r hr => by cases hr⟩

theorem MarksAt.grow {n0 : Nat} {rs : List Nat} (m : MarksAt ρ h w n0 rs) (g : Grow ρ h w ρ' h' w') : MarksAt ρ' h' w' n0 rs := by
  refine ⟨m.1, fun r hr => ?_⟩
  obtain ⟨h1, h2, h3⟩ := m.2 r hr
  have hlt : r < w.heap.size := (Array.getElem?_eq_some_iff.1 h2).1
  refine ⟨h1, by rw [g.frame r hlt fun b x l hb hx hl => h3 b x l hb hx.live hl]; exact h2, fun b x l hb hx hl e => ?_⟩
  rcases g.img b x l hb hx hl r e with h4 | ⟨b0, x0, l0, g0, lv0, _, i0, e0⟩
  · omega
  · exact h3 b0 x0 l0 g0 lv0 i0 e0

theorem MarksAt.append {n0 n1 : Nat} {rs rs' : List Nat} (m : MarksAt ρ h w n0 rs) (m' : MarksAt ρ h w n1 rs') (hn : n0 ≤ n1) (hlt : ∀ r ∈ rs, r < n1) : MarksAt ρ h w n0 (rs' ++ rs) := by
  refine ⟨List.nodup_append.2 ⟨m'.1, m.1, fun a ha b hb e => ?_⟩, fun r hr => ?_⟩
  · have := (m'.2 a ha).1
    have := hlt b hb
    omega
  · rcases List.mem_append.1 hr with hr | hr
    · obtain ⟨h1, h2, h3⟩ := m'.2 r hr
      exact ⟨by omega, h2, h3⟩
    · exact m.2 r hr

/-- What a walk of code ends in. -/
def EndsM (ρ : Inj) (h : Heap) (w : World) (fr' : Fr) (h' : Heap) (ds : List Deferred) (a' : Act) (w' : World) : Prop :=
  ∃ ρ' rs, FrRel ρ' fr' a' ∧ a'.defers = rs.map mark ++ ds ∧ Grow ρ h w ρ' h' w' ∧ MarksAt ρ' h' w' w.heap.size rs

theorem Ends.endsM {fr' : Fr} {ds : List Deferred} {a' : Act} (e : Ends ρ h w fr' h' ds a' w') : EndsM ρ h w fr' h' ds a' w' := by
  obtain ⟨ρ', h1, h2, h3⟩ := e
  exact ⟨ρ', [], h1, by simpa using h2, h3, MarksAt.nil⟩

theorem EndsM.trans {h1 : Heap} {w1 : World} {ρ1 : Inj} {rs : List Nat} {fr' : Fr} {ds ds1 : List Deferred} {a' : Act} (g : Grow ρ h w ρ1 h1 w1) (m : MarksAt ρ1 h1 w1 w.heap.size rs) (hd : ds1 = rs.map mark ++ ds) (e : EndsM ρ1 h1 w1 fr' h' ds1 a' w') : EndsM ρ h w fr' h' ds a' w' := by
  obtain ⟨ρ', rs', e1, e2, e3, e4⟩ := e
  refine ⟨ρ', rs' ++ rs, e1, by rw [e2, hd]; simp, g.trans e3, ?_⟩
  refine MarksAt.append (m.grow e3) e4 g.size fun r hr => (Array.getElem?_eq_some_iff.1 (m.2 r hr).2.1).1
end

def exitOf : Ex → Exit
  | .normal => .normal
  | .exit id => .exit id
  | .goto l => .goto l
  | .ret => .ret

/-- What the evaluator says of code is what the model does. -/
def RunOk (P : Program) (G : Nat) (run : Code → Fr → Heap → Res) : Prop :=
  ∀ rd c fr h e fr' h', okCode G rd c = true → run c fr h = some (e, fr', h') → ∀ ρ a w r d, (rd = true ∨ r = none) → HRel ρ h w → h.base = G → FrRel ρ fr a →
    ∀ Q : Exit → Act → World → Prop, (∀ a' w', EndsM ρ h w fr' h' a.defers a' w' → Q (exitOf e) a' w') → c.wpIn (wideR r) d P Q a w

section
variable {P : Program} {F : Fence} {n : Nat} {Q : Exit → Act → World → Prop} {a : Act} {w : World}

/-! ### Loops and scopes -/
def LoopWp (F : Fence) (n : Nat) (P : Program) (c : Code) (Q : Exit → Act → World → Prop) (a : Act) (w : World) : Prop :=
  ∀ (b : Frame) (k : List Item) (cs : List Frame), b.roundOf = F.round → F.fn b.fn → F.room (cs.length + 1 + n) →
    ∃ e a' w', Q e a' w' ∧ ArrivesIn (Machine.fenced P F) P (lone (b.atR a (.code c :: .inLoop c :: k)) cs w) b k cs e a' w'

theorem LoopWp.loop {c : Code} (h : LoopWp F n P c Q a w) : (Code.loop c).wpIn F n P Q a w := by
  intro b k cs hro hb hr
  obtain ⟨e, a', w', hq, harr⟩ := h b k cs hro hb hr
  exact ⟨e, a', w', hq, .of_steps (.one (fenced_calm hb hr rfl) stepR_loop) harr⟩

theorem LoopWp.unroll {c : Code} (h : c.wpIn F n P (Exit.then (LoopWp F n P c Q) Q) a w) : LoopWp F n P c Q a w := by
  intro b k cs hro hb hr
  obtain ⟨e, a₁, w₁, hq, harr⟩ := h b (.inLoop c :: k) cs hro hb hr
  cases e with
  | normal =>
    obtain ⟨e₂, a₂, w₂, hq₂, harr₂⟩ := hq b k cs hro hb hr
    exact ⟨e₂, a₂, w₂, hq₂, .of_steps (StepsIn.trans harr (.one (fenced_calm hb hr rfl) stepR_inLoop)) harr₂⟩
  | exit id => exact ⟨_, a₁, w₁, hq, .pass (x := .inLoop c) rfl (fun _ _ => .inl (by simp)) harr⟩
  | goto l => exact ⟨_, a₁, w₁, hq, .pass (x := .inLoop c) rfl (fun _ _ => .inl (by simp)) harr⟩
  | ret => exact ⟨_, a₁, w₁, hq, .pass (x := .inLoop c) rfl (fun _ _ => .inl (by simp)) harr⟩
  | panic ch => exact ⟨_, a₁, w₁, hq, .pass (x := .inLoop c) rfl (fun _ _ => .inl (by simp)) harr⟩
  | outgrown => exact ⟨_, a₁, w₁, hq, .pass (x := .inLoop c) rfl (fun _ _ => .inl (by simp)) harr⟩

theorem stepR_scope {b : Frame} {k : List Item} {cs : List Frame} {c : Code} : step P (lone (b.atR a (.code (.scope c) :: k)) cs w) = .next (lone (b.atR a (.code c :: .inScope c :: k)) cs w) :=
  step_lone_go (by simp [stepG, stepG.exec, Frame.atR])
theorem stepR_inScope {b : Frame} {k : List Item} {cs : List Frame} {c : Code} : step P (lone (b.atR a (.inScope c :: k)) cs w) = .next (lone (b.atR a k) cs w) :=
  step_lone_go (by simp [stepG, stepG.exec, Frame.atR])

def ScopeWp (F : Fence) (n : Nat) (P : Program) (body c : Code) (Q : Exit → Act → World → Prop) (a : Act) (w : World) : Prop :=
  ∀ (b : Frame) (k : List Item) (cs : List Frame), b.roundOf = F.round → F.fn b.fn → F.room (cs.length + 1 + n) →
    ∃ e a' w', Q e a' w' ∧ ArrivesIn (Machine.fenced P F) P (lone (b.atR a (.code c :: .inScope body :: k)) cs w) b k cs e a' w'

theorem ScopeWp.scope {c : Code} (h : ScopeWp F n P c c Q a w) : (Code.scope c).wpIn F n P Q a w := by
  intro b k cs hro hb hr
  obtain ⟨e, a', w', hq, harr⟩ := h b k cs hro hb hr
  exact ⟨e, a', w', hq, .of_steps (.one (fenced_calm hb hr rfl) stepR_scope) harr⟩

/-- How a scope goes on when the code in it has ended. -/
def scopePost (F : Fence) (n : Nat) (P : Program) (body : Code) (Q : Exit → Act → World → Prop) : Exit → Act → World → Prop
  | .goto l, a, w => match findLabel body l with
    | some rest => ScopeWp F n P body rest Q a w
    | none => Q (.goto l) a w
  | e, a, w => Q e a w

theorem ScopeWp.unroll {body c : Code} (h : c.wpIn F n P (scopePost F n P body Q) a w) : ScopeWp F n P body c Q a w := by
  intro b k cs hro hb hr
  obtain ⟨e, a₁, w₁, hq, harr⟩ := h b (.inScope body :: k) cs hro hb hr
  cases e with
  | normal => exact ⟨.normal, a₁, w₁, hq, StepsIn.trans harr (.one (fenced_calm hb hr rfl) stepR_inScope)⟩
  | exit id => exact ⟨.exit id, a₁, w₁, hq, fun k' hk => harr.1 k' (by simpa [exitTo] using hk), fun h1 h2 => harr.2 h1 (by simpa [exitTo] using h2)⟩
  | goto l =>
    simp only [scopePost] at hq
    split at hq
    · rename_i rest hf
      obtain ⟨e₂, a₂, w₂, hq₂, harr₂⟩ := hq b k cs hro hb hr
      exact ⟨e₂, a₂, w₂, hq₂, .of_steps (harr.1 _ (by simp [gotoIn, hf])) harr₂⟩
    · rename_i hf
      exact ⟨.goto l, a₁, w₁, hq, fun k' hk => harr.1 k' (by simpa [gotoIn, hf] using hk), fun h1 h2 => harr.2 h1 (by simpa [gotoIn, hf] using h2)⟩
  | ret => exact ⟨_, a₁, w₁, hq, harr⟩
  | panic ch => exact ⟨_, a₁, w₁, hq, harr⟩
  | outgrown => exact ⟨_, a₁, w₁, hq, harr⟩
end

section
variable {P : Program} {E : Env} {G : Nat}

theorem loopN_ok {run : Code → Fr → Heap → Res} {c : Code} {rd : Bool} (hrun : ∀ fr h e fr' h', run c fr h = some (e, fr', h') → ∀ ρ a w r d, (rd = true ∨ r = none) → HRel ρ h w → h.base = G → FrRel ρ fr a →
    ∀ Q : Exit → Act → World → Prop, (∀ a' w', EndsM ρ h w fr' h' a.defers a' w' → Q (exitOf e) a' w') → c.wpIn (wideR r) d P Q a w) :
    ∀ n fr h e fr' h', loopN (run c) n fr h = some (e, fr', h') → ∀ ρ a w r d, (rd = true ∨ r = none) → HRel ρ h w → h.base = G → FrRel ρ fr a →
      ∀ Q : Exit → Act → World → Prop, (∀ a' w', EndsM ρ h w fr' h' a.defers a' w' → Q (exitOf e) a' w') → LoopWp (wideR r) d P c Q a w := by
  intro n
  induction n with
  | zero => intro fr h e fr' h' hev; cases hev
  | succ n ih =>
    intro fr h e fr' h' hev ρ a w r d hrd hr hb hf Q hQ
    simp only [loopN] at hev
    refine LoopWp.unroll ?_
    split at hev
    · rename_i fr1 h1 hev1
      refine hrun fr h _ fr1 h1 hev1 ρ a w r d hrd hr hb hf _ fun a1 w1 he => ?_
      obtain ⟨ρ1, rs, e1, e2, e3, e4⟩ := he
      exact ih fr1 h1 e fr' h' hev ρ1 a1 w1 r d hrd e3.rel (by rw [e3.base]; exact hb) e1 Q fun a' w' he' => hQ a' w' (EndsM.trans e3 e4 e2 he')
    · rename_i res hne
      refine hrun fr h e fr' h' hev ρ a w r d hrd hr hb hf _ fun a1 w1 he => ?_
      have := hQ a1 w1 he
      cases e with
      | normal => exact absurd hev (hne fr' h')
      | _ => exact this

theorem scopeN_ok {run : Code → Fr → Heap → Res} {body : Code} {rd : Bool} (hrun : RunOk P G run) (hbody : okCode G rd body = true) :
    ∀ n fr h c e fr' h', okCode G rd c = true → scopeN run body n fr h c = some (e, fr', h') → ∀ ρ a w r d, (rd = true ∨ r = none) → HRel ρ h w → h.base = G → FrRel ρ fr a →
      ∀ Q : Exit → Act → World → Prop, (∀ a' w', EndsM ρ h w fr' h' a.defers a' w' → Q (exitOf e) a' w') → ScopeWp (wideR r) d P body c Q a w := by
  intro n
  induction n with
  | zero => intro fr h c e fr' h' _ hev; cases hev
  | succ n ih =>
    intro fr h c e fr' h' hc hev ρ a w r d hrd hr hb hf Q hQ
    simp only [scopeN] at hev
    refine ScopeWp.unroll ?_
    split at hev
    · rename_i l fr1 h1 hev1
      split at hev
      · rename_i rest hl
        refine hrun rd c fr h _ fr1 h1 hc hev1 ρ a w r d hrd hr hb hf _ fun a1 w1 he => ?_
        obtain ⟨ρ1, rs, e1, e2, e3, e4⟩ := he
        simp only [exitOf, scopePost, hl]
        exact ih fr1 h1 rest e fr' h' (okCode_label hbody hl) hev ρ1 a1 w1 r d hrd e3.rel (by rw [e3.base]; exact hb) e1 Q fun a' w' he' => hQ a' w' (EndsM.trans e3 e4 e2 he')
      · rename_i hl
        cases hev
        refine hrun rd c fr h _ _ _ hc hev1 ρ a w r d hrd hr hb hf _ fun a1 w1 he => ?_
        simp only [exitOf, scopePost, hl]
        exact hQ a1 w1 he
    · rename_i res hne
      refine hrun rd c fr h e fr' h' hc hev ρ a w r d hrd hr hb hf _ fun a1 w1 he => ?_
      have := hQ a1 w1 he
      cases e with
      | goto l => exact absurd hev (hne l fr' h')
      | _ => exact this

def jumpPost (r : Option Nat) (d : Nat) (P : Program) (Q : Exit → Act → World → Prop) (a : Act) (w : World) : Option Code → Prop
  | none => Q .normal a w
  | some c => c.wpIn (wideR r) d P Q a w

theorem endJump_same {pe : Option Code} {fr fr' : Fr} {h h' : Heap} {e : Ex} (hev : endJump pe fr h = some (e, fr', h')) : fr' = fr ∧ h' = h := by
  unfold endJump at hev
  split at hev <;> first | (cases hev; exact ⟨rfl, rfl⟩) | cases hev

theorem endJump_post {pe : Option Code} {fr fr' : Fr} {h h' : Heap} {e : Ex} (hev : endJump pe fr h = some (e, fr', h')) {r : Option Nat} {d : Nat} {a : Act} {w : World} {Q : Exit → Act → World → Prop} (hQ : Q (exitOf e) a w) : jumpPost r d P Q a w pe := by
  unfold endJump at hev
  split at hev
  · cases hev; exact hQ
  · cases hev; exact wpIn_ret hQ
  · cases hev; exact wpIn_exit hQ
  · cases hev; exact wpIn_goto hQ
  · cases hev

theorem rangeFunc_ok (hE : EnvOk2 P E) {cf : FuncId → List Value → Heap → Ans} {yl : Nat → List Value → Heap → Ans} (hs : Sound P E G cf yl) {run : Code → Fr → Heap → Res} {n : Nat} {f : Operand} {ps : Array Tmp} {as body : Code} {fr : Fr} {h : Heap} {e : Ex} {fr' : Fr} {h' : Heap} (hfo : okOpnd G f = true)
    (hev : evCode E cf yl run n (.rangeFunc f ps as body) fr h = some (e, fr', h')) {ρ : Inj} {a : Act} {w : World} {d : Nat} (hr : HRel ρ h w) (hb : h.base = G) (hf : FrRel ρ fr a) {Q : Exit → Act → World → Prop} (hQ : ∀ a' w', EndsM ρ h w fr' h' a.defers a' w' → Q (exitOf e) a' w') :
    (Code.rangeFunc f ps as body).wpIn (wideR none) d P Q a w := by
  have hv := val_rel hr hf (x := f) (by rw [hb]; exact hfo)
  simp only [evCode] at hev
  split at hev
  · rename_i g first cap hfv
    rw [hfv] at hv
    generalize hq : a.eval f = q at hv
    cases hv with
    | func hny hsa hsb ea eb =>
      rename_i first' cap'
      have v1 : VRels ρ first.toList first'.toList := ⟨by simpa using hsa, fun i x y hx hy => ea i x y (by simpa using hx) (by simpa using hy)⟩
      have v2 : VRels ρ cap.toList cap'.toList := ⟨by simpa using hsb, fun i x y hx hy => eb i x y (by simpa using hx) (by simpa using hy)⟩
      split at hev
      · rename_i rv h2 hcf
        split at hev
        · rename_i st pe fr0 ps0 as0 b0 hget
          have hnb : st ≠ .busy := by rintro rfl; cases hev
          have hev : endJump pe fr (h2.set h.next (.loop .exhausted pe fr0 ps0 as0 b0)) = some (e, fr', h') := by
            cases st <;> first | exact hev | exact absurd rfl hnb
          refine wpIn_rangeFunc fun fn _ => ?_
          -- the record
          have hg0 := grow_push (w' := w.alloc (.deferred (some []))) hr rfl ⟨rfl, rfl, rfl⟩
          obtain ⟨w1, hw1⟩ : ∃ w1, (w.alloc (.deferred (some []))).alloc (.loop { state := .ready, pending := none, fn, tmps := a.tmps, params := ps, assign := as, body, defers := w.heap.size }) = w1 := ⟨_, rfl⟩
          have hg1 : Grow ρ h (w.alloc (.deferred (some []))) (ρ.upd h.next ⟨w.heap.size + 1, 0, 0⟩) (h.push (.loop .ready none fr ps.toList as body)) w1 := by
            refine grow_new (l := ⟨w.heap.size + 1, 0, 0⟩) hg0.rel (by simp) (by rw [← hw1]; rfl) (by rw [← hw1]; exact ⟨rfl, rfl, rfl⟩) ?_
            refine ⟨rfl, fn, a.tmps, w.heap.size, ?_, hf.mono (Inj.le_upd (hr.fresh h.next (Nat.le_refl _)))⟩
            rw [← hw1]
            have := World.alloc_heap_new (w.alloc (.deferred (some []))) (.loop { state := .ready, pending := none, fn, tmps := a.tmps, params := ps, assign := as, body, defers := w.heap.size })
            rw [World.size_alloc] at this
            simpa using this
          have hg01 := hg0.trans hg1
          have hm1 : MarksAt (ρ.upd h.next ⟨w.heap.size + 1, 0, 0⟩) (h.push (.loop .ready none fr ps.toList as body)) w1 w.heap.size [w.heap.size] := by
            refine MarksAt.grow (ρ := ρ) (h := h) (w := w.alloc (.deferred (some []))) ⟨by simp, fun r hr' => ?_⟩ hg1
            have : r = w.heap.size := by simpa using hr'
            subst this
            refine ⟨Nat.le_refl _, World.alloc_heap_new w _, fun b x l hb' hx hl e => ?_⟩
            obtain ⟨l', hl', hbr⟩ := hr.blk b x hb' hx
            rw [hl] at hl'; cases hl'
            have hfs := foot_stays (w' := w.alloc (.deferred (some []))) (fun q hq => by
              have hq2 := BlkRel.ltF hx hbr q hq
              show (w.heap.push _)[q]? = _
              rw [Array.getElem?_push, if_neg (by omega)]) hbr
            rw [hfs] at e
            have := BlkRel.ltF hx hbr _ e
            omega
          have hargs : VRels (ρ.upd h.next ⟨w.heap.size + 1, 0, 0⟩) (first.toList ++ [.func (.yield h.next) #[] #[]] ++ cap.toList) (first'.toList ++ [.func (.yield (w.heap.size + 1)) #[] #[]] ++ cap'.toList) :=
            ((v1.mono hg01.inj).append (.cons (.yield (l := ⟨w.heap.size + 1, 0, 0⟩) (Inj.upd_same _ _ _) rfl) .nil)).append (v2.mono hg01.inj)
          have hcall := hs.call g _ _ rv h2 hcf _ w1 _ hg01.rel (by rw [hg01.base]; exact hb) hargs none (d - 1)
          obtain ⟨fnn, hfn⟩ := hs.isFn g _ _ _ hcf
          have harr : (first'.toList ++ [Value.func (.yield (w.heap.size + 1)) #[] #[]] ++ cap'.toList).toArray = first' ++ #[Value.func (.yield (w.heap.size + 1)) #[] #[]] ++ cap' := Array.toList_inj.1 (by simp)
          rw [harr] at hcall
          refine ⟨w.heap.size + 1, [mark w.heap.size], w1, { target := .fn (.func g) cap', args := first' ++ #[.func (.yield (w.heap.size + 1)) #[] #[]] }, w1, g, first' ++ #[.func (.yield (w.heap.size + 1)) #[] #[]] ++ cap', w1, ?_, ?_, fun _ _ => trivial, ?_, ?_, ?_⟩
          · rw [← hw1]; exact run_enterLoop_outer _ _ _ _ _
          · simp only [resolve, hq, Deferred.ofValue]
            simp [Act.eval]
          · simp [invoke, hE.call g fnn hfn]
          · intro hh; simp [wideR, Fence.wide] at hh
          · refine hcall.mono ?_
            rintro ee w2 ⟨v', ρ2, rfl, _, hg2⟩
            have hg12 := hg01.trans hg2
            obtain ⟨l, hl, hbr⟩ := hg2.rel.blk h.next _ hget (by trivial)
            have hl1 := hg2.inj h.next _ (Inj.upd_same ρ h.next ⟨w.heap.size + 1, 0, 0⟩)
            rw [hl] at hl1; cases hl1
            obtain ⟨_, fn2, tmps2, dfr2, hobj, hvt⟩ := hbr
            have hend := run_endLoop (P := P) hobj hnb
            refine ⟨_, _, hend, ?_⟩
            have hg3 : Grow ρ2 h2 w2 ρ2 (h2.set h.next (.loop .exhausted pe fr0 ps0 as0 b0)) (w2.putObj (w.heap.size + 1) (.loop { state := .exhausted, pending := pe, fn := fn2, tmps := tmps2, params := ps0.toArray, assign := as0, body := b0, defers := dfr2 })) :=
              grow_upd hg2.rel hget (by trivial) hl rfl ⟨rfl, rfl, rfl⟩ fun _ => ⟨rfl, fn2, tmps2, dfr2, World.putObj_heap_same (Array.getElem?_eq_some_iff.1 hobj).1, hvt⟩
            have hg13 := hg12.trans hg3
            obtain ⟨e1, e2⟩ := endJump_same hev
            have hj := endJump_post (P := P) (r := none) (d := d) (Q := Q) (a := { a with defers := [mark w.heap.size] ++ a.defers }) hev (hQ _ _ ⟨ρ2, [w.heap.size], by rw [e1]; exact hf.mono hg13.inj, rfl, by rw [e2]; exact hg13, by rw [e2]; exact (hm1.grow hg2).grow hg3⟩)
            cases pe with
            | none => exact hj
            | some c => exact hj
        · cases hev
      · cases hev
  · cases hev

/-- Code, one fuel further. -/
theorem evCode_ok (hE : EnvOk2 P E) (hm : P.follows .mixedOrders = true) {cf : FuncId → List Value → Heap → Ans} {yl : Nat → List Value → Heap → Ans} (hs : Sound P E G cf yl) {run : Code → Fr → Heap → Res} (hrun : RunOk P G run) (n : Nat) : RunOk P G (evCode E cf yl run n) := by
  intro rd c
  induction c generalizing rd with
  | skip =>
    intro fr h e fr' h' _ hev ρ a w r d _ hr _ hf Q hQ
    simp only [evCode] at hev; cases hev
    exact wpIn_skip (hQ a w ⟨ρ, [], hf, rfl, .refl hr, MarksAt.nil⟩)
  | region id ops draw =>
    intro fr h e fr' h' hok hev ρ a w r d _ hr hb hf Q hQ
    simp only [evCode] at hev
    split at hev
    · rename_i fr1 h1 hev1
      cases hev
      simp only [okCode, Bool.and_eq_true] at hok
      refine evRegion_wp hE hm hs (fun o ho => List.all_eq_true.1 hok.1 o ho) (fun hd => okDrawB_ok (by have := hok.2; rw [hd] at this; simpa using this)) hr hb hf hev1 id r d fun a' w' he => hQ a' w' he.endsM
    · cases hev
  | seq x y ihx ihy =>
    intro fr h e fr' h' hok hev ρ a w r d hrd hr hb hf Q hQ
    simp only [okCode, Bool.and_eq_true] at hok
    simp only [evCode] at hev
    refine wpIn_seq ?_
    split at hev
    · rename_i fr1 h1 hev1
      refine ihx rd fr h _ fr1 h1 hok.1 hev1 ρ a w r d hrd hr hb hf _ fun a1 w1 he => ?_
      obtain ⟨ρ1, rs, e1, e2, e3, e4⟩ := he
      exact ihy rd fr1 h1 e fr' h' hok.2 hev ρ1 a1 w1 r d hrd e3.rel (by rw [e3.base]; exact hb) e1 Q fun a' w' he' => hQ a' w' (EndsM.trans e3 e4 e2 he')
    · rename_i res hne
      refine ihx rd fr h e fr' h' hok.1 hev ρ a w r d hrd hr hb hf _ fun a1 w1 he => ?_
      have := hQ a1 w1 he
      cases e with
      | normal => exact absurd hev (hne fr' h')
      | _ => exact this
  | cond c x y ihx ihy =>
    intro fr h e fr' h' hok hev ρ a w r d hrd hr hb hf Q hQ
    simp only [okCode, Bool.and_eq_true] at hok
    have hv := val_rel hr hf (x := c) (by rw [hb]; exact hok.1.1)
    simp only [evCode] at hev
    split at hev
    · rename_i hc
      rw [hc] at hv
      generalize hq : a.eval c = q at hv
      cases hv
      exact wpIn_cond_true hq (ihx rd fr h e fr' h' hok.1.2 hev ρ a w r d hrd hr hb hf Q hQ)
    · rename_i hc
      rw [hc] at hv
      generalize hq : a.eval c = q at hv
      cases hv
      exact wpIn_cond_false hq (ihy rd fr h e fr' h' hok.2 hev ρ a w r d hrd hr hb hf Q hQ)
    · cases hev
  | block id x ih =>
    intro fr h e fr' h' hok hev ρ a w r d hrd hr hb hf Q hQ
    simp only [okCode] at hok
    simp only [evCode] at hev
    refine wpIn_block ?_
    split at hev
    · rename_i j fr1 h1 hev1
      split at hev
      · rename_i hj
        cases hev
        refine ih rd fr h _ _ _ hok hev1 ρ a w r d hrd hr hb hf _ fun a1 w1 he => ?_
        have := hQ a1 w1 he
        rw [nbeq] at hj
        simp only [exitOf, Exit.inBlock, if_pos (of_decide_eq_true hj)]
        exact this
      · rename_i hj
        cases hev
        refine ih rd fr h _ _ _ hok hev1 ρ a w r d hrd hr hb hf _ fun a1 w1 he => ?_
        have := hQ a1 w1 he
        rw [nbeq] at hj
        simp only [exitOf, Exit.inBlock, if_neg (by simpa using hj)]
        exact this
    · rename_i res hne
      refine ih rd fr h e fr' h' hok hev ρ a w r d hrd hr hb hf _ fun a1 w1 he => ?_
      have := hQ a1 w1 he
      cases e with
      | exit j => exact absurd hev (hne j fr' h')
      | _ => exact this
  | loop x ih =>
    intro fr h e fr' h' hok hev ρ a w r d hrd hr hb hf Q hQ
    simp only [okCode] at hok
    simp only [evCode] at hev
    exact LoopWp.loop (loopN_ok (run := evCode E cf yl run n) (rd := rd) (fun fr h e fr' h' hev => ih rd fr h e fr' h' hok hev) n fr h e fr' h' hev ρ a w r d hrd hr hb hf Q hQ)
  | rangeFunc f ps as body _ _ =>
    intro fr h e fr' h' hok hev ρ a w r d hrd hr hb hf Q hQ
    simp only [okCode, Bool.and_eq_true] at hok
    obtain ⟨⟨⟨hrd0, hfo⟩, hoas⟩, hob⟩ := hok
    have hr0 : r = none := by
      rcases hrd with hrd | hrd
      · rw [hrd] at hrd0; cases hrd0
      · exact hrd
    subst hr0
    exact rangeFunc_ok hE hs hfo hev hr hb hf hQ
  | exit id =>
    intro fr h e fr' h' _ hev ρ a w r d _ hr _ hf Q hQ
    simp only [evCode] at hev; cases hev
    exact wpIn_exit (hQ a w ⟨ρ, [], hf, rfl, .refl hr, MarksAt.nil⟩)
  | scope x ih =>
    intro fr h e fr' h' hok hev ρ a w r d hrd hr hb hf Q hQ
    simp only [okCode] at hok
    simp only [evCode] at hev
    exact ScopeWp.scope (scopeN_ok hrun hok n fr h x e fr' h' hok hev ρ a w r d hrd hr hb hf Q hQ)
  | label l =>
    intro fr h e fr' h' _ hev ρ a w r d _ hr _ hf Q hQ
    simp only [evCode] at hev; cases hev
    exact wpIn_label (hQ a w ⟨ρ, [], hf, rfl, .refl hr, MarksAt.nil⟩)
  | goto l =>
    intro fr h e fr' h' _ hev ρ a w r d _ hr _ hf Q hQ
    simp only [evCode] at hev; cases hev
    exact wpIn_goto (hQ a w ⟨ρ, [], hf, rfl, .refl hr, MarksAt.nil⟩)
  | ret =>
    intro fr h e fr' h' _ hev ρ a w r d _ hr _ hf Q hQ
    simp only [evCode] at hev; cases hev
    exact wpIn_ret (hQ a w ⟨ρ, [], hf, rfl, .refl hr, MarksAt.nil⟩)
  | refuse s =>
    intro fr h e fr' h' _ hev
    simp only [evCode] at hev; cases hev
end
end Go.Ab
