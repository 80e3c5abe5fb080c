/-
  The abstract evaluator: functions, rounds, and the whole.
-/
import Derived.Test.YtjbhfehboajpcaaGreatDoorAbCode
namespace Go.Ab
open Go

section
variable {P : Program} {E : Env} {G : Nat} {ρ ρ0 : Inj} {h h0 : Heap} {w w0 : World}

theorem loadVar_rel (hE : EnvOk P E) (hr : HRel ρ h w) {t : TypeId} {a a' v : Value} (ha : VRel ρ a a') (hl : load E h t a = some v) :
    ∃ v', VRel ρ v v' ∧ (do loadVar t (← asAddr a') : Sem Value).run P w = .ok v' w := by
  obtain ⟨v', hv, hrun⟩ := load_rel hE hr ha hl
  refine ⟨v', hv, ?_⟩
  unfold load at hl
  split at hl
  · cases ha with
    | ptr hb => simpa [Instr.loadAt, Instr.sureAddr, asAddr] using hrun
  · cases hl

def resOf (tmps : Array Value) : ResultVar → Sem Value
  | .tmp t => pure (tmps.getD t undef)
  | .cell x t => do loadVar t (← asAddr (tmps.getD x undef))

theorem results_eq (fn : Func) (tmps : Array Value) : results fn tmps = (do let vs ← fn.results.mapM (resOf tmps); pure (if h : vs.size = 1 then vs[0] else .tuple vs)) := rfl

theorem resultsOf_rel (hE : EnvOk P E) (hr : HRel ρ h w) {fr : Fr} {a : Act} (hf : FrRel ρ fr a) : ∀ (rs : List ResultVar) (vs : List Value), resultsOf E fr h rs = some vs →
    ∃ vs', VRels ρ vs vs' ∧ (rs.mapM (resOf a.tmps)).run P w = .ok vs' w := by
  have hg : ∀ t, VRel ρ (lget fr t) (a.tmps.getD t undef) := fun t => lget_rel hf t
  intro rs
  induction rs with
  | nil => intro vs h'; simp only [resultsOf] at h'; cases h'; exact ⟨[], .nil, by simp⟩
  | cons x rs ih =>
    intro vs h'
    cases x with
    | tmp t =>
      simp only [resultsOf] at h'
      split at h'
      · rename_i l hl
        cases h'
        obtain ⟨vs', hv, hrun⟩ := ih l hl
        exact ⟨_ :: vs', .cons (hg t) hv, by simp only [List.mapM_cons, Sem.run_bind, resOf, Sem.run_pure, Result.andThen_ok, hrun]⟩
      · cases h'
    | cell x t =>
      simp only [resultsOf] at h'
      split at h'
      · rename_i v l hv hl
        cases h'
        obtain ⟨vs', hvs, hrun⟩ := ih l hl
        obtain ⟨v', hv', hrun'⟩ := loadVar_rel hE hr (hg x) hv
        exact ⟨v' :: vs', .cons hv' hvs, by
          have hx : (resOf a.tmps (.cell x t)).run P w = .ok v' w := hrun'
          simp only [List.mapM_cons, Sem.run_bind, hx, Sem.run_pure, Result.andThen_ok, hrun]⟩
      · cases h'

theorem results_rel (hE : EnvOk P E) (hr : HRel ρ h w) {fr : Fr} {a : Act} (hf : FrRel ρ fr a) {fn : Func} {vs : List Value} (hvs : resultsOf E fr h fn.results.toList = some vs) :
    ∃ v', VRel ρ (match vs with | [v] => v | vs => .tuple vs.toArray) v' ∧ (results fn a.tmps).run P w = .ok v' w := by
  obtain ⟨vs', hv, hrun⟩ := resultsOf_rel (P := P) hE hr hf _ _ hvs
  have hm : (fn.results.mapM (resOf a.tmps)).run P w = .ok vs'.toArray w := by
    rw [Array.mapM_eq_mapM_toList, Sem.run_map, hrun]; rfl
  refine ⟨if hs : vs'.toArray.size = 1 then vs'.toArray[0] else .tuple vs'.toArray, ?_, ?_⟩
  · split
    · rename_i v
      obtain ⟨y, r, rfl, hy, hr'⟩ := hv.cons_inv
      obtain rfl := hr'.nil_inv
      simpa using hy
    · rename_i hne
      have hlen : vs'.length ≠ 1 := fun e => by
        rw [← hv.1] at e
        obtain ⟨x, rfl⟩ := List.length_eq_one_iff.1 e
        exact hne x rfl
      rw [dif_neg (by simpa using hlen)]
      exact VRels.toTuple (by simpa using hv)
  · rw [results_eq]
    simp only [Sem.run_bind, hm, Result.andThen_ok, Sem.run_pure]

/-- The blocks for the rounds' deferred calls are shut. -/
theorem leaves_marks {fn : Func} {tmps : Array Value} {R : Ending → World → Prop} {F : Fence} {n : Nat} : ∀ (rs : List Nat) (w : World), MarksAt ρ h w w0.heap.size rs → Grow ρ0 h0 w0 ρ h w →
    (∀ w', Grow ρ0 h0 w0 ρ h w' → ∃ v, (results fn tmps).run P w' = .ok v w' ∧ R (.returned v) w') → LeavesInM F n P fn tmps R (rs.map mark) .returning w := by
  intro rs
  induction rs with
  | nil => intro w _ hg hR; exact hR w hg
  | cons r rs ih =>
    intro w hm hg hR
    obtain ⟨h1, h2, h3⟩ := hm.2 r (by simp)
    refine ⟨by simp, .inl ⟨r, w.putObj r (.deferred none), rfl, run_takeDeferred h2, ?_⟩⟩
    have hnd := List.nodup_cons.1 hm.1
    refine ih _ ⟨hnd.2, fun k hk => ?_⟩ (grow_aside hg h1 h3) hR
    obtain ⟨k1, k2, k3⟩ := hm.2 k (by simp [hk])
    have hne : k ≠ r := fun e => by rw [e] at hk; exact hnd.1 hk
    exact ⟨k1, by rw [World.putObj_heap_other hne]; exact k2, fun b x l hb hx hl => by
      obtain ⟨l', hl', hbk⟩ := hg.rel.blk b x hb hx
      rw [hl] at hl'; cases hl'
      rw [foot_stays (fun q hq => World.putObj_heap_other fun e => h3 b x l hb hx hl (by rw [← e]; exact hq)) hbk]
      exact k3 b x l hb hx hl⟩

/-- The functions that are called. -/
structure FnsOk (P : Program) (E : Env) (G : Nat) : Prop where
  fn : ∀ f fn, E.fn f = some fn → P.funcs[f]? = some fn
  code : ∀ f fn c, E.fn f = some fn → fn.body = some c → okCode G false c = true

theorem evBody_ok (hE : EnvOk P E) (hF : FnsOk P E G) {run : Code → Fr → Heap → Res} (hrun : RunOk P G run) {f : FuncId} {fn : Func} (hf : E.fn f = some fn) {args args' : List Value} {v : Value} {h' : Heap} (hev : evBody E run fn args h = some (v, h'))
    (hr : HRel ρ h w) (hb : h.base = G) (ha : VRels ρ args args') (r : Option Nat) (k : Nat) : CallsIn (wideR r) k P f args'.toArray w fun e w' => ∃ v' ρ', e = .returned v' ∧ VRel ρ' v v' ∧ Grow ρ h w ρ' h' w' := by
  unfold evBody at hev
  split at hev
  · cases hev
  · rename_i c hc
    have hlen : args'.length = args.length := ha.1.symm
    have hfr : FrRel ρ (frOf args fn.ntmps) { tmps := args'.toArray ++ Array.replicate (fn.ntmps - args'.toArray.size) undef, defers := [] } := by
      exact frOf_rel ha fn.ntmps
    -- in what way the body ends
    have key : ∀ e fr' h1 vs, run c (frOf args fn.ntmps) h = some (e, fr', h1) → (exitOf e = .normal ∨ exitOf e = .ret) → resultsOf E fr' h1 fn.results.toList = some vs → h1 = h' → (match vs with | [v] => v | vs => .tuple vs.toArray) = v →
        CallsIn (wideR none) k P f args'.toArray w fun e w' => ∃ v' ρ', e = .returned v' ∧ VRel ρ' v v' ∧ Grow ρ h w ρ' h' w' := by
      intro e fr' h1 vs hr1 he hvs hh hv
      subst hh
      refine callsIn_of_wp_marks (hF.fn f fn hf) hc trivial ?_
      refine hrun false c _ _ e fr' h1 (hF.code f fn c hf hc) hr1 ρ _ w none k (.inr rfl) hr hb hfr _ fun a' w' hends => ?_
      obtain ⟨ρ', rs, e1, e2, e3, e4⟩ := hends
      have hpost : LeavesInM (wideR none) k P fn a'.tmps (fun e w' => ∃ v' ρ', e = .returned v' ∧ VRel ρ' v v' ∧ Grow ρ h w ρ' h1 w') a'.defers .returning w' := by
        rw [e2, List.append_nil]
        refine leaves_marks rs w' e4 e3 fun w2 hg2 => ?_
        obtain ⟨v', hv', hrun'⟩ := results_rel (P := P) hE hg2.rel e1 hvs
        rw [hv] at hv'
        exact ⟨v', hrun', v', ρ', rfl, hv', hg2⟩
      rcases he with he | he <;> rw [he] <;> exact hpost
    have goal : CallsIn (wideR none) k P f args'.toArray w fun e w' => ∃ v' ρ', e = .returned v' ∧ VRel ρ' v v' ∧ Grow ρ h w ρ' h' w' := by
      split at hev
      · rename_i fr' h1 hr1
        split at hev
        · rename_i vv hvs; cases hev; exact key .normal fr' _ _ hr1 (.inl rfl) hvs rfl rfl
        · rename_i vs hne hvs
          cases hev
          refine key .normal fr' _ _ hr1 (.inl rfl) hvs rfl ?_
          split
          · rename_i vv; exact absurd rfl (hne vv)
          · rfl
        · cases hev
      · rename_i fr' h1 hr1
        split at hev
        · rename_i vv hvs; cases hev; exact key .ret fr' _ _ hr1 (.inr rfl) hvs rfl rfl
        · rename_i vs hne hvs
          cases hev
          refine key .ret fr' _ _ hr1 (.inr rfl) hvs rfl ?_
          split
          · rename_i vv; exact absurd rfl (hne vv)
          · rfl
        · cases hev
      · cases hev
    cases r with
    | none => exact goal
    | some l => exact CallsIn.inRound l goal

theorem putAll_rel : ∀ (ps : List Tmp) (args args' : List Value) (fr fr1 : Fr) (t : Array Value), putAll ps args fr = some fr1 → VRels ρ args args' → FrRelT ρ fr t →
    FrRelT ρ fr1 ((ps.toArray.zip args'.toArray).foldl (fun tmps (t, a) => tmps.setIfInBounds t a) t) ∧ args'.length = ps.length := by
  intro ps
  induction ps with
  | nil =>
    intro args args' fr fr1 t h ha hf
    cases args with
    | nil => simp only [putAll] at h; cases h; obtain rfl := ha.nil_inv; exact ⟨by simpa using hf, rfl⟩
    | cons _ _ => cases h
  | cons p ps ih =>
    intro args args' fr fr1 t h ha hf
    cases args with
    | nil => cases h
    | cons x args =>
      obtain ⟨y, r, rfl, hy, hr⟩ := ha.cons_inv
      simp only [putAll] at h
      have := ih args r (lset fr p x) fr1 (t.setIfInBounds p y) h hr (lset_rel hf p hy)
      refine ⟨?_, by simp [this.2]⟩
      have h1 := this.1
      rw [← Array.foldl_toList] at h1 ⊢
      simpa using h1

theorem evYield_ok {run : Code → Fr → Heap → Res} (hrun : RunOk P G run) : YieldSound P G (evYield run) := by
  intro l args h v h' hev ρ w args' k hr hb ha hk
  unfold evYield at hev
  split at hev
  · rename_i pe fr0 ps as body hget
    split at hev
    · rename_i fr hokc hput
      simp only [Bool.and_eq_true] at hokc
      rw [hb] at hokc
      split at hev
      · rename_i fr1 h1 has
        split at hev
        · rename_i pe1 fr01 ps1 as1 body1 hget1
          split at hev
          · rename_i e fr2 h2 hbody
            split at hev
            · rename_i st3 pe3 fr03 ps3 as3 body3 hget2
              cases hev
              obtain ⟨k', hk', hbr⟩ := hr.blk l _ hget (by trivial)
              rw [hk] at hk'; cases hk'
              obtain ⟨hsh, fn, tmps, dfr, hobj, hvt⟩ := hbr
              obtain ⟨hfr, hlen⟩ := putAll_rel ps args args' fr0 fr tmps hput ha hvt
              have hy := run_yield (P := P) (args := args'.toArray) hobj (by simpa using hlen)
              refine ⟨_, _, _, _, hy, fun r d => ?_⟩
              refine roundIn_of_wpIn trivial ?_
              refine hrun true as fr h .normal fr1 h1 hokc.1 has ρ { tmps := (ps.toArray.zip args'.toArray).foldl (fun tmps (t, a) => tmps.setIfInBounds t a) tmps, defers := [] } w (some k.block) d (.inl rfl) hr hb hfr _ fun a1 w1 hends => ?_
              obtain ⟨ρ1, rs1, e1, _, e3, _⟩ := hends
              obtain ⟨k1, hk1, hbr1⟩ := e3.rel.blk l _ hget1 (by trivial)
              have := e3.inj l k hk
              rw [hk1] at this; cases this
              obtain ⟨hsh1, fn1, tmps1, dfr1, hobj1, hvt1⟩ := hbr1
              have hbg := run_beginRound (P := P) hobj1 rfl
              refine ⟨_, hbg, ?_⟩
              have hlt1 : k.block < w1.heap.size := (Array.getElem?_eq_some_iff.1 hobj1).1
              have hg2 : Grow ρ1 h1 w1 ρ1 (h1.set l (.loop .busy pe1 fr01 ps1 as1 body1)) (w1.putObj k.block (.loop { state := .busy, pending := pe1, fn := fn1, tmps := tmps1, params := ps1.toArray, assign := as1, body := body1, defers := dfr1 })) :=
                grow_upd e3.rel hget1 (by trivial) hk1 rfl ⟨rfl, rfl, rfl⟩ fun _ => ⟨hsh1, fn1, tmps1, dfr1, World.putObj_heap_same hlt1, hvt1⟩
              refine hrun true body fr1 _ e fr2 h2 hokc.2 hbody ρ1 a1 _ (some k.block) d (.inl rfl) hg2.rel (by rw [hg2.base, e3.base]; exact hb) e1 _ fun a2 w2 hends2 => ?_
              obtain ⟨ρ2, rs2, _, _, f3, _⟩ := hends2
              obtain ⟨k2, hk2, hbr2⟩ := f3.rel.blk l _ hget2 (by trivial)
              have := f3.inj l k hk1
              rw [hk2] at this; cases this
              obtain ⟨hsh2, fn2, tmps2, dfr2, hobj2, hvt2⟩ := hbr2
              have hlt2 : k.block < w2.heap.size := (Array.getElem?_eq_some_iff.1 hobj2).1
              have hend := run_endRound (P := P) (jumpOf e) hobj2
              have hg4 : Grow ρ2 h2 w2 ρ2 (h2.set l (.loop (if (jumpOf e).isNone then .ready else .done) (jumpOf e) fr03 ps3 as3 body3)) (w2.putObj k.block (.loop { state := if (jumpOf e).isNone then .ready else .done, pending := jumpOf e, fn := fn2, tmps := tmps2, params := ps3.toArray, assign := as3, body := body3, defers := dfr2 })) :=
                grow_upd f3.rel hget2 (by trivial) hk2 rfl ⟨rfl, rfl, rfl⟩ fun _ => ⟨hsh2, fn2, tmps2, dfr2, World.putObj_heap_same hlt2, hvt2⟩
              have hR : ∃ v' ρ', Ending.returned (.bool (jumpOf e).isNone) = .returned v' ∧ VRel ρ' (.bool (jumpOf e).isNone) v' ∧ Grow ρ h w ρ' (h2.set l (.loop (if (jumpOf e).isNone then .ready else .done) (jumpOf e) fr03 ps3 as3 body3)) (w2.putObj k.block (.loop { state := if (jumpOf e).isNone then .ready else .done, pending := jumpOf e, fn := fn2, tmps := tmps2, params := ps3.toArray, assign := as3, body := body3, defers := dfr2 })) :=
                ⟨_, ρ2, rfl, .bool _, ((e3.trans hg2).trans f3).trans hg4⟩
              cases e with
              | normal => exact ⟨_, _, hend, hR⟩
              | exit id => exact ⟨_, _, hend, hR⟩
              | goto t => exact ⟨_, _, hend, hR⟩
              | ret => exact ⟨_, _, hend, hR⟩
            · cases hev
          · cases hev
        · cases hev
      · cases hev
    · cases hev
  · cases hev

/-- Contracts that are set in the place of functions. -/
def PrimOk (P : Program) (E : Env) (G : Nat) : Prop := ∀ f p, E.prim f = some p → CallSound P G (fun g args h => if g = f then (p args h).out.getD none else none)

def callAt (E : Env) (n : Nat) (f : FuncId) (args : List Value) (h : Heap) : Ans := match E.fn f with
  | some fn => evBody E (Go.Ab.run E n) fn args h
  | none => none

theorem sound_of_run (hE : EnvOk2 P E) (hF : FnsOk P E G) (hp : PrimOk P E G) {n : Nat} (hrun : RunOk P G (run E n)) : Sound P E G (callAt E n) (evYield (run E n)) where
  call := by
    intro f args h v h' hev ρ w args' hr hb ha r k
    unfold callAt at hev
    split at hev
    · rename_i fn hf
      exact evBody_ok hE.toEnvOk hF hrun hf hev hr hb ha r k
    · cases hev
  isFn := by
    intro f args h r hev
    unfold callAt at hev
    split at hev
    · rename_i fn hf; exact ⟨fn, hf⟩
    · cases hev
  yield := evYield_ok hrun
  prim := hp

theorem run_ok (hE : EnvOk2 P E) (hm : P.follows .mixedOrders = true) (hF : FnsOk P E G) (hp : PrimOk P E G) : ∀ n, RunOk P G (run E n) := by
  intro n
  induction n with
  | zero => intro rd c fr h e fr' h' _ hev; simp only [run] at hev; cases hev
  | succ n ih => exact evCode_ok hE hm (sound_of_run hE hF hp ih) ih n

/-- **What the evaluator says of a function is what the model does**, in whatever world in which the heap lies, on whatever tape. -/
theorem ev_sound (hE : EnvOk2 P E) (hm : P.follows .mixedOrders = true) (hF : FnsOk P E G) (hp : PrimOk P E G) (n : Nat) : CallSound P G (ev E n) :=
  (sound_of_run hE hF hp (run_ok hE hm hF hp n)).call
end
end Go.Ab
