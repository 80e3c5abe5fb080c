/-
  The abstract evaluator: one operation, calls among them, as the model's walk has it.
-/
import Derived.Test.YtjbhfehboajpcaaGreatDoorAbHeavy2
import Derived.RangeFuncCalls
namespace Go.Ab
open Go

/-- Every function, whatever depth; a round's frame, or none. -/
def wideR (r : Option Nat) : Fence := { Fence.wide with round := r }

structure EnvOk2 (P : Program) (E : Env) : Prop extends EnvOk P E where
  call : ∀ f fn, E.fn f = some fn → ∀ args w, (callFunc f args).run P w = .ok (.enter f args) w
  ext : ∀ f k, E.ext f = some k → ∀ args w, (callFunc f args).run P w = (do pure (Next.value (← extSem k args)) : Sem Next).run P w
  primCall : ∀ f p, E.prim f = some p → ∀ args w, (callFunc f args).run P w = .ok (.enter f args) w

section
variable {P : Program} {E : Env}

/-- What is known of a call, from what the evaluator says of it. -/
def CallSound (P : Program) (G : Nat) (cf : FuncId → List Value → Heap → Ans) : Prop :=
  ∀ f args h v h', cf f args h = some (v, h') → ∀ ρ w args', HRel ρ h w → h.base = G → VRels ρ args args' →
    ∀ r k, CallsIn (wideR r) k P f args'.toArray w fun e w' => ∃ v' ρ', e = .returned v' ∧ VRel ρ' v v' ∧ Grow ρ h w ρ' h' w'

def YieldSound (P : Program) (G : Nat) (yl : Nat → List Value → Heap → Ans) : Prop :=
  ∀ l args h v h', yl l args h = some (v, h') → ∀ ρ w args' k, HRel ρ h w → h.base = G → VRels ρ args args' → ρ l = some k →
    ∃ fn tmps assign body, (Instr.yield k.block args'.toArray).run P w = .ok (.round k.block fn tmps assign body) w ∧
      ∀ r d, RoundIn (wideR r) d P k.block fn tmps assign body w fun e w' => ∃ v' ρ', e = .returned v' ∧ VRel ρ' v v' ∧ Grow ρ h w ρ' h' w'

structure Sound (P : Program) (E : Env) (G : Nat) (cf : FuncId → List Value → Heap → Ans) (yl : Nat → List Value → Heap → Ans) : Prop where
  call : CallSound P G cf
  isFn : ∀ f args h r, cf f args h = some r → ∃ fn, E.fn f = some fn
  yield : YieldSound P G yl
  prim : ∀ f p, E.prim f = some p → CallSound P G (fun g args h => if g = f then (p args h).out.getD none else none)

/-- An operation's end: whatever value and world it comes to. -/
def Then (P : Program) (r : Option Nat) (d : Nat) (o : Oper) (a : Act) (w : World) (ρ : Inj) (h : Heap) (v : Value) (h' : Heap) : Prop :=
  ∀ (K : Act → World → Prop) (Q : Exit → Act → World → Prop), (∀ v' ρ' w', VRel ρ' v v' → Grow ρ h w ρ' h' w' → K (a.put o.dst v') w') → o.wpIn (wideR r) d P a w K Q

variable {ρ : Inj} {h : Heap} {w : World}

theorem wpIn_of_run {r : Option Nat} {d : Nat} {o : Oper} {a : Act} (hnd : ∀ c, o.op ≠ .defer c) {K : Act → World → Prop} {Q : Exit → Act → World → Prop} (hu : o.uponIn (wideR r) d P a K Q ((execOp a.eval o).run P w)) : o.wpIn (wideR r) d P a w K Q :=
  ⟨fun _ _ => trivial, by rw [show (wideR r).round = r from rfl, Oper.semAt_eq r a.eval o hnd]; exact hu⟩

theorem then_value {r : Option Nat} {d : Nat} {o : Oper} {a : Act} {v v' : Value} {ρ' : Inj} {h' : Heap} {w' : World} (hnd : ∀ c, o.op ≠ .defer c) (hrun : (execOp a.eval o).run P w = .ok (.value v') w') (hv : VRel ρ' v v') (hg : Grow ρ h w ρ' h' w') : Then P r d o a w ρ h v h' := by
  intro K Q hk
  refine wpIn_of_run hnd ?_
  rw [hrun, Oper.uponIn_value]
  exact hk v' ρ' w' hv hg

theorem then_skip {r : Option Nat} {d : Nat} {o : Oper} {a : Act} {ρ' : Inj} {h' : Heap} {w' : World} (hnd : ∀ c, o.op ≠ .defer c) (hrun : (execOp a.eval o).run P w = .ok .skip w') (hg : Grow ρ h w ρ' h' w') : Then P r d o a w ρ h undef h' := by
  intro K Q hk
  refine wpIn_of_run hnd ?_
  rw [hrun, Oper.uponIn_skip]
  exact hk undef ρ' w' VRel.undef hg

theorem then_enter {r : Option Nat} {d : Nat} {o : Oper} {a : Act} {v : Value} {h' : Heap} {f : FuncId} {args : Array Value} (hnd : ∀ c, o.op ≠ .defer c) (hrun : (execOp a.eval o).run P w = .ok (.enter f args) w)
    (hc : CallsIn (wideR r) (d - 1) P f args w fun e w' => ∃ v' ρ', e = .returned v' ∧ VRel ρ' v v' ∧ Grow ρ h w ρ' h' w') : Then P r d o a w ρ h v h' := by
  intro K Q hk
  refine wpIn_of_run hnd ?_
  rw [hrun, Oper.uponIn_enter]
  refine ⟨fun hh => by simp [wideR, Fence.wide] at hh, hc.mono ?_⟩
  rintro e w' ⟨v', ρ', rfl, hv, hg⟩
  exact hk v' ρ' w' hv hg

theorem then_round {r : Option Nat} {d : Nat} {o : Oper} {a : Act} {v : Value} {h' : Heap} {l : Nat} {f : FuncId} {tmps : Array Value} {as body : Code} (hnd : ∀ c, o.op ≠ .defer c) (hrun : (execOp a.eval o).run P w = .ok (.round l f tmps as body) w)
    (hc : RoundIn (wideR r) (d - 1) P l f tmps as body w fun e w' => ∃ v' ρ', e = .returned v' ∧ VRel ρ' v v' ∧ Grow ρ h w ρ' h' w') : Then P r d o a w ρ h v h' := by
  intro K Q hk
  refine wpIn_of_run hnd ?_
  rw [hrun, Oper.uponIn_round]
  refine ⟨fun hh => by simp [wideR, Fence.wide] at hh, hc.mono ?_⟩
  rintro e w' ⟨v', ρ', rfl, hv, hg⟩
  exact hk v' ρ' w' hv hg

/-- A call of a function by its number. -/
theorem evCallFn_rel (hE : EnvOk2 P E) {G : Nat} {cf : FuncId → List Value → Heap → Ans} {yl : Nat → List Value → Heap → Ans} (hs : Sound P E G cf yl) (hr : HRel ρ h w) (hb : h.base = G) {f : FuncId} {args args' : List Value} (ha : VRels ρ args args') {v : Value} {h' : Heap}
    (hv : evCallFn E cf f args h = some (v, h')) {r : Option Nat} {d : Nat} {o : Oper} {a : Act} (hnd : ∀ c, o.op ≠ .defer c) (hrun : (execOp a.eval o).run P w = (callFunc f args'.toArray).run P w) : Then P r d o a w ρ h v h' := by
  unfold evCallFn at hv
  split at hv
  · rename_i x hx
    subst hv
    unfold primOf at hx
    split at hx
    · rename_i p hp
      refine then_enter hnd (by rw [hrun, hE.primCall f p hp]) ?_
      exact hs.prim f p hp f args h v h' (by simp [hx]) ρ w args' hr hb ha r (d - 1)
    · cases hx
  · split at hv
    · rename_i k hk
      obtain ⟨v', ρ', w', hvv, hrun2, hg⟩ := extern_rel (P := P) hE.toEnvOk hr ha hv
      exact then_value hnd (by rw [hrun, hE.ext f k hk]; simp [hrun2]) hvv hg
    · obtain ⟨fn, hfn⟩ := hs.isFn f args h _ hv
      refine then_enter hnd (by rw [hrun, hE.call f fn hfn]) ?_
      exact hs.call f args h v h' hv ρ w args' hr hb ha r (d - 1)

theorem methodOf_rel (hE : EnvOk P E) (hr : HRel ρ h w) {t : TypeId} {x x' : Value} {name : String} {g : FuncId} {rc : Value} (hx : VRel ρ x x') (hm : methodOf E h t x name = some (g, rc)) (n : Nat) :
    ∃ rc', VRel ρ rc rc' ∧ (method (n + 1) t x' name).run P w = .ok (g, rc') w := by
  unfold methodOf at hm
  split at hm
  · rename_i i hi
    split at hm
    · rename_i m hfm
      split at hm
      · rename_i hp
        have hpath : m.path = #[] := Array.eq_empty_of_size_eq_zero hp
        have hfind : i.methods.find? (fun m => m.name == name) = some m := by
          rw [← Array.find?_toList]; exact hfm
        have hinfo : (typeInfo t).run P w = .ok i w := by simp [typeInfo, hE.info _ _ hi]
        split at hm
        · rename_i f e hf hu
          cases hm
          refine ⟨x', hx, ?_⟩
          simp only [method, Sem.run_bind, hinfo, Result.andThen_ok, hfind, hpath, follow, Sem.run_pure, hf, receiverAt, run_und hE hu, Place.get]
        · cases hm
        · rename_i f e hf hu
          split at hm
          · rename_i y hy
            cases hm
            cases hx with
            | ptr hk =>
              obtain ⟨v', hv', hrun⟩ := load_rel (P := P) hE hr (.ptr hk) hy
              refine ⟨v', hv', ?_⟩
              simp only [Instr.loadAt, Instr.sureAddr, Sem.run_bind, Sem.run_pure, Result.andThen_ok] at hrun
              have hchk : ∀ (ts : Array TypeId) (tt : TypeId) (a : Addr) (n : String), Builtin.ssaWrapNilChk_ ts tt #[.pointer (some a), strVal "", strVal n] = pure (.pointer (some a)) := fun _ _ _ _ => rfl
              simp only [method, Sem.run_bind, hinfo, Result.andThen_ok, hfind, hpath, follow, Sem.run_pure, hf, receiverAt, run_und hE hu, Place.get, Array.isEmpty_empty, if_true, hchk, asAddr, hrun]
            | _ => simp [load] at hy
          · cases hm
        · rename_i f d hnp hf hu
          cases hm
          refine ⟨x', hx, ?_⟩
          simp only [method, Sem.run_bind, hinfo, Result.andThen_ok, hfind, hpath, follow, Sem.run_pure, hf, receiverAt, run_und hE hu, Place.get]
        · cases hm
      · cases hm
    · cases hm
  · cases hm

theorem toArr (l : List Value) (a : Array Value) (h : a.toList = l) : a = l.toArray := by subst h; simp

/-- A call of a function value. -/
theorem evInvoke_rel (hE : EnvOk2 P E) {G : Nat} {cf : FuncId → List Value → Heap → Ans} {yl : Nat → List Value → Heap → Ans} (hs : Sound P E G cf yl) (hr : HRel ρ h w) (hb : h.base = G) {f f' : Value} {args args' : List Value} (hf : VRel ρ f f') (ha : VRels ρ args args') {v : Value} {h' : Heap}
    (hv : evInvoke E cf yl f args h = some (v, h')) {r : Option Nat} {d : Nat} {o : Oper} {a : Act} (hnd : ∀ c, o.op ≠ .defer c)
    (hrun : (execOp a.eval o).run P w = (do let d ← Deferred.ofValue f' args'.toArray; invoke d.target d.args : Sem Next).run P w) : Then P r d o a w ρ h v h' := by
  unfold evInvoke at hv
  split at hv
  · rename_i g first cap
    cases hf with
    | func hny hsa hsb ea eb =>
      rename_i first' cap'
      have h1 : VRels ρ first.toList first'.toList := ⟨by simpa using hsa, fun i x y hx hy => ea i x y (by simpa using hx) (by simpa using hy)⟩
      have h2 : VRels ρ cap.toList cap'.toList := ⟨by simpa using hsb, fun i x y hx hy => eb i x y (by simpa using hx) (by simpa using hy)⟩
      refine evCallFn_rel hE hs hr hb ((h1.append ha).append h2) hv hnd ?_
      rw [hrun]
      simp only [Deferred.ofValue, Sem.run_bind, Sem.run_pure, Result.andThen_ok, invoke]
      rw [toArr (first'.toList ++ args' ++ cap'.toList) (first' ++ args'.toArray ++ cap') (by simp)]
  · rename_i l first cap
    cases hf with
    | func hny _ _ _ _ => exact absurd rfl (hny l)
    | yield hk h0 =>
      simp only [List.nil_append] at hv
      obtain ⟨fn, tmps, as, body, hy, hround⟩ := hs.yield l args h v h' (by simpa using hv) ρ w args' _ hr hb ha hk
      refine then_round hnd ?_ (hround r (d - 1))
      rw [hrun]
      simp only [Deferred.ofValue, Sem.run_bind, Sem.run_pure, Result.andThen_ok, invoke]
      rw [← hy]; simp
  · rename_i name first cap
    cases hf with
    | func hny hsa hsb ea eb =>
      rename_i first' cap'
      have h1 : VRels ρ first.toList first'.toList := ⟨by simpa using hsa, fun i x y hx hy => ea i x y (by simpa using hx) (by simpa using hy)⟩
      have hall := h1.append ha
      split at hv
      · rename_i t x rest heq
        rw [heq] at hall
        obtain ⟨y, rest', heq', hy, hrest⟩ := hall.cons_inv
        split at hv
        · rename_i g rc hm
          cases hy with
          | iface hxy =>
            rename_i x1
            obtain ⟨rc', hrc, hmr⟩ := methodOf_rel (P := P) hE.toEnvOk hr hxy hm ((P.types.size + Made.depth) - 1)
            refine evCallFn_rel hE hs hr hb (.cons hrc hrest) hv hnd ?_
            rw [hrun]
            have hargs : (first' ++ args'.toArray) = (Value.iface t _ :: rest').toArray := toArr _ _ (by simpa using heq')
            simp only [Deferred.ofValue, Sem.run_bind, Sem.run_pure, Result.andThen_ok, invoke, hargs]
            have hm2 : (method (P.types.size + Made.depth) t x1 name).run P w = .ok (g, rc') w := by
              have : P.types.size + Made.depth - 1 + 1 = P.types.size + Made.depth := by unfold Made.depth; omega
              rw [← this]; exact hmr
            simp [callMethod, hm2]
        · cases hv
      · cases hv
  · cases hv

theorem evHeavy_then (hE : EnvOk2 P E) {G : Nat} {cf : FuncId → List Value → Heap → Ans} {yl : Nat → List Value → Heap → Ans} (hs : Sound P E G cf yl) (hr : HRel ρ h w) (hb : h.base = G) {fr : Fr} {a : Act} (hf : FrRel ρ fr a) {o : Oper} (ho : okOp h.base o.op = true) {v : Value} {h' : Heap}
    (hv : evHeavy E cf yl fr h o.op = some (v, h')) (r : Option Nat) (d : Nat) : Then P r d o a w ρ h v h' := by
  obtain ⟨dst, op, type, pos, after, guard⟩ := o
  have hop : ∀ x ∈ op.operands.toList, okOpnd h.base x = true := List.all_eq_true.1 ho
  have hvr : ∀ x ∈ op.operands.toList, VRel ρ (val fr x) (a.eval x) := fun x hx => val_rel hr hf (hop x hx)
  unfold evHeavy at hv
  dsimp only at hv
  split at hv
  · rename_i t x y
    split at hv
    · rename_i h1 hst
      cases hv
      obtain ⟨w', hrun, hg⟩ := store_rel (P := P) hE.toEnvOk hr (hvr x (by simp [Op.operands])) (hvr y (by simp [Op.operands])) hst
      exact then_skip (by simp) (by simp [execOp, hrun]) hg
    · cases hv
  · rename_i t m k x
    split at hv
    · rename_i h1 hst
      cases hv
      obtain ⟨w', hrun, hg⟩ := mapPut_rel (P := P) hE.toEnvOk hr (hvr m (by simp [Op.operands])) (hvr k (by simp [Op.operands])) (hvr x (by simp [Op.operands])) hst
      exact then_skip (by simp) (by simp [execOp, hrun]) hg
    · cases hv
  · rename_i t m k x
    split at hv
    · rename_i h1 hst
      cases hv
      obtain ⟨w', hrun, hg⟩ := mapPut_rel (P := P) hE.toEnvOk hr (hvr m (by simp [Op.operands])) (hvr k (by simp [Op.operands])) (hvr x (by simp [Op.operands])) hst
      exact then_skip (by simp) (by simp [execOp, hrun]) hg
    · cases hv
  · rename_i t m k
    obtain ⟨v', w', hvv, hrun, hg⟩ := mapEntry_rel (P := P) hE.toEnvOk hr (hvr m (by simp [Op.operands])) (hvr k (by simp [Op.operands])) hv
    exact then_value (by simp) (by simp [execOp, hrun]) hvv hg
  · rename_i t m s x
    split at hv
    · rename_i h1 hst
      cases hv
      obtain ⟨w', hrun, hg⟩ := entryStore_rel (P := P) (t := t) hr (hvr m (by simp [Op.operands])) (hvr s (by simp [Op.operands])) (hvr x (by simp [Op.operands])) hst
      exact then_skip (by simp) (by simp [execOp, hrun]) hg
    · cases hv
  · rename_i s dd x
    obtain ⟨v', w', hvv, hrun, hg⟩ := convertHeavy_rel (P := P) hE.toEnvOk hr (hvr x (by simp [Op.operands])) hv
    exact then_value (by simp) (by simp [execOp, hrun]) hvv hg
  · rename_i t x
    split at hv
    · rename_i s hu hx
      cases hv
      have hxr := hvr x (by simp [Op.operands])
      rw [hx] at hxr
      generalize hq : a.eval x = q at hxr
      cases hxr
      obtain ⟨v', ρ', w', hvv, hrun, hg⟩ := range_rel (P := P) (s := s) hE.toEnvOk hr hu
      exact then_value (by simp) (by simp [execOp, hq, hrun]) hvv hg
    · cases hv
  · rename_i it
    split at hv
    · rename_i b hx
      have hxr := hvr it (by simp [Op.operands])
      rw [hx] at hxr
      split at hv
      · rename_i s p hg
        split at hv
        · rename_i hlt
          cases hv
          obtain ⟨w', hrun, hgr⟩ := next_rel (P := P) (ty := type) hr hxr hg hlt
          exact then_value (v' := .tuple #[.bool true, .int .i64 p, .int .i32 (Utf8.decode s p).1]) (by simp) (by simp only [execOp, Sem.run_bind, hrun]; rfl) (VRels.toTuple (by simp; exact .cons (.bool _) (.cons (.int _ _) (.cons (.int _ _) .nil)))) hgr
        · rename_i hlt
          cases hv
          have hrun := next_over (P := P) (ty := type) hr hxr hg hlt
          exact then_value (v' := .tuple #[.bool false]) (by simp) (by simp only [execOp, Sem.run_bind, hrun]; rfl) (VRels.toTuple (by simp; exact .cons (.bool _) .nil)) (.refl hr)
      · cases hv
    · cases hv
  · -- calls
    rename_i c
    obtain ⟨callee, args, ats⟩ := c
    dsimp only at hv
    have hargs : ∀ x ∈ args.toList, x ∈ (Op.call ⟨callee, args, ats⟩).operands.toList := fun x hx => by
      simp [Op.operands, Call.operands]; right; simpa using hx
    have hl := vals_rel hr hf args.toList (fun x hx => hop x (hargs x hx))
    have hmap : args.map a.eval = (args.toList.map a.eval).toArray := Array.toList_inj.1 (by simp)
    split at hv
    · rename_i f
      refine evInvoke_rel hE hs hr hb (hvr f (by simp [Op.operands, Call.operands])) hl hv (by simp) ?_
      simp only [execOp, resolve, hmap]
    · rename_i rcv name
      split at hv
      · rename_i t x hx
        have hxr := hvr rcv (by simp [Op.operands, Call.operands])
        rw [hx] at hxr
        split at hv
        · rename_i g rc hm
          generalize hq : a.eval rcv = q at hxr
          cases hxr with
          | iface hxy =>
            rename_i x1
            obtain ⟨rc', hrc, hmr⟩ := methodOf_rel (P := P) hE.toEnvOk hr hxy hm ((P.types.size + Made.depth) - 1)
            refine evCallFn_rel hE hs hr hb (.cons hrc hl) hv (by simp) ?_
            have hm2 : (method (P.types.size + Made.depth) t x1 name).run P w = .ok (g, rc') w := by
              have : P.types.size + Made.depth - 1 + 1 = P.types.size + Made.depth := by unfold Made.depth; omega
              rw [← this]; exact hmr
            simp only [execOp, resolve, hmap, Sem.run_bind, Sem.run_pure, Result.andThen_ok, invoke, hq]
            simp [callMethod, hm2]
            rw [List.take_of_length_le (by simp)]
        · cases hv
      · cases hv
    · split at hv
      · rename_i st s x h0 h1 h2
        obtain ⟨v', ρ', w', hvv, hrun, hg⟩ := append_rel (P := P) (ty := type) (ats := ats) (args := args.map a.eval) hE.toEnvOk hr h0 (by simp [h1]) (by simp [h2]) (hvr s (hargs s (by simpa using Array.mem_of_getElem? h1))) (hvr x (hargs x (by simpa using Array.mem_of_getElem? h2))) hv
        exact then_value (by simp) (by simp only [execOp, resolve, Sem.run_bind, Sem.run_pure, Result.andThen_ok, invoke, builtin, hrun]) hvv hg
      · cases hv
    · split at hv
      · rename_i st s x h0 h1 h2
        obtain ⟨w', hvv, hrun, hg⟩ := copy_rel (P := P) (ty := type) (ats := ats) (args := args.map a.eval) hE.toEnvOk hr h0 (by simp [h1]) (by simp [h2]) (hvr s (hargs s (by simpa using Array.mem_of_getElem? h1))) (hvr x (hargs x (by simpa using Array.mem_of_getElem? h2))) hv
        exact then_value (by simp) (by simp only [execOp, resolve, Sem.run_bind, Sem.run_pure, Result.andThen_ok, invoke, builtin, hrun]) hvv hg
      · cases hv
    · -- where a slice's memory begins
      split at hv
      · rename_i s hl1
        split at hv
        · rename_i v1 h1
          cases hv
          obtain ⟨v', hvv, hrun⟩ := sliceData_rel (P := P) (w := w) (ats := ats) (ty := type) (hvr s (hargs s (by rw [hl1]; simp))) h1
          have hm2 : args.map a.eval = #[a.eval s] := by rw [hmap, hl1]; rfl
          exact then_value (by simp) (by simp only [execOp, resolve, Sem.run_bind, Sem.run_pure, Result.andThen_ok, invoke, builtin, hm2, hrun]) hvv (.refl hr)
        · cases hv
      · cases hv
    · split at hv
      · rename_i t p n h0 hl1
        obtain ⟨v', w', hvv, hrun, hg⟩ := textAt_rel (P := P) (ty := type) (ats := ats) hE.toEnvOk hr h0 (hvr p (hargs p (by rw [hl1]; simp))) (hvr n (hargs n (by rw [hl1]; simp))) hv
        have hm2 : args.map a.eval = #[a.eval p, a.eval n] := by rw [hmap, hl1]; rfl
        exact then_value (by simp) (by simp only [execOp, resolve, Sem.run_bind, Sem.run_pure, Result.andThen_ok, invoke, builtin, hm2, hrun]) hvv hg
      · cases hv
    · split at hv
      · rename_i st s h0 h1
        split at hv
        · rename_i h2 hcl
          cases hv
          obtain ⟨w', hrun, hg⟩ := clear_rel (P := P) (ty := type) (ats := ats) (args := args.map a.eval) hE.toEnvOk hr h0 (by simp [h1]) (hvr s (hargs s (by simpa using Array.mem_of_getElem? h1))) hcl
          exact then_value (v' := .tuple #[]) (by simp) (by simp only [execOp, resolve, Sem.run_bind, Sem.run_pure, Result.andThen_ok, invoke, builtin, hrun]) (VRels.toTuple .nil) hg
        · cases hv
      · cases hv
    · cases hv
  · cases hv

theorem notDefer_read {fr : Fr} {h : Heap} {o : Op} {v : Value} (hv : evRead E fr h o = some v) : ∀ c, o ≠ .defer c := fun c e => by
  subst e; simp [evRead] at hv
theorem notDefer_light {fr : Fr} {id : Nat} {o : Op} {v : Value × Blk} (hv : evLight E fr id o = some v) : ∀ c, o ≠ .defer c := fun c e => by
  subst e; simp [evLight] at hv

/-- One operation, in the order of the text. -/
theorem evOp_then (hE : EnvOk2 P E) {G : Nat} {cf : FuncId → List Value → Heap → Ans} {yl : Nat → List Value → Heap → Ans} (hs : Sound P E G cf yl) (hr : HRel ρ h w) (hb : h.base = G) {fr : Fr} {a : Act} (hf : FrRel ρ fr a) {o : Oper} (ho : okOp h.base o.op = true) {v : Value} {h' : Heap}
    (hv : evOp E cf yl fr h o.op = some (v, h')) (r : Option Nat) (d : Nat) : Then P r d o a w ρ h v h' := by
  unfold evOp at hv
  split at hv
  · exact evHeavy_then hE hs hr hb hf ho hv r d
  · split at hv
    · rename_i v1 b hl
      cases hv
      obtain ⟨v', w', obj, l, hrun, hw, hsr, hlb, hrw, hrel⟩ := evLight_rel (P := P) hE.toEnvOk hr hf ho hl
      have hle := Inj.le_upd (l := l) (hr.fresh h.next (Nat.le_refl _))
      obtain ⟨h1, h2⟩ := hrel (ρ.upd h.next l) hle (Inj.upd_same _ _ _)
      exact then_value (notDefer_light hl) hrun h1 (grow_new hr hlb hw hsr h2 (evLight_plain hl))
    · cases hv
  · split at hv
    · rename_i v1 hl
      cases hv
      obtain ⟨v', h1, hrun⟩ := evRead_rel (P := P) hE.toEnvOk hr hf ho hl
      exact then_value (notDefer_read hl) hrun h1 (.refl hr)
    · cases hv
end
end Go.Ab
