/-
  The abstract evaluator: operations that only reckon or read.
-/
import Derived.Test.YtjbhfehboajpcaaGreatDoorAbMem
import Derived.Laws.StructEq
namespace Go.Ab
open Go

section
variable {P : Program} {E : Env} {ρ : Inj} {h : Heap} {w : World}

theorem part_rel (hE : EnvOk P E) {t : TypeId} {cs cs' : Array Value} {off : Nat} {v : Value} (hc : VRels ρ cs.toList cs'.toList) (hp : part E t cs.toList off = some v) :
    ∃ v', VRel ρ v v' ∧ ∀ w, (Go.part t cs' off).run P w = .ok v' w := by
  unfold part at hp
  split at hp
  · rename_i n hn
    split at hp
    · rename_i ha
      obtain ⟨d, hu⟩ := isAgg_und ha
      cases hp
      refine ⟨.agg (cs'.extract off (off + n)), VRels.toAgg ?_, fun w => ?_⟩
      · have := (hc.drop off).take n
        simpa [List.extract_eq_take_drop] using this
      · simp [Go.part, run_isAgg hE hu, ha, run_size hE hn]
    · rename_i ha
      split at hp
      · cases hp
      · rename_i d hu
        obtain ⟨y, hy, hv⟩ := hc.get hp
        refine ⟨y, hv, fun w => ?_⟩
        have : cs'[off]? = some y := by simpa using hy
        simp [Go.part, run_isAgg hE hu, ha, this]
  · cases hp

theorem fieldOf_spec (hE : EnvOk P E) {t : TypeId} {f : Nat} {fd : Field} (hf : fieldOf E t f = some fd) : ∃ fs, P.underlying t = some (.struct fs) ∧ fs[f]? = some fd := by
  unfold fieldOf at hf
  split at hf
  · rename_i fs hu; exact ⟨fs, hE.und _ _ hu, hf⟩
  · cases hf

theorem run_fieldPlace (hE : EnvOk P E) {fd : Field} {n b o : Nat} (hn : size E fd.type = some (n + 1)) (w : World) :
    (fieldPlace ⟨b, o, none⟩ fd).run P w = .ok ⟨b, o + fd.offset, none⟩ w := by
  simp [fieldPlace, run_size hE hn, add_none]

theorem fieldAddr_rel (hE : EnvOk P E) {t : TypeId} {x x' v : Value} {f : Nat} (hx : VRel ρ x x') (hv : fieldAddr E t x f = some v) :
    ∃ v', VRel ρ v v' ∧ ∀ w, (Instr.fieldAt t x' f).run P w = .ok v' w := by
  unfold fieldAddr at hv
  split at hv
  · rename_i fd b o hf
    obtain ⟨fs, hu, hfd⟩ := fieldOf_spec hE hf
    split at hv
    · cases hv
    · rename_i n hn0 hn
      cases hv
      cases hx with
      | ptr hk =>
        obtain ⟨m, rfl⟩ : ∃ m, n = m + 1 := ⟨n - 1, by have : n ≠ 0 := fun e => hn0 e; omega⟩
        refine ⟨_, .ptr hk, fun w => ?_⟩
        simp [Instr.fieldAt, run_underlying hu, hfd, Instr.sureAddr, run_fieldPlace hE hn, Nat.add_assoc]
    · cases hv
  · cases hv

theorem field_rel (hE : EnvOk P E) {t : TypeId} {x x' v : Value} {f : Nat} (hx : VRel ρ x x') (hv : field E t x f = some v) :
    ∃ v', VRel ρ v v' ∧ ∀ w, (Instr.field t x' f).run P w = .ok v' w := by
  unfold field at hv
  split at hv
  · rename_i fd cs hf
    obtain ⟨fs, hu, hfd⟩ := fieldOf_spec hE hf
    obtain ⟨cs', rfl, hcs⟩ := hx.agg_inv
    obtain ⟨v', hv', hrun⟩ := part_rel hE hcs hv
    exact ⟨v', hv', fun w => by simp [Instr.field, run_underlying hu, hfd, asAgg, hrun]⟩
  · cases hv

theorem indexAddr_rel (hE : EnvOk P E) {t : TypeId} {x x' i i' v : Value} (hx : VRel ρ x x') (hi : VRel ρ i i') (hv : indexAddr E t x i = some v) :
    ∃ v', VRel ρ v v' ∧ ∀ w, (Instr.indexAt t x' i').run P w = .ok v' w := by
  unfold indexAddr at hv
  split at hv
  · rename_i e b o len c k n hu
    split at hv
    · rename_i hb
      split at hv
      · rename_i s hs
        cases hv
        cases hi
        cases hx with
        | slice hk hc => exact ⟨_, .ptr hk, fun w => by simp [Instr.indexAt, asIntOf, run_und hE hu, hb.1, hb.2, run_size hE hs, add_none, Nat.add_assoc]⟩
        | fuzzy hk hn hc => exact ⟨_, .ptr hk, fun w => by simp [Instr.indexAt, asIntOf, run_und hE hu, hb.1, hb.2, run_size hE hs, add_none, Nat.add_assoc]⟩
        | fuzzyEnd => simp at hb; omega
        | emptyEnd => simp at hb; omega
      · cases hv
    · cases hv
  · rename_i len e b o k n hu
    split at hv
    · rename_i hb
      split at hv
      · rename_i s hs
        cases hv
        cases hi
        cases hx with
        | ptr hk => exact ⟨_, .ptr hk, fun w => by simp [Instr.indexAt, Instr.sureAddr, asIntOf, run_und hE hu, hb.1, hb.2, run_size hE hs, add_none, Nat.add_assoc]⟩
      · cases hv
    · cases hv
  · cases hv

theorem index_rel (hE : EnvOk P E) {t : TypeId} {x x' i i' v : Value} (hx : VRel ρ x x') (hi : VRel ρ i i') (hv : index E t x i = some v) :
    ∃ v', VRel ρ v v' ∧ ∀ w, (Instr.index t x' i').run P w = .ok v' w := by
  unfold index at hv
  split at hv
  · rename_i len e cs k n hu
    split at hv
    · rename_i hb
      split at hv
      · rename_i s hs
        cases hi
        obtain ⟨cs', rfl, hcs⟩ := hx.agg_inv
        obtain ⟨v', hv', hrun⟩ := part_rel hE hcs hv
        exact ⟨v', hv', fun w => by simp [Instr.index, asIntOf, run_und hE hu, hb.1, hb.2, run_size hE hs, hrun]⟩
      · cases hv
    · cases hv
  · rename_i s k n hu
    split at hv
    · rename_i hb
      split at hv
      · rename_i c hc
        cases hv
        cases hi
        cases hx
        refine ⟨_, .int _ _, fun w => ?_⟩
        have h1 : s[n.toNat]? = some c := by
          have h2 : n.toNat < s.data.toList.length := (List.getElem?_eq_some_iff.1 hc).1
          have h3 : n.toNat < s.size := by simpa using h2
          have h4 : s.data.toList[n.toNat] = c := (List.getElem?_eq_some_iff.1 hc).2
          rw [getElem?_pos s n.toNat h3]
          congr 1
        simp [Instr.index, asIntOf, run_und hE hu, hb, h1]
      · cases hv
    · cases hv
  · cases hv

theorem bool_of_rel {b : Bool} {v : Value} (hv : VRel ρ (.bool b) v) : v = .bool b := by cases hv; rfl
theorem int_of_rel {k : IntKind} {n : Int} {v : Value} (hv : VRel ρ (.int k n) v) : v = .int k n := by cases hv; rfl

theorem nilCheck_rel {x x' v : Value} {o : Oper} {a : Act} {y : Operand} (hx : VRel ρ x x') (ho : o.op = .nilCheck y) (he : a.eval y = x') (hv : nilCheck x = some v) :
    ∃ v', VRel ρ v v' ∧ ∀ w, (execOp a.eval o).run P w = .ok (.value v') w := by
  subst he
  unfold nilCheck at hv
  split at hv
  · cases hv
    generalize hg : a.eval y = x' at hx
    cases hx with
    | ptr hk => exact ⟨_, .ptr hk, fun w => by simp [execOp, ho, hg]⟩
  · cases hv
    generalize hg : a.eval y = x' at hx
    cases hx with
    | func hf ha hb ea eb => exact ⟨_, .func hf ha hb ea eb, fun w => by simp [execOp, ho, hg]⟩
  · cases hv
    generalize hg : a.eval y = x' at hx
    cases hx with
    | iface hh => exact ⟨_, .iface hh, fun w => by simp [execOp, ho, hg]⟩
  · cases hv

/-! ### Equality -/
theorem allEq_rel (hE : EnvOk P E) {d D : Nat} {xs ys xs' ys' : Array Value} (hx : VRels ρ xs.toList xs'.toList) (hy : VRels ρ ys.toList ys'.toList)
    (heq : ∀ t x y x' y' b, VRel ρ x x' → VRel ρ y y' → eqIn E d t x y = some b → ∀ w, (Op.equalIn D t x' y').run P w = .ok b w) :
    ∀ (fs : List Field) (b : Bool), allEq E (eqIn E d) xs.toList ys.toList fs = some b → ∀ w, (Op.eqFields D xs' ys' fs).run P w = .ok b w := by
  intro fs
  induction fs with
  | nil => intro b hb w; simp [allEq] at hb; subst hb; simp [Op.eqFields]
  | cons f fs ih =>
    intro b hb w
    simp only [allEq] at hb
    split at hb
    · rename_i hn
      simp only [Op.eqFields, hn]
      simpa using ih b hb w
    · rename_i hn
      split at hb
      · rename_i x y hpx hpy
        obtain ⟨x', hx', rx⟩ := part_rel hE hx hpx
        obtain ⟨y', hy', ry⟩ := part_rel hE hy hpy
        split at hb
        · rename_i he
          have := heq _ _ _ _ _ _ hx' hy' he
          simp only [Op.eqFields]
          rw [if_pos hn]
          simp [rx, ry, this, ih b hb w]
        · rename_i he
          cases hb
          have := heq _ _ _ _ _ _ hx' hy' he
          simp only [Op.eqFields]
          rw [if_pos hn]
          simp [rx, ry, this]
        · cases hb
      · cases hb

def eqArr (D : Nat) (e : TypeId) (n : Nat) (xs ys : Array Value) : (count i : Nat) → Sem Bool
  | 0, _ => pure true
  | c + 1, i => do
    let a ← Go.part e xs (i * n)
    let b ← Go.part e ys (i * n)
    let r ← Op.equalIn D e a b
    if (!r) = true then pure false else eqArr D e n xs ys c (i + 1)

theorem run_equalIn_array (D : Nat) (t e : TypeId) (len n : Nat) (xs ys : Array Value) (ht : P.underlying t = some (.array len e)) (hn : ∀ w, (sizeOf e).run P w = .ok n w) (w : World) :
    (Op.equalIn (D + 1) t (.agg xs) (.agg ys)).run P w = (eqArr D e n xs ys len 0).run P w := by
  simp only [Op.equalIn, Sem.run_bind, run_underlying ht, Result.andThen_ok, hn]
  rw [Std.Legacy.Range.forIn_eq_forIn_range']
  simp only [Std.Legacy.Range.size, Nat.sub_zero, Nat.add_sub_cancel, Nat.div_one]
  generalize 0 = i
  clear ht
  induction len generalizing i w with
  | zero => simp [eqArr]
  | succ c ih =>
    simp only [List.range'_succ, List.forIn_cons, eqArr, Sem.run_bind]
    generalize (Go.part e xs (i * n)).run P w = r1
    cases r1 with
    | halt x w1 => simp [Result.andThen]
    | ok a w1 =>
      simp only [Result.andThen_ok]
      generalize (Go.part e ys (i * n)).run P w1 = r2
      cases r2 with
      | halt x w2 => simp [Result.andThen]
      | ok b w2 =>
        simp only [Result.andThen_ok]
        generalize (Op.equalIn D e a b).run P w2 = r3
        cases r3 with
        | halt x w3 => simp [Result.andThen]
        | ok r w3 =>
          cases r
          · simp
          · simp only [Result.andThen_ok, Bool.not_true, Bool.false_eq_true, if_false, Sem.run_pure]
            exact ih w3 (i + 1)

theorem arrEq_rel (hE : EnvOk P E) {d D n : Nat} {e : TypeId} {xs ys xs' ys' : Array Value} (hx : VRels ρ xs.toList xs'.toList) (hy : VRels ρ ys.toList ys'.toList)
    (heq : ∀ t x y x' y' b, VRel ρ x x' → VRel ρ y y' → eqIn E d t x y = some b → ∀ w, (Op.equalIn D t x' y').run P w = .ok b w) :
    ∀ (c i : Nat) (b : Bool), arrEq E (eqIn E d) e n xs.toList ys.toList c i = some b → ∀ w, (eqArr D e n xs' ys' c i).run P w = .ok b w := by
  intro c
  induction c with
  | zero => intro i b hb w; simp [arrEq] at hb; subst hb; simp [eqArr]
  | succ c ih =>
    intro i b hb w
    simp only [arrEq] at hb
    split at hb
    · rename_i x y hpx hpy
      obtain ⟨x', hx', rx⟩ := part_rel hE hx hpx
      obtain ⟨y', hy', ry⟩ := part_rel hE hy hpy
      split at hb
      · rename_i he
        have := heq _ _ _ _ _ _ hx' hy' he
        simp [eqArr, rx, ry, this, ih _ b hb w]
      · rename_i he
        cases hb
        have := heq _ _ _ _ _ _ hx' hy' he
        simp [eqArr, rx, ry, this]
      · cases hb
    · cases hb

set_option maxHeartbeats 1000000 in
theorem eqIn_rel (hE : EnvOk P E) : ∀ (d D : Nat), d ≤ D → ∀ (t : TypeId) (x y x' y' : Value) (b : Bool), VRel ρ x x' → VRel ρ y y' → eqIn E d t x y = some b → ∀ w, (Op.equalIn D t x' y').run P w = .ok b w := by
  intro d
  induction d with
  | zero => intro D _ t x y x' y' b _ _ h; simp [eqIn] at h
  | succ d ih =>
    intro D hD t x y x' y' b hx hy h w
    obtain ⟨D, rfl⟩ : ∃ m, D = m + 1 := ⟨D - 1, by omega⟩
    unfold eqIn at h
    split at h
    · rename_i hu; cases h; cases hx; cases hy; (simp only [Op.equalIn, Sem.run_bind, run_und hE hu, Result.andThen_ok]; rfl)
    · rename_i hu; split at h
      · rename_i hk; cases h; cases hx; cases hy; (simp only [Op.equalIn, Sem.run_bind, run_und hE hu, Result.andThen_ok, if_pos hk]; rfl)
      · cases h
    · rename_i hu; cases h; cases hx; cases hy; (simp only [Op.equalIn, Sem.run_bind, run_und hE hu, Result.andThen_ok]; rfl)
    · rename_i hu; cases h; cases hx; cases hy <;> (simp only [Op.equalIn, Sem.run_bind, run_und hE hu, Result.andThen_ok]; rfl)
    · rename_i hu; cases h; cases hx; cases hy; (simp only [Op.equalIn, Sem.run_bind, run_und hE hu, Result.andThen_ok]; rfl)
    · rename_i e b o b' o' hu
      split at h
      · rename_i n hn
        split at h
        · rename_i hbn
          obtain ⟨rfl, hn0⟩ := hbn
          cases h
          cases hx with
          | ptr hk =>
            cases hy with
            | ptr hk' =>
              rw [hk] at hk'; cases hk'
              simp only [Op.equalIn, Sem.run_bind, run_und hE hu, Result.andThen_ok, run_size hE hn]
              rw [if_pos hn0]
              simp only [sameAddr, beq_self_eq_true, if_true, Sem.run_pure]
              congr 1
              rw [Bool.eq_iff_iff]
              simp
        · cases h
      · cases h
    · rename_i hu; cases h; cases hx; cases hy; (simp only [Op.equalIn, Sem.run_bind, run_und hE hu, Result.andThen_ok]; rfl)
    · rename_i hu; cases h; cases hx; cases hy; (simp only [Op.equalIn, Sem.run_bind, run_und hE hu, Result.andThen_ok]; rfl)
    · rename_i hu; cases h; cases hx; cases hy; (simp only [Op.equalIn, Sem.run_bind, run_und hE hu, Result.andThen_ok]; rfl)
    · rename_i fs xs ys hu
      split at h
      · rename_i hc
        obtain ⟨xs', rfl, hxs⟩ := hx.agg_inv
        obtain ⟨ys', rfl, hys⟩ := hy.agg_inv
        have hf : P.fieldsOf t = fs := by simp [Program.fieldsOf, hE.und _ _ hu]
        rw [run_equalIn_struct w D t xs' ys' (by rw [hf]; exact hE.und _ _ hu) (hE.cmp t hc).1, hf]
        exact allEq_rel hE hxs hys (fun t x y x' y' b h1 h2 h3 w => ih D (by omega) t x y x' y' b h1 h2 h3 w) _ _ h w
      · cases h
    · rename_i len e xs ys hu
      split at h
      · rename_i n hn
        obtain ⟨xs', rfl, hxs⟩ := hx.agg_inv
        obtain ⟨ys', rfl, hys⟩ := hy.agg_inv
        rw [run_equalIn_array D t e len n xs' ys' (hE.und _ _ hu) (run_size hE hn)]
        exact arrEq_rel hE hxs hys (fun t x y x' y' b h1 h2 h3 w => ih D (by omega) t x y x' y' b h1 h2 h3 w) _ _ _ h w
      · cases h
    · rename_i hu; cases h; cases hx; cases hy <;> (simp only [Op.equalIn, Sem.run_bind, run_und hE hu, Result.andThen_ok]; rfl)
    · rename_i hu; cases h; cases hy; cases hx <;> (simp only [Op.equalIn, Sem.run_bind, run_und hE hu, Result.andThen_ok]; rfl)
    · rename_i hu; cases h; cases hx; cases hy <;> (simp only [Op.equalIn, Sem.run_bind, run_und hE hu, Result.andThen_ok]; rfl)
    · rename_i hu; cases h; cases hy; cases hx <;> (simp only [Op.equalIn, Sem.run_bind, run_und hE hu, Result.andThen_ok]; rfl)
    · rename_i hu; cases h; cases hx; cases hy; (simp only [Op.equalIn, Sem.run_bind, run_und hE hu, Result.andThen_ok]; rfl)
    · rename_i hu; cases h; cases hx; cases hy <;> (simp only [Op.equalIn, Sem.run_bind, run_und hE hu, Result.andThen_ok]; rfl)
    · rename_i hu; cases h; cases hy; cases hx <;> (simp only [Op.equalIn, Sem.run_bind, run_und hE hu, Result.andThen_ok]; rfl)
    · cases h
end
end Go.Ab
