/-
  'nestboxlaw35.MachinesVoid': the call's contract.
-/
import Derived.Test.YtlhipikeenlncaaGreatDoorAbV2
import Derived.Test.YtlhipikeenlncaaGreatDoorAbV3
import Derived.Test.YtlhipikeenlncaaGreatDoorAbV4
import Derived.Test.YtlhipikeenlncaaGreatDoorAbTop
namespace Go.Proofs.YtlhipikeenlncaaGreatDoor
open Go Go.Ab
set_option maxRecDepth 100000

theorem good_end {c : Code} {fr : Fr} {h : Heap} (hg : goodRes (evAt c fr h) = true) : ∃ fr' h', evAt c fr h = some (.ret, fr', h') ∧ lget fr' 4 = .bool true := by
  unfold goodRes at hg
  split at hg
  · rename_i fr' h' he
    refine ⟨fr', h', he, ?_⟩
    cases hv : lget fr' 4 <;> rw [hv] at hg <;> simp [isBool] at hg
    rw [hg]
  · cases hg

theorem ev_of_end {args : List Value} {fr' : Fr} {h' : Heap} (hl : args.length = 2) (he : evAt (bodyOf Tryz.f3) (args ++ undefs (Tryz.f3.ntmps - 2)) hp0 = some (.ret, fr', h')) (hv : lget fr' 4 = .bool true) : ev EE 1000 3 args hp0 = some (.bool true, h') := by
  have h1 : ev EE 1000 3 args hp0 = evBody EE (run EE 1000) Tryz.f3 args hp0 := by unfold ev; rw [fn3]
  have h2 : Tryz.f3.body = some (bodyOf Tryz.f3) := by kernel_rfl
  have h3 : Tryz.f3.results.toList = [.tmp 4] := by kernel_rfl
  rw [h1]
  unfold evBody
  rw [h2, hl]
  have h4 : run EE 1000 (bodyOf Tryz.f3) (args ++ undefs (Tryz.f3.ntmps - 2)) hp0 = some (.ret, fr', h') := he
  simp only [h4, h3, resultsOf, hv]

theorem body_seq : bodyOf Tryz.f3 = .seq (seqL (bodyOf Tryz.f3)) (.seq (.seq (seqL mid) (.cond (.tmp 16) (condL (seqR mid)) .skip)) rest) := by kernel_rfl

theorem evAt_seq (a b : Code) (fr : Fr) (h : Heap) {fr' : Fr} {h' : Heap} (ha : evAt a fr h = some (.normal, fr', h')) : evAt (.seq a b) fr h = evAt b fr' h' := by
  have : evAt (.seq a b) fr h = match evAt a fr h with | some (.normal, fr', h') => evAt b fr' h' | r => r := rfl
  rw [this, ha]
theorem evAt_seq_ret (a b : Code) (fr : Fr) (h : Heap) {fr' : Fr} {h' : Heap} (ha : evAt a fr h = some (.ret, fr', h')) : evAt (.seq a b) fr h = some (.ret, fr', h') := by
  have : evAt (.seq a b) fr h = match evAt a fr h with | some (.normal, fr', h') => evAt b fr' h' | r => r := rfl
  rw [this, ha]
theorem evAt_cond (c : Operand) (a b : Code) (fr : Fr) (h : Heap) {t : Bool} (hc : val fr c = .bool t) : evAt (.cond c a b) fr h = if t then evAt a fr h else evAt b fr h := by
  have : evAt (.cond c a b) fr h = match val fr c with | .bool true => evAt a fr h | .bool false => evAt b fr h | _ => none := rfl
  rw [this, hc]
  cases t <;> rfl

theorem frG_16 (x i s v15 v16 : Value) : val (frG x i s v15 v16) (.tmp 16) = v16 := rfl

theorem rest_good (k c s x v15 v16 : Value) (m : Int) : goodRes (evAt rest (frG x (.int .i64 m) s v15 v16) (hp1 k c s)) = true := by
  cases m with
  | ofNat m => exact rest_pos k c s x v15 v16 m
  | negSucc m => cases m with
    | zero => exact rest_one k c s x v15 v16
    | succ m => exact rest_neg k c s x v15 v16 m

theorem void_ev (k c : Value) (m : Int) {s : Value} (hs : s = .slice none 0 0 ∨ ∃ a len cap, s = .slice (some a) len cap) : ∃ h', ev EE 1000 3 [.agg #[k, c, s], .int .i64 m] hp0 = some (.bool true, h') := by
  -- whatever the two regions have come to
  have key : ∀ (v15 : Value) (t : Bool), evAt (seqL mid) (lset (lset ([.agg #[k, c, s], .int .i64 m] ++ undefs 81) 2 (.pointer (some ⟨1000, 0, none⟩))) 4 (.bool false)) (hp1 k c s) = some (.normal, frG (.agg #[k, c, s]) (.int .i64 m) s v15 (.bool t), hp1 k c s) →
      ∃ h', ev EE 1000 3 [.agg #[k, c, s], .int .i64 m] hp0 = some (.bool true, h') := by
    intro v15 t hm
    have h0 : evAt (seqL (bodyOf Tryz.f3)) ([.agg #[k, c, s], .int .i64 m] ++ undefs (Tryz.f3.ntmps - 2)) hp0 = _ := start k c s (.int .i64 m) _ _ _ _
    have hc := evAt_cond (.tmp 16) (condL (seqR mid)) .skip (frG (.agg #[k, c, s]) (.int .i64 m) s v15 (.bool t)) (hp1 k c s) (frG_16 _ _ _ _ _)
    cases t with
    | true =>
      obtain ⟨fr', h', he, hv⟩ := good_end (rest_many k c s (.agg #[k, c, s]) (.int .i64 m) v15 (.bool true))
      refine ⟨h', ev_of_end rfl ?_ hv⟩
      rw [body_seq, evAt_seq _ _ _ _ h0]
      refine evAt_seq_ret _ _ _ _ ?_
      rw [evAt_seq _ _ _ _ hm, hc]
      exact he
    | false =>
      obtain ⟨fr', h', he, hv⟩ := good_end (rest_good k c s (.agg #[k, c, s]) v15 (.bool false) m)
      refine ⟨h', ev_of_end rfl ?_ hv⟩
      rw [body_seq, evAt_seq _ _ _ _ h0]
      have hmid : evAt (.seq (seqL mid) (.cond (.tmp 16) (condL (seqR mid)) .skip)) (lset (lset ([.agg #[k, c, s], .int .i64 m] ++ undefs 81) 2 (.pointer (some ⟨1000, 0, none⟩))) 4 (.bool false)) (hp1 k c s) = some (.normal, frG (.agg #[k, c, s]) (.int .i64 m) s v15 (.bool false), hp1 k c s) := by
        rw [evAt_seq _ _ _ _ hm, hc]; rfl
      rw [evAt_seq _ _ _ _ hmid]
      exact he
  rcases hs with rfl | ⟨a, len, cap, rfl⟩
  · exact key _ _ (first_nil k c (.int .i64 m) _ _ _ _)
  · exact key _ _ (first_some k c (.int .i64 m) a len cap _ _ _ _)
end Go.Proofs.YtlhipikeenlncaaGreatDoor
