/-
  'nestboxlaw39.RunsVoid': THE ROW AND THE TIED CARD, PROVED.
-/
import Derived.Test.YtjbhfehboajpcaaGreatDoorAbW8
import Derived.Test.YtjbhfehboajpcaaGreatDoorRows
import Derived.Test.YtjbhfehboajpcaaGreatDoorAbW9
import Derived.Test.YtjbhfehboajpcaaGreatDoorAbWA
import Derived.Test.YtjbhfehboajpcaaGreatDoorAbWC
import Derived.Test.YtjbhfehboajpcaaGreatDoorAbT1
import Derived.Test.YtjbhfehboajpcaaGreatDoorAbT2
import Derived.Test.YtjbhfehboajpcaaGreatDoorAbT3
import Derived.Test.YtjbhfehboajpcaaGreatDoorAbT4
import Derived.Test.YtjbhfehboajpcaaGreatDoorCards
import Derived.ProofKit
import Derived.OpenShut
import Derived.LaidMore
import Derived.Lay
import Derived.SevenTiedAt
import Derived.LaidByTextLater
import Derived.Stop.Joined
namespace Go.Proofs.YtjbhfehboajpcaaGreatDoor
open Go Go.Ab Go.ChangeShapes Go.WideShapes Go.ChangeAt Go.RowKit
set_option maxRecDepth 100000

theorem Tryz.own : ownKnob Tryz.prog.godebug = none := by kernel_rfl
theorem Tryz.laidOut : laidOutB Tryz.prog = true := tb_laid

theorem cell_int {P : Program} {w : World} {r : Reach} {base : Nat} {t : TypeId} {k : IntKind} {v : Value} (ht : P.underlying t = some (.int k)) (h : Cell.okWide P w r base t v) : ∃ n, v = .int k n := by
  simp only [Cell.okWide, ht] at h
  cases v <;> simp_all [Cell.ok]
theorem cell_slice {P : Program} {w : World} {r : Reach} {base : Nat} {t e : TypeId} {v : Value} (ht : P.underlying t = some (.slice e)) (h : Cell.okWide P w r base t v) : v = .slice none 0 0 ∨ ∃ bk o len cap, v = .slice (some ⟨bk, o, none⟩) len cap ∧ cap < fuzz := by
  simp only [Cell.okWide, ht] at h
  cases v with
  | slice a len cap =>
    cases a with
    | none =>
      left
      simp only [Cell.ok, ht] at h
      split at h <;> simp_all
    | some a =>
      right
      obtain ⟨bk, o, sp⟩ := a
      simp only [Cell.ok, ht] at h
      obtain ⟨_, h2, h3⟩ := h
      obtain ⟨_, h4, _⟩ := h3
      simp only at h4
      subst h4
      refine ⟨bk, o, len, cap, rfl, ?_⟩
      have : IntKind.i64.max = 9223372036854775807 := by rfl
      unfold fuzz
      omega
  | _ => simp_all [Cell.ok]

theorem six_of {cs : Array Value} (h : cs.size = 6) : ∃ c0 c1 c2 c3 c4 c5, cs = #[c0, c1, c2, c3, c4, c5] := by
  obtain ⟨l⟩ := cs
  match l, h with
  | [x, y, z, u, v, w], _ => exact ⟨x, y, z, u, v, w, rfl⟩

theorem lifted (os : Os) (started : os.Started) (H : Type) (enc : TypeId × Value → H) :
    ReturnsInHanded {} Tryz.checked os 3 .any (fun w args => (Rows.runsVoidSpec.pre enc Tryz.prog Tryz.f3 Rows.runsVoidRow.domain false w args ∧ laidMetH Tryz.prog Rows.runsVoidRow.laid w) ∧ sizedMet enc Tryz.prog Tryz.f3 (OpenSpec.ofChange Rows.runsVoidSpec) false w args)
      (Rows.runsVoidSpec.post enc Tryz.prog Tryz.f3 false true false false) := by
  refine returnsInHanded_of_change_and (C := Tryz.checked) (X := fun w _ => laidMetH Tryz.prog Rows.runsVoidRow.laid w) (fun _ _ _ hh h => h.of_heap hh) Tryz.own started (by kernel_rfl) Tryz.func3
    (ChangeSpec.witness_shaped (enc := enc) (C := Tryz.checked) (os := os) (X := fun w _ => laidMetH Tryz.prog Rows.runsVoidRow.laid w) false (World.laidAll Tryz.prog os Rows.runsVoidRow.laid) #[.agg #[.int .i64 0, .int .i64 0, .int .i64 0, .int .i64 0, .int .i64 0, .int .i64 0], .slice none 0 0, .int .i64 0] 8 (World.laidAll_os _ _ _)
      (World.shaped_of_ZipB (by kernel_rfl) (by kernel_rfl)) (by kernel_rfl) (by kernel_rfl) (by kernel_rfl)
      (by rw [MakeChecks.laidMetH_plain _ _ _ (by kernel_rfl)]; exact laidMet_laidAll _ (by kernel_rfl) (by kernel_rfl))) ?_
  intro W base args ds gs before hval0 hW hc _ hL _
  have hval : ∀ (j : Nat) t v, Tryz.f3.params[j]? = some t → args[j]? = some v → Value.okWide Tryz.prog W .any base t v := hval0
  have hW' := hW
  obtain ⟨p, q, hA0, hV, rfl, _, _⟩ := hW
  have hA : DataW.TrodAll enc Tryz.prog W 0 (fun _ => true) true Tryz.f3.params.toList args.toList ds p := hA0
  rw [Tryz.params3] at hA hval
  obtain ⟨v0, v1, v2, d0, d1, d2, p0, p1, p2, rfl, rfl, rfl, h0, h1, h2⟩ := trodAll_three hA
  obtain ⟨rfl, rfl⟩ := trodVars_none hV
  have hv0 := hval 0 25 v0 rfl rfl
  have hv1 := hval 1 26 v1 rfl rfl
  have hv2 := hval 2 3 v2 rfl rfl
  obtain ⟨m, rfl⟩ : ∃ m, v2 = .int .i64 m := by
    have : Value.okWide Tryz.prog W .any base 3 v2 = Cell.okWide Tryz.prog W .any base 3 v2 := by simp only [Value.okWide, Tryz.underlying3]
    rw [this] at hv2
    exact cell_int Tryz.underlying3 hv2
  have hs : v1 = .slice none 0 0 ∨ ∃ bk o len cap, v1 = .slice (some ⟨bk, o, none⟩) len cap ∧ cap < fuzz := by
    have : Value.okWide Tryz.prog W .any base 26 v1 = Cell.okWide Tryz.prog W .any base 26 v1 := by simp only [Value.okWide, Tryz.underlying26]
    rw [this] at hv1
    exact cell_slice Tryz.underlying26 hv1
  simp only [Value.okWide, Tryz.underlying25] at hv0
  obtain ⟨cs, rfl, hsz, ts, hts, _, hrow⟩ := hv0
  obtain rfl : [3, 3, 3, 3, 3, 3] = ts := Option.some.inj ((show Tryz.prog.cellTypes Tryz.prog.depth 25 = some [3, 3, 3, 3, 3, 3] by kernel_rfl).symm.trans hts)
  have h6 : cs.size = 6 := by rw [hsz]; kernel_rfl
  obtain ⟨c0, c1, c2, c3, c4, c5, rfl⟩ := six_of h6
  have key : ∀ (i : Nat) (c : Value), #[c0, c1, c2, c3, c4, c5][i]? = some c → i < 6 → ∃ n, c = .int .i64 n := by
    intro i c hci hi
    obtain ⟨u, e, hcc⟩ := hrow i c hci
    obtain rfl : 3 = u := by
      have : ([3, 3, 3, 3, 3, 3] : List TypeId)[i % ([3, 3, 3, 3, 3, 3] : List TypeId).length]? = some 3 := by
        rcases i with _ | _ | _ | _ | _ | _ | i
        all_goals first | rfl | omega
      exact Option.some.inj (this.symm.trans e)
    exact cell_int Tryz.underlying3 hcc
  obtain ⟨n0, rfl⟩ := key 0 c0 rfl (by omega)
  obtain ⟨n1, rfl⟩ := key 1 c1 rfl (by omega)
  obtain ⟨n2, rfl⟩ := key 2 c2 rfl (by omega)
  obtain ⟨n3, rfl⟩ := key 3 c3 rfl (by omega)
  obtain ⟨n4, rfl⟩ := key 4 c4 rfl (by omega)
  obtain ⟨n5, rfl⟩ := key 5 c5 rfl (by omega)
  simp only [List.append_nil] at hW'
  refine (law_calls n0 n1 n2 n3 n4 n5 m W hs).mono fun e W' ⟨he, hb⟩ => ?_
  subst he
  have hlt : ∀ x ∈ p0 ++ p1 ++ p2, x.block < W.heap.size := fun x hx => by simpa using hW'.lt x (by simpa using hx)
  refine ⟨_, rfl, _, _, _, [], p0 ++ p1 ++ p2, [], hW', trodAll_mk1 (shut_bool Tryz.underlying4 true), ?_, rfl, hb.frame _, fun h => by cases h⟩
  rw [List.append_assoc]
  exact trodAll_mk3 (Below.trod Tryz.laidOut (by kernel_rfl) (of_decide_eq_true (by kernel_rfl)) h0 hb (fun x hx => hlt x (by simp [hx]))) (Below.trod Tryz.laidOut (by kernel_rfl) (of_decide_eq_true (by kernel_rfl)) h1 hb (fun x hx => hlt x (by simp [hx]))) (Below.trod Tryz.laidOut (by kernel_rfl) (of_decide_eq_true (by kernel_rfl)) h2 hb (fun x hx => hlt x (by simp [hx])))

theorem row_named : Tryz.prog.funcNamed "nestbox/nestboxlaw39.RunsVoid" = some 3 := by kernel_rfl
theorem row_holds : Rows.RunsVoidSaid :=
  OpenClaim.holds_of_wide 3 Tryz.f3 rfl rfl rfl rfl rfl rfl rfl ⟨rfl, rfl, rfl, rfl, rfl⟩ rfl rfl rfl rfl rfl row_named Tryz.func3 row_facts
    (of_decide_eq_true (by kernel_rfl)) (by unfold Func.isWrapper; rw [if_neg (of_decide_eq_false (by kernel_rfl))]; exact ⟨rfl, rfl⟩)
    (fun os started H enc _ => lifted os started H enc)

theorem tie : Tryz.prog.laidByTextLater tieList [.data, .sentinel, .sentinel, .data, .data, .data] true :=
  Program.laidByTextLater_by_run 400 8 t_hw t_hw' t_root t_kinds t_named t_hn t_done t_h1 t_h2 t_hp
theorem row_tie : Rows.runsVoidRow.laidByTextAt .later Tryz.pinned [.pinned, .data, .sentinel, .sentinel, .data, .data, .data] true :=
  OpenClaim.laidByTextAt_pinned rfl rfl tie rfl rfl rfl rfl (fun y hy _e => by
    simp only [Rows.runsVoidRow, List.zip_cons_cons, List.zip_nil_right, List.mem_cons, List.mem_nil_iff, or_false] at hy
    rcases hy with rfl | rfl | rfl | rfl | rfl | rfl | rfl
    · exact ⟨t_pin, by kernel_rfl⟩
    · cases _e
    · cases _e
    · cases _e
    · cases _e
    · cases _e
    · cases _e) t_fits

theorem card_holds : Rows.RunsVoidCardSaid :=
  Claim7.holds_tied_plain_at .later [] [.pinned, .data, .sentinel, .sentinel, .data, .data, .data] true (true, "daed3c8967138b6ad832692064b07c33158968cb959b7e2b1852e054164f4c34") true row_holds (fun _ h => by cases h) cd_wf (fun _ h => by cases h) row_tie rfl ⟨rfl, rfl⟩ cd_main rfl
    (fun f fn hf hfn => by
      obtain rfl : f = 3 := Option.some.inj (row_named.symm.trans hf) |>.symm
      obtain rfl : fn = Tryz.f3 := (Option.some.inj (Tryz.func3.symm.trans hfn)).symm
      exact ⟨cd_looks, fun j t ht => by
        rw [Tryz.params3] at ht
        have hm : t ∈ [25, 26, 3] := by simpa using Array.mem_of_getElem? ht
        exact (show Tryz.prog.wantsStandIn t = false by simpa using List.all_eq_true.1 cd_stand t hm)⟩)
    cd_goes
end Go.Proofs.YtjbhfehboajpcaaGreatDoor
