/-
  'nestboxlaw35.MachinesVoid': THE ROW AND THE TIED CARD, PROVED.
-/
import Derived.Test.YtlhipikeenlncaaGreatDoorAbV5
import Derived.Test.YtlhipikeenlncaaGreatDoorRows
import Derived.Test.YtlhipikeenlncaaGreatDoorAbV7
import Derived.Test.YtlhipikeenlncaaGreatDoorAbV8
import Derived.Test.YtlhipikeenlncaaGreatDoorTie
import Derived.Test.YtlhipikeenlncaaGreatDoorCards
import Derived.ProofKit
import Derived.OpenShut
import Derived.LaidMore
import Derived.Lay
import Derived.SevenTiedAt
import Derived.Stop.Joined
namespace Go.Proofs.YtlhipikeenlncaaGreatDoor
open Go Go.Ab Go.ChangeShapes Go.WideShapes Go.ChangeAt Go.RowKit
set_option maxRecDepth 100000

theorem s_zero : okZero Tryz.prog = true := by kernel_rfl
theorem s_code : okFuncs Tryz.prog 8 = true := by kernel_rfl
theorem s_e106 : ExtAt Tryz.prog (106, .atomicLoad) := ⟨Tryz.f106, Tryz.func106, by kernel_rfl, by kernel_rfl, by kernel_rfl, by kernel_rfl⟩
theorem s_e107 : ExtAt Tryz.prog (107, .atomicCAS) := ⟨Tryz.f107, Tryz.func107, by kernel_rfl, by kernel_rfl, by kernel_rfl, by kernel_rfl⟩
theorem s_e108 : ExtAt Tryz.prog (108, .atomicStore) := ⟨Tryz.f108, Tryz.func108, by kernel_rfl, by kernel_rfl, by kernel_rfl, by kernel_rfl⟩
theorem s_e225 : ExtAt Tryz.prog (225, .atomicAdd) := ⟨Tryz.f225, Tryz.func225, by kernel_rfl, by kernel_rfl, by kernel_rfl, by kernel_rfl⟩
theorem s_e293 : ExtAt Tryz.prog (293, .atomicSwap) := ⟨Tryz.f293, Tryz.func293, by kernel_rfl, by kernel_rfl, by kernel_rfl, by kernel_rfl⟩
theorem s_e332 : ExtAt Tryz.prog (332, .count) := ⟨Tryz.f332, Tryz.func332, by kernel_rfl, by kernel_rfl, by kernel_rfl, by kernel_rfl⟩
theorem s_e353 : ExtAt Tryz.prog (353, .indexByte) := ⟨Tryz.f353, Tryz.func353, by kernel_rfl, by kernel_rfl, by kernel_rfl, by kernel_rfl⟩
theorem s_ext : ∀ x ∈ exts, ExtAt Tryz.prog x := by
  intro x hx
  simp only [exts, List.mem_cons, List.not_mem_nil, or_false] at hx
  rcases hx with rfl | rfl | rfl | rfl | rfl | rfl | rfl
  · exact s_e106
  · exact s_e107
  · exact s_e108
  · exact s_e225
  · exact s_e293
  · exact s_e332
  · exact s_e353
theorem s_mixed : Tryz.prog.follows .mixedOrders = true := by kernel_rfl

theorem s_sound : CallSound Tryz.prog 8 (ev EE 1000) := envOf_sound s_zero s_code s_ext s_mixed 1000

theorem law_calls (a b m : Int) {s : Value} (W : World) (hs : s = .slice none 0 0 ∨ ∃ bk o len cap, s = .slice (some ⟨bk, o, none⟩) len cap ∧ cap < fuzz) :
    Calls Tryz.prog 3 #[.agg #[.int .u8 a, .int .i64 b, s], .int .i64 m] W fun e W' => e = .returned (.bool true) ∧ Below W.heap.size W W' := by
  have fin : ∀ {s0 : Value} {ls : List Ab.Loc}, 8 + ls.length ≤ 1000 → VRel (injOf 8 ls) s0 s → (s0 = .slice none 0 0 ∨ ∃ a len cap, s0 = .slice (some a) len cap) →
      Calls Tryz.prog 3 #[.agg #[.int .u8 a, .int .i64 b, s], .int .i64 m] W fun e W' => e = .returned (.bool true) ∧ Below W.heap.size W W' := by
    intro s0 ls hls hv h0
    obtain ⟨h', hev⟩ := void_ev (.int .u8 a) (.int .i64 b) m h0
    refine (calls_of_ev (G := 8) (N := 1000) s_sound hev hls W (args' := [.agg #[.int .u8 a, .int .i64 b, s], .int .i64 m]) ?_).mono ?_
    · exact .cons (VRels.toAgg (.cons (.int _ _) (.cons (.int _ _) (.cons hv .nil)))) (.cons (.int _ _) .nil)
    · rintro e w' ⟨v', ρ', rfl, hv', hb⟩
      cases hv'
      exact ⟨rfl, hb⟩
  rcases hs with rfl | ⟨bk, o, len, cap, rfl, hc⟩
  · exact fin (ls := []) (by simp) .nilSlice (.inl rfl)
  · refine fin (s0 := .slice (some ⟨8, 0, none⟩) len cap) (ls := [⟨bk, o, 0⟩]) (by simp) ?_ (.inr ⟨_, _, _, rfl⟩)
    exact VRel.slice (ρ := injOf 8 [⟨bk, o, 0⟩]) (b := 8) (o := 0) (l := ⟨bk, o, 0⟩) (injOf_arg 8 [(⟨bk, o, 0⟩ : Ab.Loc)] 0) hc

theorem Tryz.own : ownKnob Tryz.prog.godebug = none := by kernel_rfl
theorem Tryz.laidOut : laidOutB Tryz.prog = true := by kernel_rfl

theorem cell_int {P : Program} {w : World} {r : Reach} {base : Nat} {t : TypeId} {k : IntKind} {v : Value} (ht : P.underlying t = some (.int k)) (h : Cell.okWide P w r base t v) : ∃ n, v = .int k n := by
  simp only [Cell.okWide, ht] at h
  cases v <;> simp_all [Cell.ok]
theorem cell_slice {P : Program} {w : World} {r : Reach} {base : Nat} {t e : TypeId} {v : Value} (ht : P.underlying t = some (.slice e)) (h : Cell.okWide P w r base t v) : v = .slice none 0 0 ∨ ∃ bk o len cap, v = .slice (some ⟨bk, o, none⟩) len cap ∧ cap < fuzz := by
  simp only [Cell.okWide, ht] at h
  cases v with
  | slice a len cap =>
    cases a with
    | none =>
      left
      simp only [Cell.ok, ht] at h
      split at h <;> simp_all
    | some a =>
      right
      obtain ⟨bk, o, sp⟩ := a
      simp only [Cell.ok, ht] at h
      obtain ⟨_, h2, h3⟩ := h
      obtain ⟨_, h4, _⟩ := h3
      simp only at h4
      subst h4
      refine ⟨bk, o, len, cap, rfl, ?_⟩
      have : IntKind.i64.max = 9223372036854775807 := by rfl
      unfold fuzz
      omega
  | _ => simp_all [Cell.ok]

theorem three_of {cs : Array Value} (h : cs.size = 3) : ∃ c0 c1 c2, cs = #[c0, c1, c2] := by
  obtain ⟨l⟩ := cs
  match l, h with
  | [x, y, z], _ => exact ⟨x, y, z, rfl⟩

theorem lifted (os : Os) (started : os.Started) (H : Type) (enc : TypeId × Value → H) :
    ReturnsInHanded {} Tryz.checked os 3 .any (fun w args => (Rows.machinesVoidSpec.pre enc Tryz.prog Tryz.f3 Rows.machinesVoidRow.domain false w args ∧ laidMetH Tryz.prog Rows.machinesVoidRow.laid w) ∧ sizedMet enc Tryz.prog Tryz.f3 (OpenSpec.ofChange Rows.machinesVoidSpec) false w args)
      (Rows.machinesVoidSpec.post enc Tryz.prog Tryz.f3 false true false false) := by
  refine returnsInHanded_of_change_and (C := Tryz.checked) (X := fun w _ => laidMetH Tryz.prog Rows.machinesVoidRow.laid w) (fun _ _ _ hh h => h.of_heap hh) Tryz.own started (by kernel_rfl) Tryz.func3
    (ChangeSpec.witness_shaped (enc := enc) (C := Tryz.checked) (os := os) (X := fun w _ => laidMetH Tryz.prog Rows.machinesVoidRow.laid w) false (World.laidAll Tryz.prog os Rows.machinesVoidRow.laid) #[.agg #[.int .u8 0, .int .i64 0, .slice none 0 0], .int .i64 0] 8 (World.laidAll_os _ _ _)
      (World.shaped_of_ZipB (by kernel_rfl) (by kernel_rfl)) (by kernel_rfl) (by kernel_rfl) (by kernel_rfl)
      (by rw [MakeChecks.laidMetH_plain _ _ _ (by kernel_rfl)]; exact laidMet_laidAll _ (by kernel_rfl) (by kernel_rfl))) ?_
  intro W base args ds gs before hval0 hW hc _ hL _
  have hval : ∀ (j : Nat) t v, Tryz.f3.params[j]? = some t → args[j]? = some v → Value.okWide Tryz.prog W .any base t v := hval0
  have hW' := hW
  obtain ⟨p, q, hA0, hV, rfl, _, _⟩ := hW
  have hA : DataW.TrodAll enc Tryz.prog W 0 (fun _ => true) true Tryz.f3.params.toList args.toList ds p := hA0
  rw [Tryz.params3] at hA hval
  obtain ⟨v0, v1, d0, d1, p0, p1, rfl, rfl, rfl, h0, h1⟩ := trodAll_two hA
  obtain ⟨rfl, rfl⟩ := trodVars_none hV
  have hv0 := hval 0 25 v0 rfl rfl
  have hv1 := hval 1 3 v1 rfl rfl
  obtain ⟨m, rfl⟩ : ∃ m, v1 = .int .i64 m := by
    have : Value.okWide Tryz.prog W .any base 3 v1 = Cell.okWide Tryz.prog W .any base 3 v1 := by simp only [Value.okWide, Tryz.underlying3]
    rw [this] at hv1
    exact cell_int Tryz.underlying3 hv1
  simp only [Value.okWide, Tryz.underlying25] at hv0
  obtain ⟨cs, rfl, hsz, ts, hts, _, hrow⟩ := hv0
  obtain rfl : [22, 3, 23] = ts := Option.some.inj ((show Tryz.prog.cellTypes Tryz.prog.depth 25 = some [22, 3, 23] by kernel_rfl).symm.trans hts)
  have h3 : cs.size = 3 := by rw [hsz]; kernel_rfl
  obtain ⟨c0, c1, c2, rfl⟩ := three_of h3
  obtain ⟨u0, e0, hc0⟩ := hrow 0 c0 rfl
  obtain ⟨u1, e1, hc1⟩ := hrow 1 c1 rfl
  obtain ⟨u2, e2, hc2⟩ := hrow 2 c2 rfl
  obtain rfl : 22 = u0 := Option.some.inj e0
  obtain rfl : 3 = u1 := Option.some.inj e1
  obtain rfl : 23 = u2 := Option.some.inj e2
  obtain ⟨a, rfl⟩ := cell_int Tryz.underlying22 hc0
  obtain ⟨b, rfl⟩ := cell_int Tryz.underlying3 hc1
  have hs := cell_slice Tryz.underlying23 hc2
  simp only [List.append_nil] at hW'
  refine (law_calls a b m W hs).mono fun e W' ⟨he, hb⟩ => ?_
  subst he
  have hlt : ∀ x ∈ p0 ++ p1, x.block < W.heap.size := fun x hx => by simpa using hW'.lt x (by simpa using hx)
  refine ⟨_, rfl, _, _, _, [], p0 ++ p1, [], hW', trodAll_mk1 (shut_bool Tryz.underlying4 true), ?_, rfl, hb.frame _, fun h => by cases h⟩
  exact trodAll_mk2 (Below.trod Tryz.laidOut (by kernel_rfl) (of_decide_eq_true (by kernel_rfl)) h0 hb (fun x hx => hlt x (by simp [hx]))) (Below.trod Tryz.laidOut (by kernel_rfl) (of_decide_eq_true (by kernel_rfl)) h1 hb (fun x hx => hlt x (by simp [hx])))

theorem row_named : Tryz.prog.funcNamed "nestbox/nestboxlaw35.MachinesVoid" = some 3 := by kernel_rfl
theorem row_holds : Rows.MachinesVoidSaid :=
  OpenClaim.holds_of_wide 3 Tryz.f3 rfl rfl rfl rfl rfl rfl rfl ⟨rfl, rfl, rfl, rfl, rfl⟩ rfl rfl rfl rfl rfl row_named Tryz.func3 row_facts
    (of_decide_eq_true (by kernel_rfl)) (by unfold Func.isWrapper; rw [if_neg (of_decide_eq_false (by kernel_rfl))]; exact ⟨rfl, rfl⟩)
    (fun os started H enc _ => lifted os started H enc)

theorem card_holds : Rows.MachinesVoidCardSaid :=
  Claim7.holds_tied_plain_at .later [] [.data, .data, .data, .data, .sentinel, .sentinel, .pinned] true (true, "e939c6bc943355ed5513aeed1deeec6a96a424672dd5165b09bbb41f0cb84fb7") true row_holds (fun _ h => by cases h) cd_wf (fun _ h => by cases h) machinesVoid_row_tie rfl ⟨rfl, rfl⟩ cd_main rfl
    (fun f fn hf hfn => by
      obtain rfl : f = 3 := Option.some.inj (row_named.symm.trans hf) |>.symm
      obtain rfl : fn = Tryz.f3 := (Option.some.inj (Tryz.func3.symm.trans hfn)).symm
      exact ⟨cd_looks, fun j t ht => by
        rw [Tryz.params3] at ht
        have hm : t ∈ [25, 3] := by simpa using Array.mem_of_getElem? ht
        exact (show Tryz.prog.wantsStandIn t = false by simpa using List.all_eq_true.1 cd_stand t hm)⟩)
    cd_goes
end Go.Proofs.YtlhipikeenlncaaGreatDoor
