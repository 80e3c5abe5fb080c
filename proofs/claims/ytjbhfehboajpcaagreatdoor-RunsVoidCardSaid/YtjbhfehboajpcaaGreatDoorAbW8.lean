/-
  'nestboxlaw39.RunsVoid': the call's contract.
-/
import Derived.Test.YtjbhfehboajpcaaGreatDoorAbW2
import Derived.Test.YtjbhfehboajpcaaGreatDoorAbW6a
import Derived.Test.YtjbhfehboajpcaaGreatDoorAbW6b
import Derived.Test.YtjbhfehboajpcaaGreatDoorAbW6c
import Derived.Test.YtjbhfehboajpcaaGreatDoorAbW6d
import Derived.Test.YtjbhfehboajpcaaGreatDoorAbW7
import Derived.IntWalk
namespace Go.Proofs.YtjbhfehboajpcaaGreatDoor
open Go Go.Ab
set_option maxRecDepth 100000

theorem s_zero : okZero Tryz.prog = true := by kernel_rfl
theorem s_code : okFuncs Tryz.prog 8 = true := by kernel_rfl
theorem s_e77 : ExtAt Tryz.prog (77, .noEscape) := ⟨Tryz.f77, Tryz.func77, by kernel_rfl, by kernel_rfl, by kernel_rfl, by kernel_rfl⟩
theorem s_e119 : ExtAt Tryz.prog (119, .makeNoZero 26) := ⟨Tryz.f119, Tryz.func119, by kernel_rfl, by kernel_rfl, by kernel_rfl, by kernel_rfl⟩
theorem s_e120 : ExtAt Tryz.prog (120, .atomicStore) := ⟨Tryz.f120, Tryz.func120, by kernel_rfl, by kernel_rfl, by kernel_rfl, by kernel_rfl⟩
theorem s_e148 : ExtAt Tryz.prog (148, .atomicLoad) := ⟨Tryz.f148, Tryz.func148, by kernel_rfl, by kernel_rfl, by kernel_rfl, by kernel_rfl⟩
theorem s_e149 : ExtAt Tryz.prog (149, .atomicCAS) := ⟨Tryz.f149, Tryz.func149, by kernel_rfl, by kernel_rfl, by kernel_rfl, by kernel_rfl⟩
theorem s_e253 : ExtAt Tryz.prog (253, .atomicAdd) := ⟨Tryz.f253, Tryz.func253, by kernel_rfl, by kernel_rfl, by kernel_rfl, by kernel_rfl⟩
theorem s_e320 : ExtAt Tryz.prog (320, .atomicSwap) := ⟨Tryz.f320, Tryz.func320, by kernel_rfl, by kernel_rfl, by kernel_rfl, by kernel_rfl⟩
theorem s_e357 : ExtAt Tryz.prog (357, .count) := ⟨Tryz.f357, Tryz.func357, by kernel_rfl, by kernel_rfl, by kernel_rfl, by kernel_rfl⟩
theorem s_e377 : ExtAt Tryz.prog (377, .indexByte) := ⟨Tryz.f377, Tryz.func377, by kernel_rfl, by kernel_rfl, by kernel_rfl, by kernel_rfl⟩
theorem s_ext : ∀ x ∈ exts, ExtAt Tryz.prog x := by
  intro x hx
  simp only [exts, List.mem_cons, List.not_mem_nil, or_false] at hx
  rcases hx with rfl | rfl | rfl | rfl | rfl | rfl | rfl | rfl | rfl
  · exact s_e77
  · exact s_e119
  · exact s_e120
  · exact s_e148
  · exact s_e149
  · exact s_e253
  · exact s_e320
  · exact s_e357
  · exact s_e377
theorem s_mixed : Tryz.prog.follows .mixedOrders = true := by kernel_rfl

theorem sound0 (n : Nat) : CallSound Tryz.prog 8 (ev EE n) := envOf_sound s_zero s_code s_ext s_mixed n

theorem pMay_out {a : List Value} {h h1 : Heap} {v : Value} (hp : (pMay a h).out = some (some (v, h1))) : h1 = h ∧ ∃ b u t q y, a = [.agg #[.int .i64 b, .int .i64 u, .int .i64 t, .int .i64 q, .int .i64 y]] ∧ v = .bool (mayI b u t q y) := by
  unfold pMay at hp
  split at hp
  · rename_i cs
    split at hp
    · rename_i b u t q y hcs
      simp only [Pri.out, Option.some.injEq, Prod.mk.injEq] at hp
      obtain ⟨rfl, rfl⟩ := hp
      refine ⟨rfl, b, u, t, q, y, ?_, rfl⟩
      have : cs = #[.int .i64 b, .int .i64 u, .int .i64 t, .int .i64 q, .int .i64 y] := Array.toList_inj.1 (by simpa using hcs)
      rw [this]
    · simp [Pri.out] at hp
  · simp [Pri.out] at hp

theorem prim43 : CallSound Tryz.prog 8 (fun g args h => if g = 43 then (pMay args h).out.getD none else none) := by
  refine prim_pure sound0 fun a h v h1 hp => ?_
  obtain ⟨rfl, b, u, t, q, y, rfl, rfl⟩ := pMay_out hp
  obtain ⟨h', he⟩ := may43_ev b u t q y
  exact ⟨rfl, rfl, 100, 1000, _, h', by decide, he, Blurs.plain rfl⟩
theorem prim64 : CallSound Tryz.prog 8 (fun g args h => if g = 64 then (pMay args h).out.getD none else none) := by
  refine prim_pure sound0 fun a h v h1 hp => ?_
  obtain ⟨rfl, b, u, t, q, y, rfl, rfl⟩ := pMay_out hp
  obtain ⟨h', he⟩ := may64_ev b u t q y
  exact ⟨rfl, rfl, 100, 1000, _, h', by decide, he, Blurs.plain rfl⟩

theorem good_some {r : Ans} (h : goodTrue r = true) : ∃ h', r = some (.bool true, h') := by
  unfold goodTrue at h
  split at h
  · rename_i v h'
    refine ⟨h', ?_⟩
    cases v <;> simp [isBool] at h
    rw [h]
  · cases h

theorem prim4 : CallSound Tryz.prog 8 (fun g args h => if g = 4 then (pLives args h).out.getD none else none) := by
  refine prim_pure sound0 fun a h v h1 hp => ?_
  unfold pLives at hp
  split at hp
  · simp only [Pri.out, Option.some.injEq, Prod.mk.injEq] at hp
    obtain ⟨rfl, rfl⟩ := hp
    obtain ⟨h', he⟩ := good_some lives_true
    exact ⟨rfl, rfl, 1000, 1000, _, h', by decide, he, Blurs.plain rfl⟩
  · simp [Pri.out] at hp

theorem sound43 (n : Nat) : CallSound Tryz.prog 8 (ev E43 n) :=
  prims_sound s_zero s_code s_ext s_mixed [(43, pMay)] (by kernel_rfl) (fun x hx => by
    simp only [List.mem_cons, List.not_mem_nil, or_false] at hx
    subst hx; exact prim43) n

theorem veq_int (k : IntKind) (n : Int) : veq 30 (.int k n) (.int k n) = true := by simp [veq]
theorem veq_cfg (b u t q y : Int) : veq 30 (cfg b u t q y) (cfg b u t q y) = true := by simp [cfg, veq, veqL]
theorem wrap_ne {b u t q y : Int} (h : mayI b u t q y = true) : (!(IntKind.u64.wrap b == 0)) = true := by
  unfold mayI at h
  rw [decide_eq_true_eq] at h
  have : IntKind.u64.wrap b = b := IntWalk.u64_in b (by omega)
  rw [this]
  simp
  omega

theorem isNone_some {r : Ans} (h : isNone r = true) : ∃ h', r = some (.tuple #[.pointer none, .int .i64 1], h') := by
  unfold isNone at h
  split at h
  · rename_i vs h'
    refine ⟨h', ?_⟩
    split at h
    · rename_i e he
      have e1 : e = 1 := by simpa using h
      subst e1
      have : vs = #[.pointer none, .int .i64 1] := Array.toList_inj.1 (by simpa using he)
      rw [this]
    · cases h
  · cases h
theorem isOne_some {r : Ans} (h : isOne r = true) : ∃ a h', r = some (.tuple #[.pointer (some a), .int .i64 0], h') := by
  unfold isOne at h
  split at h
  · rename_i vs h'
    split at h
    · rename_i a e he
      have e1 : e = 0 := by simpa using h
      subst e1
      have : vs = #[.pointer (some a), .int .i64 0] := Array.toList_inj.1 (by simpa using he)
      rw [this]
      exact ⟨a, h', rfl⟩
    · cases h
  · cases h

theorem new5_good {b u t q y n : Int} (h : goodI b u t q y n = true) : ∃ a h', ev E43 100 5 [cfgM b u t q y n] hp0 = some (.tuple #[.pointer (some a), .int .i64 0], h') := by
  unfold goodI at h
  simp only [Bool.and_eq_true, decide_eq_true_eq] at h
  obtain ⟨hm, h1, h2⟩ := h
  refine isOne_some (evO_true (D := at_ [(0, false), (6, true), (10, true)]) ?_)
  rw [new5_all b u t q y n h1 h2, hm, wrap_ne hm, veq_cfg]
  rfl
theorem new5_bad {b u t q y n : Int} (h : goodI b u t q y n = false) : ∃ h', ev E43 100 5 [cfgM b u t q y n] hp0 = some (.tuple #[.pointer none, .int .i64 1], h') := by
  cases hm : mayI b u t q y with
  | false =>
    refine isNone_some (evO_true (D := at_ [(0, true)]) ?_)
    rw [new5_may, hm]; rfl
  | true =>
    by_cases hf : n < 1
    · refine isNone_some (evO_true (D := at_ [(0, false), (6, true), (10, true), (15, true)]) ?_)
      rw [new5_few, hm, wrap_ne hm, veq_cfg, decide_eq_true hf]; rfl
    · have hg : n > 64 := by
        unfold goodI at h
        rw [hm, Bool.true_and, decide_eq_false_iff_not] at h
        omega
      refine isNone_some (evO_true (D := at_ [(0, false), (6, true), (10, true), (15, false), (19, true)]) ?_)
      rw [new5_many, hm, wrap_ne hm, veq_cfg, decide_eq_false hf, decide_eq_true hg]; rfl

theorem prim5 : CallSound Tryz.prog 8 (fun g args h => if g = 5 then (pNew args h).out.getD none else none) := by
  refine prim_pure sound43 fun a h v h1 hp => ?_
  unfold pNew at hp
  split at hp
  · rename_i cs
    split at hp
    · rename_i b u t q y n hcs
      have hcs : cs = #[.int .i64 b, .int .i64 u, .int .i64 t, .int .i64 q, .int .i64 y, .int .i64 n] := Array.toList_inj.1 (by simpa using hcs)
      subst hcs
      cases hg : goodI b u t q y n with
      | true =>
        simp only [Pri.out, hg, cond_true, Option.some.injEq, Prod.mk.injEq] at hp
        obtain ⟨rfl, rfl⟩ := hp
        obtain ⟨a, h', he⟩ := new5_good hg
        refine ⟨rfl, rfl, 100, 1000, _, h', by decide, he, fun ρ u' hu ρ2 => ?_⟩
        obtain ⟨a', rfl, ha⟩ := hu.tuple_inv
        have ha : VRels ρ [.pointer (some a), .int .i64 0] a'.toList := ha
        obtain ⟨x, r, e1, hx, hr⟩ := ha.cons_inv
        obtain ⟨z, r2, rfl, hz, hr2⟩ := hr.cons_inv
        obtain rfl := hr2.nil_inv
        cases hx
        cases hz
        refine VRels.toTuple ?_
        rw [e1]
        exact .cons .lost (.cons (.int _ _) .nil)
      | false =>
        simp only [Pri.out, hg, cond_false, Option.some.injEq, Prod.mk.injEq] at hp
        obtain ⟨rfl, rfl⟩ := hp
        obtain ⟨h', he⟩ := new5_bad hg
        exact ⟨rfl, rfl, 100, 1000, _, h', by decide, he, Blurs.plain rfl⟩
    · simp [Pri.out] at hp
  · simp [Pri.out] at hp

theorem sound1 (n : Nat) : CallSound Tryz.prog 8 (ev E1 n) :=
  prims_sound s_zero s_code s_ext s_mixed [(4, pLives), (64, pMay), (5, pNew)] (by kernel_rfl) (fun x hx => by
    simp only [List.mem_cons, List.not_mem_nil, or_false] at hx
    rcases hx with rfl | rfl | rfl
    · exact prim4
    · exact prim64
    · exact prim5) n

theorem min_le (m : Int) : decide ((0 : Int) ≥ (if (0 : Int) < m then 0 else m)) = true := by
  rw [decide_eq_true_eq]; split <;> omega

theorem law_ev (b u t q y n m : Int) {s : Value} (hs : s = .slice none 0 0 ∨ ∃ a len cap, s = .slice (some a) len cap) : ∃ h', ev E1 100 3 [cfgM b u t q y n, s, .int .i64 m] hp0 = some (.bool true, h') := by
  have key : ∀ D, lawO D b u t q y n s m = true → ∃ h', ev E1 100 3 [cfgM b u t q y n, s, .int .i64 m] hp0 = some (.bool true, h') := fun D h => good_some (evO_true (D := at_ D) h)
  rcases hs with rfl | ⟨a, len, cap, rfl⟩
  · cases hg : goodI b u t q y n with
    | true => refine key _ ((law_good_n b u t q y n m).trans ?_); rw [veq_int, hg, min_le]; rfl
    | false => cases hm : mayI b u t q y with
      | false => refine key _ ((law_may_n b u t q y n m).trans ?_); rw [veq_int, hg, hm, min_le]; rfl
      | true =>
        by_cases hf : n < 1
        · refine key _ ((law_few_n b u t q y n m).trans ?_); rw [veq_int, hg, hm, veq_int, veq_cfg, decide_eq_true hf, min_le]; rfl
        · have hm64 : n > 64 := by
            unfold goodI at hg
            rw [hm, Bool.true_and, decide_eq_false_iff_not] at hg
            omega
          refine key _ ((law_more_n b u t q y n m).trans ?_); rw [veq_int, hg, hm, veq_int, veq_cfg, decide_eq_false hf, decide_eq_true hm64, min_le]; rfl
  · by_cases hl : (len : Int) > 300
    · refine key _ ((law_many b u t q y n a len cap m).trans ?_); rw [decide_eq_true hl]; rfl
    · have hl' : decide ((len : Int) > 300) = false := decide_eq_false hl
      cases hg : goodI b u t q y n with
      | true => refine key _ ((law_good_s b u t q y n a len cap m).trans ?_); rw [hl', veq_int, hg, min_le]; rfl
      | false => cases hm : mayI b u t q y with
        | false => refine key _ ((law_may_s b u t q y n a len cap m).trans ?_); rw [hl', veq_int, hg, hm, min_le]; rfl
        | true =>
          by_cases hf : n < 1
          · refine key _ ((law_few_s b u t q y n a len cap m).trans ?_); rw [hl', veq_int, hg, hm, veq_int, veq_cfg, decide_eq_true hf, min_le]; rfl
          · have hm64 : n > 64 := by
              unfold goodI at hg
              rw [hm, Bool.true_and, decide_eq_false_iff_not] at hg
              omega
            refine key _ ((law_more_s b u t q y n a len cap m).trans ?_); rw [hl', veq_int, hg, hm, veq_int, veq_cfg, decide_eq_false hf, decide_eq_true hm64, min_le]; rfl

theorem law_calls (b u t q y n m : Int) {s : Value} (W : World) (hs : s = .slice none 0 0 ∨ ∃ bk o len cap, s = .slice (some ⟨bk, o, none⟩) len cap ∧ cap < fuzz) :
    Calls Tryz.prog 3 #[cfgM b u t q y n, s, .int .i64 m] W fun e W' => e = .returned (.bool true) ∧ RowKit.Below W.heap.size W W' := by
  have hc : ∀ ρ, VRel ρ (cfgM b u t q y n) (cfgM b u t q y n) := fun ρ => plain_rel 50 _ rfl
  have fin : ∀ {s0 : Value} {ls : List Ab.Loc}, 8 + ls.length ≤ 1000 → VRel (injOf 8 ls) s0 s → (s0 = .slice none 0 0 ∨ ∃ a len cap, s0 = .slice (some a) len cap) →
      Calls Tryz.prog 3 #[cfgM b u t q y n, s, .int .i64 m] W fun e W' => e = .returned (.bool true) ∧ RowKit.Below W.heap.size W W' := by
    intro s0 ls hls hv h0
    obtain ⟨h', hev⟩ := law_ev b u t q y n m h0
    refine (calls_of_ev (G := 8) (N := 1000) (sound1 100) hev hls W (args' := [cfgM b u t q y n, s, .int .i64 m]) ?_).mono ?_
    · exact .cons (hc _) (.cons hv (.cons (.int _ _) .nil))
    · rintro e w' ⟨v', ρ', rfl, hv', hb⟩
      cases hv'
      exact ⟨rfl, hb⟩
  rcases hs with rfl | ⟨bk, o, len, cap, rfl, hcf⟩
  · exact fin (ls := []) (by simp) .nilSlice (.inl rfl)
  · refine fin (s0 := .slice (some ⟨8, 0, none⟩) len cap) (ls := [⟨bk, o, 0⟩]) (by simp) ?_ (.inr ⟨_, _, _, rfl⟩)
    exact VRel.slice (ρ := injOf 8 [⟨bk, o, 0⟩]) (b := 8) (o := 0) (l := ⟨bk, o, 0⟩) (injOf_arg 8 [(⟨bk, o, 0⟩ : Ab.Loc)] 0) hcf
end Go.Proofs.YtjbhfehboajpcaaGreatDoor
