/-
  'nestboxlaw39.RunsVoid': the card's closed facts, one by one.
-/
import Derived.Test.YtjbhfehboajpcaaGreatDoorRows
import Derived.Test.YtjbhfehboajpcaaGreatDoorCards
import Derived.SevenTiedAt
namespace Go.Proofs.YtjbhfehboajpcaaGreatDoor
open Go
set_option maxRecDepth 100000

theorem goes_none {P : Program} (h : P.funcs.any Func.goes = false) (f : FuncId) : P.goes f = false := by
  have h1 : ∀ g : Nat, (P.funcs[g]?).any Func.goes = false := fun g => by
    cases hg : P.funcs[g]? with
    | none => rfl
    | some fn =>
      rw [Array.any_eq_false] at h
      obtain ⟨hlt, rfl⟩ := Array.getElem?_eq_some_iff.1 hg
      have := h g hlt
      simpa using this
  have h2 : ((P.closure f).any fun g => (P.funcs[g]?).any Func.goes) = false := by
    rw [Bool.eq_false_iff]
    intro hc
    obtain ⟨g, _, hg⟩ := List.any_eq_true.1 hc
    rw [h1 g] at hg
    cases hg
  show (((P.closure f).any fun g => (P.funcs[g]?).any Func.goes) || (P.unfollowed f && P.funcs.any Func.goes)) = false
  rw [h2, h, Bool.and_false]
  rfl
theorem goesFrom_none {P : Program} (h : P.funcs.any Func.goes = false) (n : String) : P.goesFrom n = false := by
  unfold Program.goesFrom
  cases P.funcNamed n with
  | none => rfl
  | some f => exact goes_none h f
theorem goesAt_none {P : Program} (h : P.funcs.any Func.goes = false) (s : Start) (n : String) : P.goesAt s n = false := by
  unfold Program.goesAt
  rw [goesFrom_none h n, Bool.false_or]
  cases s with
  | entering => rfl
  | _ =>
    show P.inits.toList.any P.goes = false
    rw [Bool.eq_false_iff]
    intro hc
    obtain ⟨g, _, hg⟩ := List.any_eq_true.1 hc
    rw [goes_none h g] at hg
    cases hg
theorem goesBy_none {P : Program} (h : P.funcs.any Func.goes = false) (c : OpenClaim) : c.goesBy P = false := goesAt_none h c.start c.func

theorem cd_wf : Rows.runsVoidRow.wfByText (OpenSpec.ofChange Rows.runsVoidSpec) = true := by kernel_rfl
theorem cd_main : Tryz.prog.mainIs = some (true, "daed3c8967138b6ad832692064b07c33158968cb959b7e2b1852e054164f4c34".toList) := by kernel_rfl
theorem cd_stand : ([25, 26, 3].all fun u => !Tryz.prog.wantsStandIn u) = true := by kernel_rfl
theorem cd_looks : true = Tryz.prog.looks [] := by kernel_rfl
theorem cd_none : Tryz.prog.funcs.any Func.goes = false := by kernel_rfl
theorem cd_goes : false = Rows.runsVoidRow.goesBy Tryz.prog := (goesBy_none cd_none Rows.runsVoidRow).symm
end Go.Proofs.YtjbhfehboajpcaaGreatDoor
