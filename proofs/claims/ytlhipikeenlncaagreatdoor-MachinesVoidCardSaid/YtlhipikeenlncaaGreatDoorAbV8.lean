/-
  'nestboxlaw35.MachinesVoid': the card's closed facts, one by one.
-/
import Derived.Test.YtlhipikeenlncaaGreatDoorRows
import Derived.Test.YtlhipikeenlncaaGreatDoorCards
import Derived.SevenTiedAt
namespace Go.Proofs.YtlhipikeenlncaaGreatDoor
open Go
set_option maxRecDepth 100000

theorem cd_wf : Rows.machinesVoidRow.wfByText (OpenSpec.ofChange Rows.machinesVoidSpec) = true := by kernel_rfl
theorem cd_main : Tryz.prog.mainIs = some (true, "e939c6bc943355ed5513aeed1deeec6a96a424672dd5165b09bbb41f0cb84fb7".toList) := by kernel_rfl
theorem cd_stand : ([25, 3].all fun u => !Tryz.prog.wantsStandIn u) = true := by kernel_rfl
theorem cd_looks : true = Tryz.prog.looks [] := by kernel_rfl
theorem cd_goes : false = Rows.machinesVoidRow.goesBy Tryz.prog := by kernel_rfl
end Go.Proofs.YtlhipikeenlncaaGreatDoor
