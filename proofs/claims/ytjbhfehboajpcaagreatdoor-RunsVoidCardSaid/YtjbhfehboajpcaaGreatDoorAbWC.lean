/-
  'nestboxlaw39.RunsVoid': the type table's facts, out of 'Checked'.
-/
import Derived.Test.YtjbhfehboajpcaaGreatDoorChecked
import Derived.ClosedOfChecked
namespace Go.Proofs.YtjbhfehboajpcaaGreatDoor
open Go Go.ClosedOfChecked
set_option maxRecDepth 100000

theorem tb_types : Tryz.prog.types = Tryz.src.types := by kernel_rfl
theorem tb_all : AllSpec Tryz.prog := allSpec_of Tryz.wellFormed tb_types
theorem tb_rest : (Tryz.prog.globals.all (fun g => decide (g.type < Tryz.prog.types.size)) && Tryz.prog.funcs.all (fun f => f.params.all fun t => decide (t < Tryz.prog.types.size))) = true := by kernel_rfl
theorem tb_laid : laidOutB Tryz.prog = true := laidOutB_of tb_all tb_rest
theorem tb_maps : mapsRowed Tryz.prog = true := mapsRowed_of tb_all
end Go.Proofs.YtjbhfehboajpcaaGreatDoor
