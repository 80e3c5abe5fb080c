/-
  'nestboxlaw39.RunsVoid': the tie's closed facts: where it is laid.
-/
import Derived.Test.YtjbhfehboajpcaaGreatDoorAbT1
namespace Go.Proofs.YtjbhfehboajpcaaGreatDoor
open Go
set_option maxRecDepth 100000
theorem t_h2 (os : Os) (tape : Nat → Question → Nat) : (DataW.laidRun Tryz.prog (varsWorld Tryz.prog 400 (varsId Tryz.prog) os tape).memory 8 (tieList.map (·.1))).map (fun x => decide x.2.Nodup && laidRowsB Tryz.prog (varsWorld Tryz.prog 400 (varsId Tryz.prog) os tape).memory x.2) = some true := by kernel_rfl
theorem t_hp : (tieList.all fun x => x.2.handleName?.isNone) = true := by kernel_rfl
theorem t_fits : Tryz.pinned.checked.prog.listedFits [("unicode/utf8.first", Rows.laid_unicode_utf8_first), ("unicode/utf8.acceptRanges", Rows.laid_unicode_utf8_acceptRanges), ("strconv.ErrSyntax", Rows.laid_strconv_ErrSyntax), ("strconv.ErrRange", Rows.laid_strconv_ErrRange), ("internal/strconv.uint64pow10", Rows.laid_internal_strconv_uint64pow10), ("math/bits.deBruijn32tab", Rows.laid_math_bits_deBruijn32tab), ("math/bits.deBruijn64tab", Rows.laid_math_bits_deBruijn64tab)] = true := by
  unfold Program.listedFits
  rw [t_unsafe]
  kernel_rfl
end Go.Proofs.YtjbhfehboajpcaaGreatDoor
