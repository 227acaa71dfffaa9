/- The row's tie, in pieces: the library's variables read as listed behind their initialisers. -/
import Derived.Test.YtbkeeghkpkfeiaaGreatDoorRows
import Derived.LaidByTextLater
import Derived.SevenTiedAt
import Derived.KernelRfl
namespace Go.Proofs.YtbkeeghkpkfeiaaGreatDoor
open Go
namespace Ti
noncomputable def L : List (String × DataW Unit) := [("strconv.ErrSyntax", Rows.laid_strconv_ErrSyntax), ("strconv.ErrRange", Rows.laid_strconv_ErrRange), ("internal/strconv.uint64pow10", Rows.laid_internal_strconv_uint64pow10), ("math/bits.deBruijn32tab", Rows.laid_math_bits_deBruijn32tab), ("math/bits.deBruijn64tab", Rows.laid_math_bits_deBruijn64tab), ("unicode/utf8.acceptRanges", Rows.laid_unicode_utf8_acceptRanges)]
noncomputable def K : List LaidKind := [.sentinel, .sentinel, .data, .data, .data, .data]
set_option maxRecDepth 100000
theorem w1 : Tryz.prog.worded (varsWordLater true) = true := by kernel_rfl
theorem w2 : Tryz.prog.worded (varsWordLater !true) = false := by kernel_rfl
theorem w3 : Tryz.prog.worded rootWordLater = true := by kernel_rfl
theorem w4 : L.map (fun x => Tryz.prog.kindOfLater x.1) = K.map some := by kernel_rfl
theorem w5 : (Tryz.prog.funcNamed "gosem.cut.vars").isSome = true := by kernel_rfl
theorem w10 : (L.all fun x => x.2.handleName?.isNone) = true := by kernel_rfl
theorem pin1 : Tryz.prog.pinnedFits "unicode/utf8.first" = true := by kernel_rfl
theorem noOwn : Tryz.prog.headLifts.contains "ownunsafe" = false := by kernel_rfl
end Ti
end Go.Proofs.YtbkeeghkpkfeiaaGreatDoor
