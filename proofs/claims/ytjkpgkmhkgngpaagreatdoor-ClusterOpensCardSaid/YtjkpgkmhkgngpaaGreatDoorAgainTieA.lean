/- What the program's door names: the listed variables. -/
import Derived.Test.YtjkpgkmhkgngpaaGreatDoorRows
import Derived.LaidOnce
import Derived.SevenTiedAt
import Derived.KernelRfl
namespace Go.Proofs.YtjkpgkmhkgngpaaGreatDoor.Again
open Go
set_option maxRecDepth 100000
noncomputable def lst : List (String × DataW Unit) := [("unicode/utf8.acceptRanges", Rows.laid_unicode_utf8_acceptRanges), ("strconv.ErrSyntax", Rows.laid_strconv_ErrSyntax), ("strconv.ErrRange", Rows.laid_strconv_ErrRange), ("internal/strconv.uint64pow10", Rows.laid_internal_strconv_uint64pow10), ("math/bits.deBruijn32tab", Rows.laid_math_bits_deBruijn32tab), ("math/bits.deBruijn64tab", Rows.laid_math_bits_deBruijn64tab), ("unicode.asciiFold", Rows.laid_unicode_asciiFold), ("unicode.caseOrbit", Rows.laid_unicode_caseOrbit)]
theorem named : varsNamedLaterB Tryz.prog (varsId Tryz.prog) lst = true := by kernel_rfl
end Go.Proofs.YtjkpgkmhkgngpaaGreatDoor.Again
