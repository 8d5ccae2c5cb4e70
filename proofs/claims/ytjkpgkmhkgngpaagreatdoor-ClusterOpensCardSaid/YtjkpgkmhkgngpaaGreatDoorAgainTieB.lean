/- What the program's door leaves. -/
import Derived.Test.YtjkpgkmhkgngpaaGreatDoorRows
import Derived.LaidOnce
import Derived.SevenTiedAt
import Derived.KernelRfl
namespace Go.Proofs.YtjkpgkmhkgngpaaGreatDoor.Again
open Go
set_option maxRecDepth 100000
noncomputable def lst2 : List (String × DataW Unit) := [("unicode/utf8.acceptRanges", Rows.laid_unicode_utf8_acceptRanges), ("strconv.ErrSyntax", Rows.laid_strconv_ErrSyntax), ("strconv.ErrRange", Rows.laid_strconv_ErrRange), ("internal/strconv.uint64pow10", Rows.laid_internal_strconv_uint64pow10), ("math/bits.deBruijn32tab", Rows.laid_math_bits_deBruijn32tab), ("math/bits.deBruijn64tab", Rows.laid_math_bits_deBruijn64tab), ("unicode.asciiFold", Rows.laid_unicode_asciiFold), ("unicode.caseOrbit", Rows.laid_unicode_caseOrbit)]
theorem leaves (os : Os) (tape : Tape) : doorLeaves Tryz.prog 400 8 1000 lst2 os tape = some (lst2.filter fun x => x.2.handleName?.isNone, (funcsListed lst2).map (·.2.funcsOut)) := by kernel_rfl
end Go.Proofs.YtjkpgkmhkgngpaaGreatDoor.Again
