/- The tie of the row SnapshotNobody: the program's own text lays the listed tables; each closed fact by the kernel alone; no conditions. -/
import Derived.Test.YtikkljdbpckihaaGreatDoorRows
import Derived.LaidByTextLater
import Derived.LaidOnce
import Derived.SevenTiedAt
import Derived.KernelRfl
namespace Go.Proofs.YtikkljdbpckihaaGreatDoor
open Go
set_option maxRecDepth 100000
def lst : List (String × DataW Unit) := [("internal/strconv.uint64pow10", Rows.laid_internal_strconv_uint64pow10), ("math/bits.deBruijn32tab", Rows.laid_math_bits_deBruijn32tab), ("math/bits.deBruijn64tab", Rows.laid_math_bits_deBruijn64tab), ("seedbed/seedbedref02.levels", Rows.laid_seedbed_seedbedref02_levels), ("seedbed/seedbedref02.ops", Rows.laid_seedbed_seedbedref02_ops), ("strings.asciiSpace", Rows.laid_strings_asciiSpace), ("unicode.White_Space", Rows.laid_unicode_White_Space), ("unicode/utf8.acceptRanges", Rows.laid_unicode_utf8_acceptRanges)]
def knd : List LaidKind := [.data, .data, .data, .data, .data, .data, .listed, .data]
theorem tie1 : Tryz.prog.worded (varsWordLater true) = true := by kernel_rfl
theorem tie2 : Tryz.prog.worded (varsWordLater !true) = false := by kernel_rfl
theorem tie3 : Tryz.prog.worded rootWordLater = true := by kernel_rfl
theorem tie4 : lst.map (fun x => Tryz.prog.kindOfLater x.1) = knd.map some := by kernel_rfl
theorem tie5 : (Tryz.prog.funcNamed "gosem.cut.vars").isSome = true := by kernel_rfl
theorem tie6 : varsNamedLaterB Tryz.prog (varsId Tryz.prog) lst = true := by kernel_rfl
theorem tieOne (os : Os) (tape : Tape) : doorLeaves Tryz.prog 80 8 257 lst os tape = some (lst.filter fun x => x.2.handleName?.isNone, (funcsListed lst).map (·.2.funcsOut)) := by kernel_rfl
theorem tie : Tryz.prog.laidByTextLater lst knd true :=
  Program.laidByTextLater_by_one 80 8 257 tie1 tie2 tie3 tie4 tie5 tie6 tieOne
theorem pin_first : Tryz.pinned.checked.prog.pinnedFits "unicode/utf8.first" = true := by kernel_rfl
theorem noOwnUnsafe : Tryz.pinned.checked.prog.headLifts.contains "ownunsafe" = false := by kernel_rfl
theorem fits1 : Tryz.pinned.checked.prog.listedFits Rows.snapshotNobodyRow.laid = true := by
  unfold Program.listedFits
  rw [noOwnUnsafe]
  kernel_rfl
theorem row_tie : Rows.snapshotNobodyRow.laidByTextAt .later Tryz.pinned [.data, .data, .data, .data, .data, .data, .listed, .pinned, .data] true :=
  OpenClaim.laidByTextAt_pinned rfl rfl tie rfl rfl rfl rfl (fun y hy _e => by
    simp only [Rows.snapshotNobodyRow, List.zip_cons_cons, List.zip_nil_right, List.mem_cons, List.mem_nil_iff, or_false] at hy
    rcases hy with rfl | rfl | rfl | rfl | rfl | rfl | rfl | rfl | rfl
    · cases _e
    · cases _e
    · cases _e
    · cases _e
    · cases _e
    · cases _e
    · cases _e
    · exact ⟨pin_first, by kernel_rfl⟩
    · cases _e) fits1
end Go.Proofs.YtikkljdbpckihaaGreatDoor
