/- Closed facts of the card of SnapshotNobody, each by the kernel alone; no conditions. -/
import Derived.Test.YtikkljdbpckihaaGreatDoorRows
import Derived.SevenTiedAt
import Derived.KernelRfl
namespace Go.Proofs.YtikkljdbpckihaaGreatDoor
open Go
set_option maxRecDepth 100000
theorem cf1 : Rows.snapshotNobodyRow.wfByText (OpenSpec.ofChange Rows.snapshotNobodySpec) = true := by kernel_rfl
theorem cf2 : Tryz.prog.mainIs = some (true, "d48897b65fbe90d87f99a96a38328a6ef5eb68ae4b035e69ac03e2763e9a2b77".toList) := by kernel_rfl
theorem cf5 : Tryz.prog.funcNamed "seedbed/seedbedlaw26.SnapshotNobody" = some 3 := by kernel_rfl
theorem cf3 : true = Tryz.prog.looks [] := by kernel_rfl
theorem none_goes : Tryz.prog.funcs.any Func.goes = false := by kernel_rfl
theorem goes3 : Tryz.prog.goes 3 = false := by
  unfold Program.goes
  rw [none_goes, Bool.and_false, Bool.or_false]
  refine List.any_eq_false.2 fun g _ => ?_
  cases hg : Tryz.prog.funcs[g]? with
  | none => simp
  | some fn =>
    have hm : fn ∈ Tryz.prog.funcs.toList := List.mem_of_getElem? (i := g) (by simpa using hg)
    have h := none_goes
    rw [← Array.any_toList] at h
    have := List.any_eq_false.1 h fn hm
    simpa using this
theorem goesBy_of {P : Program} {c : OpenClaim} {f : FuncId} (h1 : c.start = .entering) (h2 : P.funcNamed c.func = some f) (h3 : P.goes f = false) : false = c.goesBy P := by
  unfold OpenClaim.goesBy Program.goesAt Program.goesFrom
  rw [h1, h2]
  simp [h3]
theorem cf6 : Tryz.prog.funcNamed Rows.snapshotNobodyRow.func = some 3 := cf5
theorem cf4 : false = Rows.snapshotNobodyRow.goesBy Tryz.prog := goesBy_of rfl cf6 goes3
end Go.Proofs.YtikkljdbpckihaaGreatDoor
