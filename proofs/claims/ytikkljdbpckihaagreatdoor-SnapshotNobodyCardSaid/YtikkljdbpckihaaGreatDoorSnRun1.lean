/- The run of the law SnapshotNobody by the checked interpreter: it says true; conditions: none beyond what the theorems state. -/
import Derived.Test.YtikkljdbpckihaaGreatDoorVexMt
import Derived.Test.YtikkljdbpckihaaGreatDoorVexLaid
import Derived.Test.YtikkljdbpckihaaGreatDoorSnLays
import Derived.KernelRfl
import Derived.Lib.LaidTab
set_option linter.unusedSimpArgs false
set_option linter.unusedVariables false
namespace Go.Vex
open Go.Proofs Go.Shelf

/-- the two tables, as they are laid -/
def lvD : List (List (DataW Unit)) := [[.lit (.string [124, 124])], [.lit (.string [38, 38])], [.lit (.string [61, 61]), .lit (.string [33, 61])], [.lit (.string [60]), .lit (.string [60, 61]), .lit (.string [62]), .lit (.string [62, 61])], [.lit (.string [43]), .lit (.string [45])], [.lit (.string [42]), .lit (.string [47]), .lit (.string [37])]]
def opD : List (List (DataW Unit)) := [[.lit (.int .i64 7)], [.lit (.int .i64 8)], [.lit (.int .i64 9), .lit (.int .i64 10)], [.lit (.int .i64 11), .lit (.int .i64 12), .lit (.int .i64 13), .lit (.int .i64 14)], [.lit (.int .i64 15), .lit (.int .i64 16)], [.lit (.int .i64 17), .lit (.int .i64 18), .lit (.int .i64 19)]]

/-- the heap at the start, as far as the run reads it -/
def rows0 : List (Nat × List AV) := [
  (2, [.slice 16 0 1 (.k 1), .slice 17 0 1 (.k 1), .slice 18 0 2 (.k 2), .slice 19 0 4 (.k 4), .slice 20 0 2 (.k 2), .slice 21 0 3 (.k 3)]),
  (3, [.slice 22 0 1 (.k 1), .slice 23 0 1 (.k 1), .slice 24 0 2 (.k 2), .slice 25 0 4 (.k 4), .slice 26 0 2 (.k 2), .slice 27 0 3 (.k 3)]),
  (16, [.str [124, 124]]),
  (17, [.str [38, 38]]),
  (18, [.str [61, 61], .str [33, 61]]),
  (19, [.str [60], .str [60, 61], .str [62], .str [62, 61]]),
  (20, [.str [43], .str [45]]),
  (21, [.str [42], .str [47], .str [37]]),
  (22, [.int .i64 (7)]),
  (23, [.int .i64 (8)]),
  (24, [.int .i64 (9), .int .i64 (10)]),
  (25, [.int .i64 (11), .int .i64 (12), .int .i64 (13), .int .i64 (14)]),
  (26, [.int .i64 (15), .int .i64 (16)]),
  (27, [.int .i64 (17), .int .i64 (18), .int .i64 (19)])]

theorem rows0_lv : rows0[0]? = some (2, lvD.mapIdx fun i ds => AV.slice (16 + i) 0 ds.length (.k ds.length)) := rfl
theorem rows0_op : rows0[1]? = some (3, opD.mapIdx fun i ds => AV.slice (22 + i) 0 ds.length (.k ds.length)) := rfl

noncomputable def Γs : Env := { tt := mkTT Tryz.prog 0 Tryz.prog.types.toList .lf, ft := mkFT 0 Tryz.prog.funcs.toList .lf, mt := [(721, "seedbed/world.on", 573), (179, "seedbed/world.begin", 559)], fields := 512, ng := 11 }

set_option maxRecDepth 100000 in
theorem run_true : saysTrue 3 (runCallF Γs 30000 3 [] ⟨hmOf rows0 .lf, 28, .lf⟩) = true := by kernel_rfl

end Go.Vex
