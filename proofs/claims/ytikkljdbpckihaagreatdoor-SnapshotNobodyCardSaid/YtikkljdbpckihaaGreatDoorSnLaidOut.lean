/- Each row of the program's table of types is laid out as it should be; by the kernel, in parts; no conditions. -/
import Derived.Test.YtikkljdbpckihaaGreatDoorProg
import Derived.JoinedOf
import Derived.KernelRfl
namespace Go.Proofs.YtikkljdbpckihaaGreatDoor
theorem types_size : Tryz.prog.types.size = 725 := by kernel_rfl
theorem rows_a : (List.range' 0 120).all (rowFine Tryz.prog) = true := by kernel_rfl
theorem rows_b : (List.range' 120 120).all (rowFine Tryz.prog) = true := by kernel_rfl
theorem rows_c : (List.range' 240 120).all (rowFine Tryz.prog) = true := by kernel_rfl
theorem rows_d : (List.range' 360 120).all (rowFine Tryz.prog) = true := by kernel_rfl
theorem rows_e : (List.range' 480 120).all (rowFine Tryz.prog) = true := by kernel_rfl
theorem rows_f : (List.range' 600 125).all (rowFine Tryz.prog) = true := by kernel_rfl
theorem part_of {P : Program} {a n t : Nat} (h : (List.range' a n).all (rowFine P) = true) (h1 : a ≤ t) (h2 : t < a + n) : rowFine P t = true :=
  List.all_eq_true.1 h t (List.mem_range'_1.2 ⟨h1, h2⟩)
theorem rows_all : (List.range Tryz.prog.types.size).all (rowFine Tryz.prog) = true := by
  rw [types_size]
  refine List.all_eq_true.2 fun t ht => ?_
  have ht : t < 725 := List.mem_range.1 ht
  by_cases h1 : t < 120
  · exact part_of rows_a (by omega) (by omega)
  by_cases h2 : t < 240
  · exact part_of rows_b (by omega) (by omega)
  by_cases h3 : t < 360
  · exact part_of rows_c (by omega) (by omega)
  by_cases h4 : t < 480
  · exact part_of rows_d (by omega) (by omega)
  by_cases h5 : t < 600
  · exact part_of rows_e (by omega) (by omega)
  · exact part_of rows_f (by omega) (by omega)
theorem globals_in : Tryz.prog.globals.all (fun g => decide (g.type < Tryz.prog.types.size)) = true := by kernel_rfl
theorem funcs_in : Tryz.prog.funcs.all (fun f => f.params.all fun t => decide (t < Tryz.prog.types.size)) = true := by kernel_rfl
theorem laid_out : laidOutB Tryz.prog = true := by
  unfold laidOutB
  rw [rows_all, globals_in, funcs_in]
  rfl
end Go.Proofs.YtikkljdbpckihaaGreatDoor
