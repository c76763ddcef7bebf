/- The law SnapshotNobody: its call, begun in any world in which the listed tables read as they are laid, returns true, and all memory that lay before it is as it was. Conditions: those of the given row. -/
import Derived.Test.YtikkljdbpckihaaGreatDoorSnRun2
import Derived.Test.YtikkljdbpckihaaGreatDoorSnFacts
import Derived.Test.YtikkljdbpckihaaGreatDoorRows
import Derived.ProofKit
import Derived.OpenShut
import Derived.LaidMore
import Derived.Lay
import Derived.Stop.Joined
import Derived.Stop.LaidErr
import Derived.Deep.Onto
import Derived.Lib.FieldsLaws
set_option linter.unusedSimpArgs false
set_option linter.unusedVariables false
namespace Go.Proofs.YtikkljdbpckihaaGreatDoor
open Go.ChangeShapes Go.WideShapes Go.ChangeAt Go.RowKit Go.Vex

theorem own : ownKnob Tryz.prog.godebug = none := by kernel_rfl
theorem params3 : Tryz.f3.params = #[] := rfl
theorem results3 : Tryz.f3.resultTypes = #[4] := rfl

/-- one of the listed variables by itself -/
theorem laid_one {P : Program} {W : World} : ∀ {l : List (String × DataW Unit)} {ps : List MemPlace} {x : String × DataW Unit}, DataW.LaidVars P W l ps → x ∈ l → ∃ q, DataW.LaidVars P W [x] q
  | [], _, _, _, h => by cases h
  | (n, d) :: r, ps, x, hv, h => by
    obtain ⟨g, t, cs, fuel, p, q, h1, h2, h3, h4, hq, _⟩ := hv
    rcases List.mem_cons.1 h with rfl | h
    · exact ⟨_, g, t, cs, fuel, p, [], h1, h2, h3, h4, rfl, rfl⟩
    · exact laid_one hq h

/-- what the row's condition gives the walk -/
theorem start_ok {W : World} (h : laidMetH Tryz.prog Rows.snapshotNobodyRow.laid W) : StartOk W := by
  rw [MakeChecks.laidMetH_plain _ _ _ (by kernel_rfl)] at h
  obtain ⟨ps, hv, _, _⟩ := h
  have e3 : (Rows.laid_seedbed_seedbedref02_levels : DataW Unit) = .agg (lvD.map fun ds => DataW.slice ds []) := rfl
  have e4 : (Rows.laid_seedbed_seedbedref02_ops : DataW Unit) = .agg (opD.map fun ds => DataW.slice ds []) := rfl
  have e8 : (Rows.laid_strings_asciiSpace : DataW Unit) = Lib.tabData .u8 Lib.asciiSpaceTab := by kernel_rfl
  obtain ⟨q3, hv3⟩ := laid_one (x := ("seedbed/seedbedref02.levels", Rows.laid_seedbed_seedbedref02_levels)) hv (by simp [Rows.snapshotNobodyRow])
  obtain ⟨q4, hv4⟩ := laid_one (x := ("seedbed/seedbedref02.ops", Rows.laid_seedbed_seedbedref02_ops)) hv (by simp [Rows.snapshotNobodyRow])
  obtain ⟨q8, g, t, cs, fuel, p, q, hg, ht, hw, hd, _, _⟩ := laid_one (x := ("strings.asciiSpace", Rows.laid_strings_asciiSpace)) hv (by simp [Rows.snapshotNobodyRow])
  rw [e3] at hv3
  rw [e4] at hv4
  rw [e8] at hd
  obtain rfl := Option.some.inj ((show Tryz.prog.globalNamed "strings.asciiSpace" = some 8 by kernel_rfl).symm.trans hg)
  obtain rfl := Option.some.inj ((show (Tryz.prog.globals[8]?).map (·.type) = some 666 by kernel_rfl).symm.trans ht)
  have hcs := Lib.cells_of_tab Tryz.underlying666 Tryz.underlying5 (by kernel_rfl) (by kernel_rfl) hd
  have tab : Lib.TabIs Tryz.prog W "strings.asciiSpace" .u8 Lib.asciiSpaceTab := by
    unfold Lib.TabIs
    rw [hw, ← hcs]
  refine ⟨laid_tab (g := 2) (by kernel_rfl) (by kernel_rfl) Tryz.underlying469 Tryz.underlying66 (by kernel_rfl) (by kernel_rfl) (by decide) hv3,
    laid_tab (g := 3) (by kernel_rfl) (by kernel_rfl) Tryz.underlying470 Tryz.underlying28 (by kernel_rfl) (by kernel_rfl) (by decide) hv4, ?_⟩
  obtain ⟨t, fr, hb⟩ := var_heap (g := 8) (by kernel_rfl) tab
  refine ⟨_, hb, fun c hc => ?_⟩
  rw [tab.cell (g := 8) (by kernel_rfl) c (by rw [Lib.asciiSpaceTab_length]; exact hc), Lib.asciiSpaceTab_at c hc]

set_option maxRecDepth 100000 in
theorem lifted (os : Os) (started : os.Started) (H : Type) (enc : TypeId × Value → H) :
    ReturnsInHanded {} Tryz.checked os 3 .any (fun w args => (Rows.snapshotNobodySpec.pre enc Tryz.prog Tryz.f3 [] false w args ∧ laidMetH Tryz.prog Rows.snapshotNobodyRow.laid w) ∧ sizedMet enc Tryz.prog Tryz.f3 (OpenSpec.ofChange Rows.snapshotNobodySpec) false w args)
      (Rows.snapshotNobodySpec.post enc Tryz.prog Tryz.f3 false true false false) := by
  refine returnsInHanded_of_change_and (C := Tryz.checked) (X := fun w _ => laidMetH Tryz.prog Rows.snapshotNobodyRow.laid w) (fun _ _ _ hh h => h.of_heap hh) own started (by kernel_rfl) Tryz.func3
    (ChangeSpec.witness_shaped (enc := enc) (C := Tryz.checked) (os := os) (X := fun w _ => laidMetH Tryz.prog Rows.snapshotNobodyRow.laid w) false (World.laidAll Tryz.prog os Rows.snapshotNobodyRow.laid) #[] 8 (World.laidAll_os _ _ _)
      (World.shaped_of_ZipB (by kernel_rfl) (by kernel_rfl)) (by kernel_rfl) (by kernel_rfl) (by kernel_rfl)
      (by rw [MakeChecks.laidMetH_plain _ _ _ (by kernel_rfl)]; exact laidMet_laidAll _ (by kernel_rfl) (by kernel_rfl))) ?_
  intro W base args ds gs before hval0 hW _ _ hL _
  obtain ⟨p, q, hA, hV, rfl, hz, hn⟩ := hW
  have hargs : args = #[] := by
    rw [params3] at hA
    obtain ⟨l⟩ := args
    cases l with
    | nil => rfl
    | cons a l => exact hA.elim
  subst hargs
  refine (law_true (start_ok hL)).mono fun e W' ⟨he, hw⟩ => ?_
  subst he
  refine ⟨_, rfl, [], [], [], [], [], [], ⟨[], [], rfl, rfl, rfl, fun b off hp => (by cases hp), fun _ => List.nodup_nil⟩, ?_, rfl, rfl, ?_, fun h => (by cases h)⟩
  · exact trodAll_mk1 (shut_bool Tryz.underlying4 _)
  · exact World.keptBut.congr (World.keptBut_refl W _) hw.os hw.output hw.block

theorem snapshotNobody_holds : Rows.SnapshotNobodySaid :=
  OpenClaim.holds_of_wide 3 Tryz.f3 rfl rfl rfl rfl rfl rfl rfl ⟨rfl, rfl, rfl, rfl, rfl⟩ rfl rfl rfl rfl rfl (by kernel_rfl) Tryz.func3 closed
    (of_decide_eq_true (by kernel_rfl)) (by unfold Func.isWrapper; first | (rw [if_pos (by decide +kernel)]; kernel_rfl) | (rw [if_neg (by decide +kernel)]; exact ⟨rfl, rfl⟩))
    (fun os started H enc _ => lifted os started H enc)
#print axioms snapshotNobody_holds
end Go.Proofs.YtikkljdbpckihaaGreatDoor
