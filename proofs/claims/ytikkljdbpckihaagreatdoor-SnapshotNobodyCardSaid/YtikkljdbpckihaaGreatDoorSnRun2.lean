/- What the run of the law SnapshotNobody asks of the program and of the world in which the call begins; conditions: those of StartOk. -/
import Derived.Test.YtikkljdbpckihaaGreatDoorSnRun1
set_option linter.unusedSimpArgs false
set_option linter.unusedVariables false
namespace Go.Vex
open Go.Proofs Go.Shelf Go.RowKit

theorem nm0 : Tryz.prog.funcs.toList.all (fun fn => !(fn.name == "runtime.NumGoroutine")) = true := by kernel_rfl
theorem mt0 : ([(721, "seedbed/world.on", 573), (179, "seedbed/world.begin", 559)] : List (TypeId × String × FuncId)).all (mtRow Tryz.prog) = true := by kernel_rfl
theorem tt0 : Γs.tt = mkTT Tryz.prog 0 Tryz.prog.types.toList .lf := by kernel_rfl
theorem ft0 : Γs.ft = mkFT 0 Tryz.prog.funcs.toList .lf := by kernel_rfl
theorem mt1 : Γs.mt = [(721, "seedbed/world.on", 573), (179, "seedbed/world.begin", 559)] := by kernel_rfl
theorem env_ok : EnvOk Tryz.prog Γs :=
  envOk tt0 ft0 (nm_ok nm0) (mt_ok (by
    intro r hr
    rw [mt1] at hr
    exact List.all_eq_true.1 mt0 r hr))

/-- where the blocks of the start lie -/
def γs (w : World) (b1 b2 : Nat → Bl) : Gm := fun i =>
  if i < 11 then some ⟨i, 0, match w.heap[i]? with | some (.cells cc _ _) => cc.size | _ => 0⟩
  else if i < 16 then none else if i < 22 then some (b1 (i - 16)) else if i < 28 then some (b2 (i - 22)) else none

/-- what the walk asks of the world in which the call begins -/
structure StartOk (w : World) : Prop where
  lv : ∃ bl : Nat → Bl, (∃ cc t fr, w.heap[2]? = some (.cells cc t fr) ∧ lvD.length ≤ cc.size ∧ ∀ (i : Nat) ds, lvD[i]? = some ds → cc[i]? = some (Value.slice (some ⟨(bl i).blk, (bl i).sh, none⟩) ds.length ds.length)) ∧
      ∀ (i : Nat) ds, lvD[i]? = some ds → TabAt Tryz.prog w 9 (bl i) ds
  op : ∃ bl : Nat → Bl, (∃ cc t fr, w.heap[3]? = some (.cells cc t fr) ∧ opD.length ≤ cc.size ∧ ∀ (i : Nat) ds, opD[i]? = some ds → cc[i]? = some (Value.slice (some ⟨(bl i).blk, (bl i).sh, none⟩) ds.length ds.length)) ∧
      ∀ (i : Nat) ds, opD[i]? = some ds → TabAt Tryz.prog w 3 (bl i) ds
  sp : ∃ o0, w.heap[8]? = some o0 ∧ ∀ c : Nat, c < 256 → w.cell? ⟨8, c, none⟩ = some (.int .u8 (if Lib.isSp (UInt8.ofNat c) then 1 else 0))

theorem start_rel {w : World} (S : StartOk w) : ∃ γ, Rel (prAt w) Γs.ng γ ⟨hmOf rows0 .lf, 28, .lf⟩ w := by
  obtain ⟨b1, ⟨c1, t1, f1, hw1, hl1, hc1⟩, ht1⟩ := S.lv
  obtain ⟨b2, ⟨c2, t2, f2, hw2, hl2, hc2⟩, ht2⟩ := S.op
  have g1 : ∀ i, i < lvD.length → γs w b1 b2 (16 + i) = some (b1 i) := by
    intro i hi
    have hi : i < 6 := hi
    simp only [γs]
    rw [if_neg (by omega), if_neg (by omega), if_pos (by omega), show 16 + i - 16 = i from by omega]
  have g2 : ∀ i, i < opD.length → γs w b1 b2 (22 + i) = some (b2 i) := by
    intro i hi
    have hi : i < 6 := hi
    simp only [γs]
    rw [if_neg (by omega), if_neg (by omega), if_neg (by omega), if_pos (by omega), show 22 + i - 22 = i from by omega]
  have S1 : ∀ (i : Nat) ds, lvD[i]? = some ds → γs w b1 b2 (16 + i) = some (b1 i) := fun i ds h => g1 i (List.getElem?_eq_some_iff.1 h).1
  have S2 : ∀ (i : Nat) ds, opD[i]? = some ds → γs w b1 b2 (22 + i) = some (b2 i) := fun i ds h => g2 i (List.getElem?_eq_some_iff.1 h).1
  have st : ∀ (i : Nat) (ds : List (DataW Unit)) (vs : List AV), lvD[i]? = some ds → vs = ds.map (fun d => match d with | .lit (.string s) => AV.str (s.map (·.toNat)) | _ => AV.nilptr) → (∀ d ∈ ds, ∃ s, d = DataW.lit (.string s)) →
      ∃ x, γs w b1 b2 (16 + i) = some x ∧ Holds0 (γs w b1 b2) w x vs := fun i ds vs h hv hd => ⟨_, S1 i ds h, strs_holds Tryz.underlying9 (ht1 i ds h) hv hd⟩
  have nt : ∀ (i : Nat) (ds : List (DataW Unit)) (vs : List AV), opD[i]? = some ds → vs = ds.map (fun d => match d with | .lit (.int k n) => AV.int k n | _ => AV.nilptr) → (∀ d ∈ ds, ∃ k n, d = DataW.lit (.int k n)) →
      ∃ x, γs w b1 b2 (22 + i) = some x ∧ Holds0 (γs w b1 b2) w x vs := fun i ds vs h hv hd => ⟨_, S2 i ds h, ints_holds Tryz.underlying3 (ht2 i ds h) hv hd⟩
  refine ⟨γs w b1 b2, start (fun i hi => ?_) (fun g hg => ?_) (fun i vs hm => ?_)⟩
  · simp only [γs]
    rw [if_neg (by omega), if_neg (by omega), if_neg (by omega), if_neg (by omega)]
  · have hg : g < 11 := hg
    exact ⟨_, by simp only [γs]; rw [if_pos hg]⟩
  · simp only [rows0, List.mem_cons, List.mem_nil_iff, or_false, Prod.mk.injEq] at hm
    rcases hm with ⟨rfl, rfl⟩ | ⟨rfl, rfl⟩ | ⟨rfl, rfl⟩ | ⟨rfl, rfl⟩ | ⟨rfl, rfl⟩ | ⟨rfl, rfl⟩ | ⟨rfl, rfl⟩ | ⟨rfl, rfl⟩ | ⟨rfl, rfl⟩ | ⟨rfl, rfl⟩ | ⟨rfl, rfl⟩ | ⟨rfl, rfl⟩ | ⟨rfl, rfl⟩ | ⟨rfl, rfl⟩
    · exact ⟨⟨2, 0, c1.size⟩, by simp only [γs]; rw [if_pos (by omega), hw1], tab_holds (k0 := 16) g1 hw1 hl1 hc1⟩
    · exact ⟨⟨3, 0, c2.size⟩, by simp only [γs]; rw [if_pos (by omega), hw2], tab_holds (k0 := 22) g2 hw2 hl2 hc2⟩
    · exact st 0 _ _ rfl rfl (by simp)
    · exact st 1 _ _ rfl rfl (by simp)
    · exact st 2 _ _ rfl rfl (by simp)
    · exact st 3 _ _ rfl rfl (by simp)
    · exact st 4 _ _ rfl rfl (by simp)
    · exact st 5 _ _ rfl rfl (by simp)
    · exact nt 0 _ _ rfl rfl (by simp)
    · exact nt 1 _ _ rfl rfl (by simp)
    · exact nt 2 _ _ rfl rfl (by simp)
    · exact nt 3 _ _ rfl rfl (by simp)
    · exact nt 4 _ _ rfl rfl (by simp)
    · exact nt 5 _ _ rfl rfl (by simp)

/-- the law's call answers true, and what lay before it lies as it did -/
theorem law_true {w : World} (S : StartOk w) : Calls Tryz.prog 3 #[] w fun e w' => e = .returned (.bool true) ∧ Below w.heap.size w w' := by
  obtain ⟨γ, r⟩ := start_rel S
  obtain ⟨o0, ho, hT⟩ := S.sp
  have hbody : ∃ code, Tryz.f512.body = some code := Option.isSome_iff_exists.1 (by kernel_rfl)
  obtain ⟨code, hcode⟩ := hbody
  have F : FieldsOk Tryz.prog Γs (Tryz.lays157_ren.g 0, o0) :=
    fieldsOk Tryz.lays157 (by kernel_rfl) ho hT rfl Tryz.func512 hcode (by kernel_rfl)
  exact closed_true env_ok F Tryz.lays157.mixed ho r run_true
end Go.Vex
