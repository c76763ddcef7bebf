/- Part VexOps2 of a checked interpreter for closed calls: what it answers, the machine of the model answers; its conditions are those of its theorems. -/
import Derived.Test.YtikkljdbpckihaaGreatDoorVexOps
set_option linter.unusedSimpArgs false
set_option linter.unusedVariables false
namespace Go.Vex

def ON (v : Option Value) (d n : Nat) : Prop := (v = none ∧ n = d) ∨ ∃ k, v = some (.int k (n : Int))

theorem bounds_ok {P : Program} (w : World) (b : Bool) (len cap : Nat) {lo hi : Option Value} {l h : Nat} (hh : ON hi len h) (hl : ON lo 0 l) (h1 : l ≤ h) (h2 : h ≤ cap) :
    (Instr.sliceBounds b len cap lo hi none).run P w = .ok (l, h, cap) w := by
  have e1 : ∀ k (c : BoundsCode), (Instr.sliceBound (.int k (h : Int)) cap c).run P w = .ok h w := fun k c => by
    rw [run_sliceBound _ _ _ _ _ (by omega) (by omega)]; simp
  have e2 : ∀ k (c : BoundsCode), (Instr.sliceBound (.int k (l : Int)) h c).run P w = .ok l w := fun k c => by
    rw [run_sliceBound _ _ _ _ _ (by omega) (by omega)]; simp
  rcases hh with ⟨rfl, rfl⟩ | ⟨k, rfl⟩ <;> rcases hl with ⟨rfl, rfl⟩ | ⟨k', rfl⟩ <;> simp [Instr.sliceBounds, e1, e2]

theorem nums_extract (s : ByteArray) (l h : Nat) : nums (s.extract l h) = ((nums s).drop l).take (h - l) := by
  simp [nums, ByteArray.data_extract]
theorem nums_length (s : ByteArray) : (nums s).length = s.size := by simp [nums]

theorem VR.str' (γ : Gm) (s : ByteArray) {l : List Nat} (h : l = nums s) : VR γ (.str l) (.string s) := by subst h; exact .str s

section
variable {P : Program} {Γ : Env} (G : EnvOk P Γ) {pr : Pr} {γ : Gm} {h : H} {w : World} (r : Rel pr Γ.ng γ h w)

include r in
theorem optNat_on {tm : T AV} {nt : Nat} {act : Act} (ht : TR γ nt tm act.tmps) {d n : Nat} {x : Option Operand} (e : optNat Γ tm d x = .ok n) : ON (x.map act.eval) d n := by
  rcases optNat_ok r ht e with ⟨rfl, rfl⟩ | ⟨o, k, rfl, hk⟩
  · exact .inl ⟨rfl, rfl⟩
  · exact .inr ⟨k, by simp [hk]⟩

theorem beq_nat {a b : Nat} : a.beq b = decide (a = b) := by rw [Bool.eq_iff_iff]; simp

include G r in
theorem sliceA_ok {tm : T AV} {nt : Nat} {act : Act} (ht : TR γ nt tm act.tmps) {t : TypeId} {x : AV} {vx : Value} {lo hi mx : Option Operand} {a : AV} (e : sliceA Γ t x tm lo hi mx = .ok a) (hx : VR γ x vx) :
    ∃ v, (Instr.sliceAt t vx (lo.map act.eval) (hi.map act.eval) (mx.map act.eval)).run P w = .ok v w ∧ VR γ a v := by
  unfold sliceA at e
  obtain ⟨i, hi', e1⟩ := bd_ok e; clear e
  obtain ⟨info, k⟩ := G.tt _ _ (og_ok hi')
  have hu := k.run_und w
  split at e1
  · rename_i s hd
    obtain ⟨hh, h1, e2⟩ := bd_ok e1; clear e1
    obtain ⟨ll, h2, e3⟩ := bd_ok e2; clear e2
    obtain ⟨hb, e4⟩ := gd_ok e3; clear e3
    simp at e4; subst e4
    cases hx
    rename_i bs
    have hb' : ll ≤ hh ∧ hh ≤ (nums bs).length := by simpa [nums] using hb
    rw [nums_length] at hb'
    have o1 : ON (hi.map act.eval) bs.size hh := by
      have := optNat_on r ht h1
      rw [show (List.map (fun x => x.toNat) bs.data.toList).length = bs.size from by simp] at this
      exact this
    have := bounds_ok (P := P) w false bs.size bs.size o1 (optNat_on r ht h2) hb'.1 hb'.2
    rw [hd] at hu
    refine ⟨.string (bs.extract ll hh), ?_, VR.str' γ _ (by rw [nums_extract]; rfl)⟩
    simp [Instr.sliceAt, Instr.slice, hu, this]
  · rename_i el hd
    obtain ⟨hh, h1, e2⟩ := bd_ok e1; clear e1
    obtain ⟨ll, h2, e3⟩ := bd_ok e2; clear e2
    obtain ⟨ei, he, e3'⟩ := bd_ok e3; clear e3
    obtain ⟨info2, k2⟩ := G.tt _ _ (og_ok he)
    have hs := k2.run_size w
    obtain ⟨hb, e4⟩ := gd_ok e3'; clear e3'
    simp at e4; subst e4
    cases hx
    have hb' : hh = 0 ∧ ll = 0 := by simpa [beq_nat] using hb
    obtain ⟨rfl, rfl⟩ := hb'
    have := bounds_ok (P := P) w true 0 0 (optNat_on r ht h1) (optNat_on r ht h2) (Nat.le_refl _) (Nat.le_refl _)
    rw [hd] at hu
    have hund : P.underlying t = some (.slice el) := by rw [← hd]; exact k.und
    refine ⟨.slice none 0 0, ?_, .nilslice⟩
    simp [Instr.sliceAt, Instr.slice, hu, this, hs]
  · rename_i el b o len cap hd
    obtain ⟨hh, h1, e2⟩ := bd_ok e1; clear e1
    obtain ⟨ll, h2, e3⟩ := bd_ok e2; clear e2
    obtain ⟨ei, he, e4⟩ := bd_ok e3; clear e3
    obtain ⟨hb, e5⟩ := gd_ok e4; clear e4
    obtain ⟨info2, k2⟩ := G.tt _ _ (og_ok he)
    have hs := k2.run_size w
    rw [hd] at hu
    cases hx with
    | sliceK o len c hγ hl ho =>
      rename_i x o'
      simp at e5; subst e5
      have hb' : ll ≤ hh ∧ hh ≤ c := by simpa using hb
      have := bounds_ok (P := P) w true len c (optNat_on r ht h1) (optNat_on r ht h2) hb'.1 hb'.2
      simp only [Option.map_none, Instr.sliceAt, Instr.slice, Sem.run_bind, hu, Result.andThen_ok, this, hs, Sem.run_pure]
      refine ⟨_, rfl, ?_⟩
      by_cases hcl : c = ll
      · subst hcl
        simp only [if_true, beq_nat, decide_true]
        exact .sliceK _ _ _ hγ (by omega) (by omega)
      · simp only [hcl, if_false, beq_nat, decide_false, Option.map_some, addr_add]
        have : o' = x.sh + o := ho (by omega)
        exact .sliceK _ _ _ hγ (by omega) (by omega)
    | sliceU o len es hγ hl ho =>
      rename_i x o' c
      dsimp only at e5
      obtain ⟨hes, e6⟩ := gd_ok e5; clear e5
      have hes' : es = ei.size := by simpa using hes
      simp at e6; subst e6
      have hb' : ll ≤ hh ∧ hh ≤ len := by simpa using hb
      have := bounds_ok (P := P) w true len c (optNat_on r ht h1) (optNat_on r ht h2) hb'.1 (by omega)
      simp only [Option.map_none, Instr.sliceAt, Instr.slice, Sem.run_bind, hu, Result.andThen_ok, this, hs, Sem.run_pure]
      refine ⟨_, rfl, ?_⟩
      by_cases hcl : c = ll
      · subst hcl
        simp only [if_true]
        exact .sliceU _ _ _ hγ (by omega) (by omega)
      · simp only [hcl, if_false, Option.map_some, addr_add]
        obtain ⟨q1, q2⟩ := ho (by omega)
        refine .sliceU _ _ _ hγ (by omega) fun _ => ⟨by omega, ?_⟩
        have : ll * ei.size + (c - ll) * es = c * es := by rw [← hes', ← Nat.add_mul]; congr 1; omega
        omega
  · rename_i n el b o hd
    obtain ⟨hh, h1, e2⟩ := bd_ok e1; clear e1
    obtain ⟨ll, h2, e3⟩ := bd_ok e2; clear e2
    obtain ⟨ei, he, e4⟩ := bd_ok e3; clear e3
    obtain ⟨hb, e5⟩ := gd_ok e4; clear e4
    obtain ⟨info2, k2⟩ := G.tt _ _ (og_ok he)
    have hs := k2.run_size w
    rw [hd] at hu
    cases hx with
    | ptr o hγ =>
      rename_i x
      simp at e5; subst e5
      have hb' : ll ≤ hh ∧ hh ≤ n := by simpa using hb
      have := bounds_ok (P := P) w false n n (optNat_on r ht h1) (optNat_on r ht h2) hb'.1 hb'.2
      simp only [Option.map_none, Instr.sliceAt, Instr.sureAddr, Sem.run_bind, hu, Result.andThen_ok, this, hs, Sem.run_pure]
      refine ⟨_, rfl, ?_⟩
      by_cases hcl : n = ll
      · subst hcl
        simp only [if_true, beq_nat, decide_true]
        exact .sliceK _ _ _ hγ (by omega) (by omega)
      · simp only [hcl, if_false, beq_nat, decide_false, addr_add]
        exact .sliceK _ _ _ hγ (by omega) (by omega)
  · simp at e1
end
end Go.Vex
