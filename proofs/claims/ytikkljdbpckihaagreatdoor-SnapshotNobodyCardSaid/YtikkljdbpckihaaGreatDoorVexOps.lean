/- Part VexOps of a checked interpreter for closed calls: what it answers, the machine of the model answers; its conditions are those of its theorems. -/
import Derived.Test.YtikkljdbpckihaaGreatDoorVexBin
set_option linter.unusedSimpArgs false
set_option linter.unusedVariables false
namespace Go.Vex

def Num : Value → Bool
  | .int .. | .float .. | .complex .. | .string _ => true
  | _ => false

theorem binOp_eql {t : TypeId} {x y : Value} (h : Num x = false) : binOp .eql t x y = (do pure (.bool (← Op.equal t x y))) := by
  cases x <;> first | (simp [Num] at h; done) | rfl | (cases y <;> rfl)
theorem binOp_neq {t : TypeId} {x y : Value} (h : Num x = false) : binOp .neq t x y = (do pure (.bool (!(← Op.equal t x y)))) := by
  cases x <;> first | (simp [Num] at h; done) | rfl | (cases y <;> rfl)

theorem nn_num {γ : Gm} {x : AV} {v : Value} (h : VR γ x v) (e : nn x = true) : Num v = false := by
  cases h <;> first | rfl | simp [nn] at e

section
variable {P : Program} {Γ : Env} (G : EnvOk P Γ) {pr : Pr} {γ : Gm} {h : H} {w : World} (r : Rel pr Γ.ng γ h w)

theorem guard_plain (op : BinOp) (t : TypeId) (ox oy : Operand) {x y : Value} (h1 : ¬ (x = .nilIface ∧ y = .nilIface)) (h2 : ∀ a b, ¬ (x = .agg a ∧ y = .agg b)) (w : World) :
    (eqGuard op t ox oy x y).run P w = .ok () w := by
  cases op <;> first
    | rfl
    | (cases x <;> first
        | rfl
        | (cases y <;> first | rfl | exact absurd ⟨rfl, rfl⟩ h1 | exact absurd ⟨rfl, rfl⟩ (h2 _ _)))

theorem guard_nil (op : BinOp) (t : TypeId) (ox oy : Operand) (h : (isNilConst ox || isNilConst oy) = true) (w : World) :
    (eqGuard op t ox oy .nilIface .nilIface).run P w = .ok () w := by
  cases op <;> first | rfl | (cases ox <;> cases oy <;> first | rfl | simp [isNilConst] at h)

set_option maxHeartbeats 1000000 in
include G in
theorem binA_ok {op : BinOp} {t : TypeId} {ox oy : Operand} {x y : AV} {vx vy : Value} {a : AV} (e : binA Γ op t ox oy x y = .ok a) (hx : VR γ x vx) (hy : VR γ y vy) (w : World) :
    ∃ v, (do eqGuard op t ox oy vx vy; binOp op t vx vy : Sem Value).run P w = .ok v w ∧ VR γ a v := by
  unfold binA at e
  split at e
  · rename_i k a1 k' b1
    cases hx; cases hy
    obtain ⟨hk, e'⟩ := gd_ok e; clear e; have e := e'; clear e'
    obtain rfl := kbeq_eq hk
    have hg := guard_plain (P := P) op t ox oy (x := .int k a1) (y := .int k b1) (by simp) (by simp) w
    simp only [Sem.run_bind, hg, Result.andThen_ok]
    split at e
    · simp at e; subst e; exact ⟨_, by simp [binOp, Op.intArith]; rfl, by rw [wr_eq]; exact .int _ _⟩
    · simp at e; subst e; exact ⟨_, by simp [binOp, Op.intArith]; rfl, by rw [wr_eq]; exact .int _ _⟩
    · simp at e; subst e; exact ⟨_, by simp [binOp, Op.intArith]; rfl, by rw [wr_eq]; exact .int _ _⟩
    · split at e
      · simp at e
      · rename_i hz
        have : b1 ≠ 0 := by intro e; subst e; simp [ieq_eq] at hz
        simp at e; subst e; exact ⟨_, by simp [binOp, Op.intDiv, this]; rfl, by rw [wr_eq]; exact .int _ _⟩
    · split at e
      · simp at e
      · rename_i hz
        have : b1 ≠ 0 := by intro e; subst e; simp [ieq_eq] at hz
        simp at e; subst e; exact ⟨_, by simp [binOp, Op.intDiv, this] <;> rfl, .int _ _⟩
    · simp at e
    · simp at e
    · simp at e
    · simp at e
    · simp at e
    · simp at e
    · obtain ⟨v, h1, h2⟩ := cmp_int (P := P) (γ := γ) w e
      refine ⟨v, ?_, h2⟩
      cases op <;> first | (simp [cmpA] at e; done) | (simpa [binOp] using h1)
  · rename_i a1 b1
    cases hx; cases hy
    rename_i s1 s2
    have hg := guard_plain (P := P) op t ox oy (x := .string s1) (y := .string s2) (by simp) (by simp) w
    simp only [Sem.run_bind, hg, Result.andThen_ok]
    obtain ⟨v, h1, h2⟩ := str_op (P := P) (γ := γ) w (op := op) (x := s1) (y := s2) (a := a) e
    refine ⟨v, ?_, h2⟩
    cases op <;> first | (simpa [binOp] using h1) | (simp [Op.stringOp] at h1)
  · rename_i hii hss
    obtain ⟨hnn, e'⟩ := gd_ok e; clear e; have e := e'; clear e'
    have hnum := nn_num hx hnn
    obtain ⟨u, hu, e'⟩ := bd_ok e; clear e; have e := e'; clear e'
    have hg : (eqGuard op t ox oy vx vy).run P w = .ok () w := by
      split at hu
      · obtain ⟨h1, _⟩ := gd_ok hu
        cases hx; cases hy
        exact guard_nil op t ox oy h1 w
      · obtain ⟨i, hi, hu⟩ := bd_ok hu
        obtain ⟨info, k⟩ := G.tt _ _ (og_ok hi)
        obtain ⟨h1, _⟩ := gd_ok hu
        cases hx; cases hy
        exact run_eqGuard_agg w op t ox oy _ _ (by rw [← k.eg]; simpa using h1)
      · rename_i q1 q2
        refine guard_plain op t ox oy ?_ ?_ w
        · rintro ⟨rfl, rfl⟩; cases hx; cases hy; exact q1 rfl rfl
        · rintro a b ⟨rfl, rfl⟩; cases hx; cases hy; exact q2 _ _ rfl rfl
    simp only [Sem.run_bind, hg, Result.andThen_ok]
    split at e
    · obtain ⟨b, hb, e'⟩ := bd_ok e; clear e; have e := e'; clear e'
      simp at e; subst e
      have := eqA_ok G w 10000 hb hx hy
      exact ⟨.bool b, by rw [binOp_eql hnum]; simp [Op.equal, Op.maxDepth, this], .bool _⟩
    · obtain ⟨b, hb, e'⟩ := bd_ok e; clear e; have e := e'; clear e'
      simp at e; subst e
      have := eqA_ok G w 10000 hb hx hy
      exact ⟨.bool (!b), by rw [binOp_neq hnum]; simp [Op.equal, Op.maxDepth, this], .bool _⟩
    · simp at e

theorem unA_ok {op : UnOp} {x : AV} {vx : Value} {a : AV} (e : unA op x = .ok a) (hx : VR γ x vx) (w : World) : ∃ v, (Op.unary op vx).run P w = .ok v w ∧ VR γ a v := by
  unfold unA at e
  split at e
  · cases hx; simp at e; subst e
    exact ⟨_, by simp [Op.unary, Op.intArith]; rfl, by rw [wr_eq]; have : (0 - ‹Int› : Int) = -‹Int› := by omega
                                                       first | exact .int _ _ | (rw [this]; exact .int _ _)⟩
  · cases hx; simp at e; subst e
    exact ⟨_, rfl, .bool _⟩
  · simp at e

include G in
theorem convA_ok {s d : TypeId} {x : AV} {vx : Value} {a : AV} {h' : H} (e : convA Γ s d h x = .ok (a, h')) (hx : VR γ x vx) (w : World) :
    h' = h ∧ ∃ v, (convert s d vx).run P w = .ok v w ∧ VR γ a v := by
  unfold convA at e
  obtain ⟨i, hi, e1⟩ := bd_ok e
  clear e
  obtain ⟨j, hj, e⟩ := bd_ok e1
  clear e1
  obtain ⟨info, k⟩ := G.tt _ _ (og_ok hi)
  obtain ⟨info2, k2⟩ := G.tt _ _ (og_ok hj)
  have hu := k.run_und w
  have hu2 := k2.run_und w
  split at e
  · rename_i kk kk2 n hd
    cases hx
    simp at e; obtain ⟨rfl, rfl⟩ := e
    rw [hd] at hu2
    refine ⟨rfl, .int kk (kk.wrap n), ?_, by rw [wr_eq]; exact .int _ _⟩
    simp only [convert, Sem.run_bind, hu, hu2, Result.andThen_ok, Conv.intToInt, Sem.run_pure]
  · rename_i hd
    simp at e; obtain ⟨rfl, rfl⟩ := e
    cases hx
    rw [hd] at hu2
    refine ⟨rfl, .string _, ?_, .str _⟩
    simp only [convert, Sem.run_bind, hu, hu2, Result.andThen_ok, Sem.run_pure]
  · simp at e

theorem natOf_ok {x : AV} {n : Nat} {v : Value} (e : natOf x = .ok n) (hx : VR γ x v) : ∃ k, v = .int k (n : Int) := by
  unfold natOf at e
  split at e
  · cases hx; simp at e; subst e; exact ⟨_, rfl⟩
  · simp at e

include r in
theorem optNat_ok {tm : T AV} {nt : Nat} {act : Act} (ht : TR γ nt tm act.tmps) {d n : Nat} {x : Option Operand} (e : optNat Γ tm d x = .ok n) :
    (x = none ∧ n = d) ∨ ∃ o k, x = some o ∧ act.eval o = .int k (n : Int) := by
  cases x with
  | none => simp [optNat] at e; exact .inl ⟨rfl, e.symm⟩
  | some o =>
    simp only [optNat] at e
    obtain ⟨a, ha, e'⟩ := bd_ok e; clear e; have e := e'; clear e'
    obtain ⟨k, hk⟩ := natOf_ok e (ev_ok r ht ha)
    exact .inr ⟨o, k, rfl, hk⟩

end
end Go.Vex
