/- Part VexBin of a checked interpreter for closed calls: what it answers, the machine of the model answers; its conditions are those of its theorems. -/
import Derived.Test.YtikkljdbpckihaaGreatDoorVexRun
import Derived.IntWalk
set_option linter.unusedSimpArgs false
set_option linter.unusedVariables false
namespace Go.Vex

theorem ile_eq (a b : Int) : ile a b = decide (a ≤ b) := by
  have h1 : (Int.sub b a) = b - a := rfl
  unfold ile
  rw [h1]
  split
  · rename_i n h
    have : a ≤ b := by have h2 : b - a = (n : Int) := h; omega
    simp [this]
  · rename_i n h
    have : ¬ a ≤ b := by have h2 : b - a = -((n : Int) + 1) := by rw [h]; omega
                         omega
    simp [this]
theorem ilt_eq (a b : Int) : ilt a b = decide (a < b) := by
  unfold ilt; rw [ile_eq]
  by_cases h : a < b
  · have : ¬ b ≤ a := by omega
    simp [h, this]
  · have : b ≤ a := by omega
    simp [h, this]
theorem ieq_eq (a b : Int) : ieq a b = (a == b) := by
  cases a <;> cases b <;> simp only [ieq]
  all_goals
    rename_i m n
    rw [Bool.eq_iff_iff]; simp
  omega

theorem wr_eq (k : IntKind) (n : Int) : wr k n = k.wrap n := by
  unfold wr
  cases k <;> (try rfl)
  · dsimp only
    split
    · rename_i h
      simp only [ile_eq, Bool.and_eq_true, decide_eq_true_eq] at h
      exact (IntWalk.i64_in n h).symm
    · rfl
  · dsimp only
    split
    · rename_i h
      simp only [ile_eq, Bool.and_eq_true, decide_eq_true_eq] at h
      exact (IntWalk.u8_in n h).symm
    · rfl

theorem kbeq_eq {a b : IntKind} (h : kbeq a b = true) : a = b := by
  cases a <;> cases b <;> first | rfl | simp [kbeq] at h

def nums (s : ByteArray) : List Nat := s.data.toList.map (·.toNat)

theorem beqL_eq : ∀ (a b : List UInt8), beqL (a.map (·.toNat)) (b.map (·.toNat)) = (a == b)
  | [], [] => rfl
  | [], _ :: _ => rfl
  | _ :: _, [] => rfl
  | a :: x, b :: y => by
    simp only [List.map_cons, beqL]
    have ih := beqL_eq x y
    by_cases h : a = b
    · subst h
      have : a.toNat.beq a.toNat = true := by simp
      rw [this]; simp [ih]
    · have : a.toNat.beq b.toNat = false := by
        cases e : a.toNat.beq b.toNat with
        | false => rfl
        | true => exact absurd (UInt8.toNat_inj.1 (Nat.eq_of_beq_eq_true e)) h
      rw [this]
      have h2 : (a == b) = false := by simpa using h
      rw [List.cons_beq_cons, h2]; simp

theorem bltL_eq : ∀ (a b : List UInt8), bltL (a.map (·.toNat)) (b.map (·.toNat)) = Op.bytesLess a b
  | [], [] => rfl
  | [], _ :: _ => rfl
  | _ :: _, [] => rfl
  | a :: x, b :: y => by
    simp only [List.map_cons, bltL, Op.bytesLess]
    have ih := bltL_eq x y
    by_cases h : a < b
    · have h1 : Nat.blt a.toNat b.toNat = true := by simpa [Nat.blt_eq] using UInt8.lt_iff_toNat_lt.1 h
      rw [h1]; simp [h]
    · have h1 : Nat.blt a.toNat b.toNat = false := by
        cases e : Nat.blt a.toNat b.toNat with
        | false => rfl
        | true => exact absurd (UInt8.lt_iff_toNat_lt.2 (by simpa [Nat.blt_eq] using e)) h
      rw [h1]
      by_cases h2 : a = b
      · subst h2
        have : a.toNat.beq a.toNat = true := by simp
        rw [this]; simp [h, ih]
      · have : a.toNat.beq b.toNat = false := by
          cases e : a.toNat.beq b.toNat with
          | false => rfl
          | true => exact absurd (UInt8.toNat_inj.1 (Nat.eq_of_beq_eq_true e)) h2
        have h3 : (a == b) = false := by simpa using h2
        rw [this]; simp [h, h3]

section
variable {P : Program} {Γ : Env} (G : EnvOk P Γ) {γ : Gm} (w : World)

theorem cmp_int {op : BinOp} {x y : Int} {a : AV} (e : cmpA op (ilt x y) (ieq x y) (ilt y x) = .ok a) : ∃ v, (Op.intCmp op x y).run P w = .ok v w ∧ VR γ a v := by
  cases op <;> simp [cmpA] at e <;> subst e <;> simp only [Op.intCmp, Sem.run_pure, ilt_eq, ieq_eq]
  · exact ⟨_, rfl, .bool _⟩
  · exact ⟨_, rfl, .bool _⟩
  · exact ⟨_, rfl, .bool _⟩
  · refine ⟨_, rfl, ?_⟩
    have : (!decide (y < x)) = decide (x ≤ y) := by
      by_cases h : y < x
      · have : ¬ x ≤ y := by omega
        simp [h, this]
      · have : x ≤ y := by omega
        simp [h, this]
    rw [this]; exact .bool _
  · exact ⟨_, rfl, .bool _⟩
  · refine ⟨_, rfl, ?_⟩
    have : (!decide (x < y)) = decide (x ≥ y) := by
      by_cases h : x < y
      · have : ¬ x ≥ y := by omega
        simp [h, this]
      · have : x ≥ y := by omega
        simp [h, this]
    rw [this]; exact .bool _

theorem str_op {op : BinOp} {x y : ByteArray} {a : AV}
    (e : (match op with
      | .add => gd 68 (Nat.ble ((nums x).length + (nums y).length) 9223372036854775807) (.ok (AV.str (nums x ++ nums y)))
      | op => cmpA op (bltL (nums x) (nums y)) (beqL (nums x) (nums y)) (!(bltL (nums x) (nums y) || beqL (nums x) (nums y)))) = .ok a) :
    ∃ v, (Op.stringOp op x y).run P w = .ok v w ∧ VR γ a v := by
  have hx : (nums x).length = x.size := by simp [nums]
  have hy : (nums y).length = y.size := by simp [nums]
  have hb : beqL (nums x) (nums y) = (x.toList == y.toList) := by rw [ByteArray.toList_eq, ByteArray.toList_eq]; exact beqL_eq _ _
  have hl : bltL (nums x) (nums y) = Op.bytesLess x.toList y.toList := by rw [ByteArray.toList_eq, ByteArray.toList_eq]; exact bltL_eq _ _
  split at e
  · obtain ⟨h1, e⟩ := gd_ok e
    simp at e; subst e
    have h2 : (nums x).length + (nums y).length ≤ 9223372036854775807 := by simpa using h1
    have h3 : ¬ (9223372036854775807 < (x.size : Int) + (y.size : Int)) := by omega
    refine ⟨.string (x ++ y), by simp [Op.stringOp, IntKind.max, IntKind.signed, IntKind.bits, h3], ?_⟩
    have : nums x ++ nums y = (x ++ y).data.toList.map (·.toNat) := by simp [nums]
    rw [this]; exact .str _
  · rename_i op' hne
    rw [hb, hl] at e
    cases op <;> simp [cmpA] at e <;> first | (exact absurd rfl hne) | (subst e; simp only [Op.stringOp, Sem.run_pure]; refine ⟨_, rfl, ?_⟩; first | exact .bool _ | (simp only [Bool.not_not]; exact .bool _) | (rw [← Bool.not_or]; exact .bool _))


set_option maxHeartbeats 2000000 in
include G in
theorem eqA_ok : ∀ (d : Nat) {t : TypeId} {x y : AV} {b : Bool} {vx vy : Value}, eqA Γ d t x y = .ok b → VR γ x vx → VR γ y vy → (Op.equalIn d t vx vy).run P w = .ok b w := by
  intro d
  induction d with
  | zero => intro t x y b vx vy e; simp [eqA] at e
  | succ d ih =>
    intro t x y b vx vy e0 hx hy
    simp only [eqA] at e0
    obtain ⟨i, hi, e⟩ := bd_ok e0
    clear e0
    obtain ⟨info, k⟩ := G.tt _ _ (og_ok hi)
    have hu := k.run_und w
    split at e
    · rename_i a b' he; cases hx; cases hy; simp at e; subst e
      rw [he] at hu
      simp only [Op.equalIn, Sem.run_bind, hu, Result.andThen_ok, Sem.run_pure]
      cases a <;> cases b' <;> rfl
    · rename_i kk k1 a k2 b' he; cases hx; cases hy
      obtain ⟨h1, e⟩ := gd_ok e
      simp at e; subst e
      rw [he] at hu
      simp only [Op.equalIn, Sem.run_bind, hu, Result.andThen_ok, Sem.run_pure, kbeq_eq h1, if_true, ieq_eq]
    · rename_i a b' he; simp at e; subst e
      rw [he] at hu
      cases hx; cases hy
      rename_i s1 s2
      simp only [Op.equalIn, Sem.run_bind, hu, Result.andThen_ok, Sem.run_pure, beqL_eq]
      rw [beq_toListBytes, ByteArray.toList_eq, ByteArray.toList_eq]
    · rename_i el he; cases hx; cases hy; simp at e; subst e; rw [he] at hu
      simp [Op.equalIn, hu]
    · rename_i el _ _ he; cases hx; cases hy; simp at e; subst e; rw [he] at hu
      simp [Op.equalIn, hu]
    · rename_i el _ _ he; cases hx; cases hy; simp at e; subst e; rw [he] at hu
      simp [Op.equalIn, hu]
    · rename_i el he; cases hx; cases hy; simp at e; subst e; rw [he] at hu
      simp [Op.equalIn, hu]
    · rename_i el _ _ he; cases hx; cases hy; simp at e; subst e; rw [he] at hu
      simp [Op.equalIn, hu]
    · rename_i el _ _ he; cases hx; cases hy; simp at e; subst e; rw [he] at hu
      simp [Op.equalIn, hu]
    · rename_i el tx vx' ty vy' he
      cases hx with
      | iface tx hx =>
      cases hy with
      | iface ty hy =>
      rw [he] at hu
      split at e
      · rename_i hne
        have : tx ≠ ty := by intro e; subst e; simp at hne
        simp at e; subst e
        simp [Op.equalIn, hu, this]
      · rename_i heq
        have : tx = ty := by simpa using heq
        subst this
        obtain ⟨j, hj, e⟩ := bd_ok e
        obtain ⟨info2, k2⟩ := G.tt _ _ (og_ok hj)
        obtain ⟨hc, e⟩ := gd_ok e
        have := ih e hx hy
        simp [Op.equalIn, hu, k2.run_ti, k2.cmp, hc, this]
    · rename_i fields xs ys he
      cases hx with
      | agg hx =>
      cases hy with
      | agg hy =>
      obtain ⟨hst, e⟩ := gd_ok e
      have hst' : P.stoodInHeld t = false := by rw [← k.st]; simpa using hst
      have hund : P.underlying t = some (.struct fields) := by rw [← he]; exact k.und
      have hfo : P.fieldsOf t = fields := by simp [Program.fieldsOf, hund]
      rw [run_equalIn_struct w d t _ _ (by rw [hfo]; exact hund) hst', hfo]
      rename_i xs' ys'
      have key : ∀ (fs : List Field) (b : Bool), eqFields Γ (eqA Γ d) xs ys fs = .ok b → (Op.eqFields d xs' ys' fs).run P w = .ok b w := by
        intro fs
        induction fs with
        | nil => intro b e; simp [eqFields] at e; subst e; rfl
        | cons f fs ihf =>
          intro b e
          simp only [eqFields] at e
          obtain ⟨hn, e⟩ := gd_ok e
          have hn' : f.name ≠ "_" := by
            intro e; rw [e] at hn; simp at hn
          obtain ⟨a1, e1, e⟩ := bd_ok e
          obtain ⟨a2, e2, e⟩ := bd_ok e
          obtain ⟨q, e3, e⟩ := bd_ok e
          obtain ⟨v1, p1, q1⟩ := partA_ok G e1 hx
          obtain ⟨v2, p2, q2⟩ := partA_ok G e2 hy
          have h3 := ih e3 q1 q2
          simp only [Op.eqFields, hn', ne_eq, not_false_eq_true, if_true, Sem.run_bind, p1, p2, Result.andThen_ok, h3]
          cases q with
          | true => simpa using ihf b e
          | false => simp at e; subst e; simp
      exact key _ _ e
    · rename_i el he; cases hx; cases hy; simp at e; subst e; rw [he] at hu
      simp [Op.equalIn, hu]
    · rename_i el he; cases hy <;> cases hx <;> simp at e <;> subst e <;> rw [he] at hu <;> simp [Op.equalIn, hu]
    · rename_i el he; cases hx <;> cases hy <;> simp at e <;> subst e <;> rw [he] at hu <;> simp [Op.equalIn, hu]
    · rename_i he; cases hx; cases hy; simp at e; subst e; rw [he] at hu
      simp [Op.equalIn, hu]
    · rename_i he; cases hx; cases hy; simp at e; subst e; rw [he] at hu
      simp [Op.equalIn, hu]
    · rename_i he; cases hx; cases hy; simp at e; subst e; rw [he] at hu
      simp [Op.equalIn, hu]
    · rename_i he; cases hx; cases hy; simp at e; subst e; rw [he] at hu
      simp [Op.equalIn, hu]
    · rename_i he; cases hx; cases hy; simp at e; subst e; rw [he] at hu
      simp [Op.equalIn, hu]
    · rename_i he; cases hx; cases hy; simp at e; subst e; rw [he] at hu
      simp [Op.equalIn, hu]
    · simp at e

end
end Go.Vex
