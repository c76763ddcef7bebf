/- Part VexDraw7 of a checked interpreter for closed calls: what it answers, the machine of the model answers; its conditions are those of its theorems. -/
import Derived.Test.YtikkljdbpckihaaGreatDoorVexDraw6
set_option linter.unusedSimpArgs false
set_option linter.unusedVariables false
namespace Go.Vex

section
variable {Γ : Env} {big : AF → H → E BR} {ops : List Oper} {ms : T Nat} {nt c0 : Nat} {s0 F : PG} {S : Nat → PG}
  (W : WF ops ms nt ops.length) (t : Tr Γ big ops ms nt c0 s0 F S) (h0 : s0.hs = [] ∧ s0.vs = [] ∧ s0.pend = [] ∧ s0.dd = none)

include t h0 in
theorem Tr.marks {a : Nat} (ha : a ≤ ops.length) : (∀ p, (S a).dd = some p → p.1 < a ∧ (S (p.1 + 1)).dd = some p ∧ (S p.1).dd = none) ∧ (∀ y ∈ (S a).hs, y < a ∧ y ∈ (S (y + 1)).hs) := by
  induction a with
  | zero => rw [t.s0]; obtain ⟨h1, h2, h3, h4⟩ := h0; simp [h1, h4]
  | succ a ih =>
    obtain ⟨i1, i2⟩ := ih (by omega)
    obtain ⟨o, _, h⟩ := t.stepAt (j := a) (by omega)
    generalize hs : S a = s at h i1 i2
    generalize hs' : S (a + 1) = s' at h
    have j1 : ∀ p, s.dd = some p → p.1 < a + 1 ∧ (S (p.1 + 1)).dd = some p ∧ (S p.1).dd = none := fun p hp => by obtain ⟨q1, q2⟩ := i1 p hp; exact ⟨by omega, q2⟩
    have j2 : ∀ y ∈ s.hs, y < a + 1 ∧ y ∈ (S (y + 1)).hs := fun y hy => by obtain ⟨q1, q2⟩ := i2 y hy; exact ⟨by omega, q2⟩
    cases h with
    | dead => exact ⟨j1, j2⟩
    | pur => exact ⟨j1, j2⟩
    | read => exact ⟨j1, j2⟩
    | skip => exact ⟨j1, j2⟩
    | alloc => exact ⟨j1, j2⟩
    | heavy =>
      refine ⟨j1, fun y hy => ?_⟩
      rcases List.mem_cons.1 hy with rfl | hy
      · exact ⟨by omega, by rw [hs']; simp⟩
      · exact j2 y hy
    | panic ch h2 hd hw hc0 hc1 hc2 hb hn hv =>
      refine ⟨fun p hp => ?_, j2⟩
      simp at hp; subst hp
      exact ⟨by simp, by simp only []; rw [hs'], by simp only []; rw [hs]; exact hn⟩

include t h0 in
theorem Tr.dd_ne {x : Nat} (hx : x < ops.length) (h : (S (x + 1)).dd = (S x).dd) : ∀ p, F.dd = some p → p.1 ≠ x := by
  intro p hp e
  rw [← t.fin] at hp
  obtain ⟨_, h1, h2⟩ := (t.marks h0 (Nat.le_refl _)).1 p hp
  rw [e, h, ← e, h2] at h1
  simp at h1

include t h0 in
theorem Tr.hs_ne {x : Nat} (hx : x < ops.length) (h : (S (x + 1)).hs = (S x).hs) : x ∉ F.hs := by
  intro e
  rw [← t.fin] at e
  obtain ⟨_, h1⟩ := (t.marks h0 (Nat.le_refl _)).2 x e
  rw [h] at h1
  have := ((t.marks h0 (Nat.le_of_lt hx)).2 x h1).1
  omega

variable {P : Program} {pr0 pr : Pr} {listed : Array Bool} {j : Nat} {γ γ' : Gm} {tmps : Array Value} {w w' : World}

include W t h0 in
/-- one that is no new block and no heavy one has run -/
theorem Inv.keep (I : Inv P Γ ops ms nt c0 s0.tm F S pr0 listed j pr γ tmps w) {x : Nat} {o : Oper} (hx : x < ops.length) (ho : ops[x]? = some o)
    (hm : ∀ k, hasBit (msk ms x) k = true → listed.getD k false = true) {Hj : H} (hHj : (F.h :: F.vs).reverse[j]? = some Hj) (g : γ.le γ') (r : Rel pr Γ.ng γ' Hj w') (wk : WK w w')
    {v : AV} {v' : Value} (hv : VR γ' v v') (hF : ∀ d, o.dst = some d → F.tm.get d = some v) (hna : ∀ p, ¬ AllocAt Γ ops ms S x p)
    (hd : (S (x + 1)).dd = (S x).dd) (hh : (S (x + 1)).hs = (S x).hs) :
    Inv P Γ ops ms nt c0 s0.tm F S pr0 (listed.setIfInBounds x true) j pr γ' (match o.dst with | some d => tmps.setIfInBounds d v' | none => tmps) w' := by
  have hg := fun i => set_getD (l := listed) (x := x) (i := i) (by rw [I.lsz]; exact hx)
  have hxh := t.hs_ne h0 hx hh
  refine ⟨by simp [I.lsz], ?_, ?_, I.jk, ?_, ⟨Hj, hHj, r⟩, I.nr, I.ext, I.rext, I.sl.put (W := W) g hx I.lsz ho hv hF, Nat.le_trans I.hn wk.size, ?_, ?_, I.dis, ?_⟩
  · intro i hi hl k hk
    rw [hg] at hl ⊢
    by_cases e : i = x
    · subst e; rw [hm k hk]; simp
    · rw [if_neg e] at hl; rw [I.down i hi hl k hk]; simp
  · intro p hp
    rw [hg, if_neg (t.dd_ne h0 hx hd p hp)]; exact I.alive p hp
  · intro m y hy
    have hne : y ≠ x := fun e => hxh (by have := List.mem_of_getElem? hy; rw [e] at this; simpa using this)
    rw [hg, if_neg hne]; exact I.ver m y hy
  · intro i hi hl
    rw [hg] at hl
    split at hl
    · simp at hl
    · exact I.un i hi hl
  · intro i p hi hl ha hb
    by_cases e : i = x
    · subst e; exact absurd ha (hna p)
    · rw [hg, if_neg e] at hl
      exact (I.pend i p hi hl ha hb).mono g
  · intro i y hi hy
    have := I.dlt i y hi hy
    have := wk.size
    omega

include W t h0 in
/-- a new block has been made -/
theorem Inv.made (I : Inv P Γ ops ms nt c0 s0.tm F S pr0 listed j pr γ tmps w) {x : Nat} {o : Oper} (hx : x < ops.length) (ho : ops[x]? = some o) (hu : listed.getD x false = false)
    (hm : ∀ k, hasBit (msk ms x) k = true → listed.getD k false = true) {p : AB × NewV} {res : Result Next} (hr : AllocR γ w res p.1 p.2) (hF : ∀ d, o.dst = some d → F.tm.get d = some (p.2.at (c0 + x)))
    (hal : ∀ q, AllocAt Γ ops ms S x q → q = p)
    (hd : (S (x + 1)).dd = (S x).dd) (hh : (S (x + 1)).hs = (S x).hs) :
    ∃ pr' γ' v' w', res = .ok (.value v') w' ∧ γ.le γ' ∧ WK w w' ∧ Inv P Γ ops ms nt c0 s0.tm F S pr0 (listed.setIfInBounds x true) j pr' γ' (match o.dst with | some d => tmps.setIfInBounds d v' | none => tmps) w' := by
  obtain ⟨Hj, hHj, r⟩ := I.rel
  obtain ⟨obj, sz, v', hres, hnew, hro, hnr, hvr⟩ := hr
  have hun := I.un x hx hu
  obtain ⟨hlt, hnone⟩ := r.res _ _ hun
  have r' := r.wait hlt hnone obj sz
  have g : γ.le (γ.put (c0 + x) ⟨w.heap.size, 0, sz⟩) := Gm.le_put hnone
  have hg := fun i => set_getD (l := listed) (x := x) (i := i) (by rw [I.lsz]; exact hx)
  have hxh := t.hs_ne h0 hx hh
  have hrv : ∀ i, (pr.add w.heap.size obj (c0 + x) ⟨w.heap.size, 0, sz⟩).rv (c0 + i) = if i = x then some (some ⟨w.heap.size, 0, sz⟩) else pr.rv (c0 + i) := by
    intro i
    show (if c0 + i = c0 + x then _ else _) = _
    by_cases e : i = x
    · rw [if_pos e, if_pos (by omega)]
    · rw [if_neg e, if_neg (by omega)]
  have hprn : ∀ b o', pr b = some o' → b < w.heap.size := fun b o' e => lt_of_get (r.prot b o' e)
  have hpadd : ∀ b, b ≠ w.heap.size → (pr.add w.heap.size obj (c0 + x) ⟨w.heap.size, 0, sz⟩) b = pr b := fun b hb => by
    show (if b = w.heap.size then _ else _) = _
    rw [if_neg hb]
  refine ⟨pr.add w.heap.size obj (c0 + x) ⟨w.heap.size, 0, sz⟩, γ.put (c0 + x) ⟨w.heap.size, 0, sz⟩, v', w.alloc obj, hres, g, wk_push w obj, by simp [I.lsz], ?_, ?_, I.jk, ?_, ⟨Hj, hHj, r'⟩, I.nr, ?_, ?_,
    I.sl.put (W := W) g hx I.lsz ho (hvr _ (c0 + x) (by simp [Gm.put])) hF, ?_, ?_, ?_, ?_, ?_⟩
  · intro i hi hl k hk
    rw [hg] at hl ⊢
    by_cases e : i = x
    · subst e; rw [hm k hk]; simp
    · rw [if_neg e] at hl; rw [I.down i hi hl k hk]; simp
  · intro p hp
    rw [hg, if_neg (t.dd_ne h0 hx hd p hp)]; exact I.alive p hp
  · intro m y hy
    have hne : y ≠ x := fun e => hxh (by have := List.mem_of_getElem? hy; rw [e] at this; simpa using this)
    rw [hg, if_neg hne]; exact I.ver m y hy
  · intro b o' e
    have e2 := I.ext b o' e
    rw [hpadd b (Nat.ne_of_lt (hprn b o' e2))]; exact e2
  · intro b v e
    obtain ⟨q1, q2⟩ := I.rext b v e
    refine ⟨?_, q2⟩
    show (if b = c0 + x then _ else _) = _
    rw [if_neg (by omega)]; exact q1
  · have := I.hn
    show pr0.nr ≤ (w.heap.push obj).size
    simp; omega
  · intro i hi hl
    rw [hg] at hl
    split at hl
    · simp at hl
    · rename_i e
      rw [hrv, if_neg e]; exact I.un i hi hl
  · intro i q hi hl ha hb
    by_cases e : i = x
    · subst e
      obtain rfl := hal q ha
      refine ⟨w.heap.size, sz, obj, by rw [hrv, if_pos rfl], ?_, ?_, ?_, hnew.mono g, hro, hnr⟩
      · show (if w.heap.size = w.heap.size then _ else _) = _
        rw [if_pos rfl]
      · cases e2 : pr0 w.heap.size with
        | none => rfl
        | some o' => have := hprn _ _ (I.ext _ _ e2); omega
      · show pr.nr ≤ _
        rw [I.nr]; exact I.hn
    · rw [hg, if_neg e] at hl
      obtain ⟨blk, sz', obj', k1, k2, k3, k4, k5, k6⟩ := I.pend i q hi hl ha hb
      exact ⟨blk, sz', obj', by rw [hrv, if_neg e]; exact k1, by rw [hpadd blk (Nat.ne_of_lt (hprn _ _ k2))]; exact k2, k3, k4, k5.mono g, k6⟩
  · intro i i' y y' hii hi hi' hy hy'
    rw [hrv] at hy hy'
    by_cases e : i = x
    · rw [if_pos e] at hy
      rw [if_neg (by omega)] at hy'
      have := I.dlt i' y' hi' hy'
      simp at hy; subst hy; simp; omega
    · rw [if_neg e] at hy
      by_cases e' : i' = x
      · rw [if_pos e'] at hy'
        have := I.dlt i y hi hy
        simp at hy'; subst hy'; simp; omega
      · rw [if_neg e'] at hy'
        exact I.dis i i' y y' hii hi hi' hy hy'
  · intro i y hi hy
    rw [hrv] at hy
    show y.blk < (w.heap.push obj).size
    split at hy
    · simp at hy; subst hy; simp
    · have := I.dlt i y hi hy
      simp; omega
end
end Go.Vex
