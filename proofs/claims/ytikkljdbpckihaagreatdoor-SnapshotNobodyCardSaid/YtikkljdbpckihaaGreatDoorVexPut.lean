/- Part VexPut of a checked interpreter for closed calls: what it answers, the machine of the model answers; its conditions are those of its theorems. -/
import Derived.Test.YtikkljdbpckihaaGreatDoorVexHeap
import Derived.Laws.CopyRow
set_option linter.unusedSimpArgs false
set_option linter.unusedVariables false
namespace Go.Vex

def EndLe (a b : Nat × Nat × Nat) : Prop := b.2.1 + b.2.2 ≤ a.2.1 + a.2.2

def Sh (m m' : T AB) : Prop := ∀ j, m'.get j = m.get j ∨ ∃ n n' cs g s, n' ≤ n ∧ m.get j = some (.row n cs g s) ∧ m'.get j = some (.row n' cs g s)

theorem Sh.trans {a b c : T AB} (h : Sh a b) (k : Sh b c) : Sh a c := by
  intro j
  rcases h j with e | ⟨n, n', cs, g, s, hle, h1, h2⟩
  · rcases k j with e' | ⟨n, n', cs, g, s, hle, h1, h2⟩
    · exact .inl (e'.trans e)
    · exact .inr ⟨n, n', cs, g, s, hle, by rw [← e]; exact h1, h2⟩
  · rcases k j with e' | ⟨n2, n2', cs2, g2, s2, hle2, h1', h2'⟩
    · exact .inr ⟨n, n', cs, g, s, hle, h1, by rw [e']; exact h2⟩
    · rw [h2] at h1'; cases h1'
      exact .inr ⟨n, n2', cs, g, s, Nat.le_trans hle2 hle, h1, h2'⟩

structure TruncOk (id p : Nat) (m : T AB) (L : List (Nat × Nat × Nat)) (m' : T AB) (L' : List (Nat × Nat × Nat)) : Prop where
  sh : Sh m m'
  same : m'.get id = m.get id
  cut : ∀ j s nr, (j, s, nr) ∈ L → j ≠ id → ∀ n cs g, m.get j = some (.row n cs g s) → n ≤ nr →
    ∃ n', m'.get j = some (.row n' cs g s) ∧ (n' = 0 ∨ s + n' ≤ p) ∧ (n' = 0 ∨ ∃ nr', n' ≤ nr' ∧ (j, s, nr') ∈ L')
  srt : L'.Pairwise EndLe
  ends : ∀ e ∈ L', e.2.1 + e.2.2 ≤ p

theorem cut2_le (a b : Nat) : cut2 a b ≤ a ∧ cut2 a b ≤ b := by
  unfold cut2; split <;> rename_i e
  · have := Nat.le_of_ble_eq_true e; omega
  · have : ¬ a ≤ b := fun h => by rw [Nat.ble_eq_true_of_le h] at e; simp at e
    omega
theorem beq0 {n : Nat} (h : n.beq 0 = false) : n ≠ 0 := by intro e; rw [e] at h; simp at h

theorem trunc_ok (id p : Nat) : ∀ (L : List (Nat × Nat × Nat)) (m : T AB) (r : T AB × List (Nat × Nat × Nat)), trunc id p m L = .ok r → L.Pairwise EndLe → TruncOk id p m L r.1 r.2 := by
  intro L
  induction L with
  | nil =>
    intro m r h hs
    simp [trunc] at h; subst h
    exact ⟨fun _ => .inl rfl, rfl, fun _ _ _ hm => by simp at hm, .nil, fun _ he => by simp at he⟩
  | cons hd L ih =>
    obtain ⟨j, s, n⟩ := hd
    intro m r h hs
    have hsL : L.Pairwise EndLe := (List.pairwise_cons.1 hs).2
    have hsH : ∀ e ∈ L, e.2.1 + e.2.2 ≤ s + n := fun e he => (List.pairwise_cons.1 hs).1 e he
    simp only [trunc] at h
    split at h
    · rename_i hj
      have hj' : j = id := by simpa using hj
      have k := ih m r h hsL
      refine ⟨k.sh, k.same, fun j' s' nr hm hne n' cs g e hle => ?_, k.srt, k.ends⟩
      rcases List.mem_cons.1 hm with e' | hm'
      · cases e'; exact absurd hj' hne
      · exact k.cut j' s' nr hm' hne n' cs g e hle
    · rename_i hj
      have hj' : j ≠ id := by intro e; subst e; simp at hj
      split at h
      · rename_i hle
        have hle' : s + n ≤ p := by simpa using hle
        simp at h; subst h
        refine ⟨fun _ => .inl rfl, rfl, fun j' s' nr hm hne n' cs g e hle2 => ⟨n', e, .inr ?_, .inr ⟨nr, hle2, hm⟩⟩, hs, fun e he => ?_⟩
        · rcases List.mem_cons.1 hm with e' | hm'
          · cases e'; omega
          · have := hsH _ hm'; dsimp only at this; omega
        · rcases List.mem_cons.1 he with e' | hm'
          · subst e'; exact hle'
          · have := hsH _ hm'; omega
      · rename_i hle
        have hle' : ¬ s + n ≤ p := fun e => by rw [Nat.ble_eq_true_of_le e] at hle; exact absurd hle (by simp)
        split at h
        · rename_i n0 cs g s0 hg
          obtain ⟨hss, h⟩ := gd_ok h
          have hss' : s = s0 := by simpa using hss
          subst hss'
          obtain ⟨r1, h1, h2⟩ := bd_ok h
          simp at h2; subst h2
          have k := ih _ _ h1 hsL
          obtain ⟨hn1a, hn1b⟩ := cut2_le n0 (p - s)
          generalize cut2 n0 (p - s) = n1 at h1 k hn1a hn1b
          have hsh1 : Sh m (m.set j (.row n1 cs g s)) := by
            intro i
            rw [T.get_set]
            by_cases e : i = j
            · subst e; exact .inr ⟨n0, n1, cs, g, s, hn1a, hg, by simp⟩
            · exact .inl (by rw [if_neg e])
          have hj1 : ∃ n2, n2 ≤ n1 ∧ r1.1.get j = some (.row n2 cs g s) := by
            rcases k.sh j with e | ⟨a, a', c, gg, ss, hl, e1, e2⟩
            · rw [T.get_set_same] at e; exact ⟨n1, Nat.le_refl _, e⟩
            · rw [T.get_set_same] at e1; cases e1; exact ⟨a', hl, e2⟩
          obtain ⟨n2, hn2, e2⟩ := hj1
          have hmem : ∀ e ∈ r1.2, e ∈ (match (p - s).beq 0 with | true => r1.2 | false => (j, s, p - s) :: r1.2) := by
            intro e he
            split
            · exact he
            · exact List.mem_cons_of_mem _ he
          refine ⟨Sh.trans hsh1 k.sh, ?_, ?_, ?_, ?_⟩
          · show r1.1.get id = _
            rw [k.same, T.get_set_ne _ _ (Ne.symm hj')]
          · intro j' s' nr hm hne n' cs' g' e hle2
            rcases List.mem_cons.1 hm with e' | hm'
            · cases e'
              rw [hg] at e; cases e
              refine ⟨n2, e2, by omega, ?_⟩
              by_cases hp0 : p - s = 0
              · exact .inl (by omega)
              · refine .inr ⟨p - s, by omega, ?_⟩
                have hq : (p - s).beq 0 = false := by cases e : (p - s).beq 0 with | false => rfl | true => exact absurd (Nat.eq_of_beq_eq_true e) hp0
                simp only [hq]
                exact List.mem_cons_self
            · by_cases ejj : j' = j
              · subst ejj
                rw [hg] at e; cases e
                obtain ⟨n3, a1, a2, a3⟩ := k.cut j' s nr hm' hne n1 cs g (T.get_set_same _ _ _) (by omega)
                exact ⟨n3, a1, a2, a3.imp (fun z => z) fun ⟨nr', b1, b2⟩ => ⟨nr', b1, hmem _ b2⟩⟩
              · obtain ⟨n3, a1, a2, a3⟩ := k.cut j' s' nr hm' hne n' cs' g' (by rw [T.get_set_ne _ _ ejj]; exact e) hle2
                exact ⟨n3, a1, a2, a3.imp (fun z => z) fun ⟨nr', b1, b2⟩ => ⟨nr', b1, hmem _ b2⟩⟩
          · show (match (p - s).beq 0 with | true => r1.2 | false => (j, s, p - s) :: r1.2).Pairwise EndLe
            split
            · exact k.srt
            · refine List.pairwise_cons.2 ⟨fun e he => ?_, k.srt⟩
              rename_i hp0
              have h0 : p - s ≠ 0 := beq0 hp0
              have := k.ends e he
              simp only [EndLe]; omega
          · intro e he
            have he' : e ∈ (match (p - s).beq 0 with | true => r1.2 | false => (j, s, p - s) :: r1.2) := he
            split at he'
            · exact k.ends e he'
            · rename_i hp0
              have h0 : p - s ≠ 0 := beq0 hp0
              rcases List.mem_cons.1 he' with e' | e'
              · subst e'; dsimp only; omega
              · exact k.ends e e'
        · simp at h

theorem Sh.row {m m' : T AB} (h : Sh m m') {j : Nat} {n' : Nat} {cs : T AV} {g s : Nat} (e : m'.get j = some (.row n' cs g s)) : ∃ n, n' ≤ n ∧ m.get j = some (.row n cs g s) := by
  rcases h j with e' | ⟨a, a', c, gg, ss, hl, e1, e2⟩
  · exact ⟨n', Nat.le_refl _, by rw [← e']; exact e⟩
  · rw [e] at e2; cases e2; exact ⟨a, hl, e1⟩

theorem BRel.shrink {pr : Pr} {γ : Gm} {w : World} {x : Bl} {n n' : Nat} {cs : T AV} {g s : Nat} (h : BRel pr γ w x (.row n cs g s)) (hl : n' ≤ n) : BRel pr γ w x (.row n' cs g s) := by
  obtain ⟨cc, t, h1, h2, h3, h4, h5⟩ := h
  exact ⟨cc, t, h1, h2, by omega, fun o a hlt e => h4 o a (by omega) e, h5⟩

theorem Rel.shrink {pr : Pr} {ng : Nat} {γ : Gm} {h : H} {w : World} (r : Rel pr ng γ h w) {m' : T AB} {g' : T (List (Nat × Nat × Nat))} (hs : Sh h.m m')
    (hg : ∀ i n cs g s, m'.get i = some (.row n cs g s) → n = 0 ∨ ∃ n', n ≤ n' ∧ (i, s, n') ∈ (g'.get g).getD [])
    (hsr : ∀ g L, g'.get g = some L → L.Pairwise EndLe) : Rel pr ng γ { h with m := m', g := g' } w where
  prot := r.prot
  fresh := r.fresh
  glob := r.glob
  blk := by
    intro i ab hi
    rcases hs i with e | ⟨n, n', cs, g, s, hl, e1, e2⟩
    · exact r.blk i ab (by rw [← e]; exact hi)
    · have hi' : m'.get i = some ab := hi
      rw [e2] at hi'; cases hi'
      obtain ⟨x, hx, hb⟩ := r.blk i _ e1
      exact ⟨x, hx, hb.shrink hl⟩
  sep := by
    intro i j ab ab' x y hij hi hj hx hy hxy
    have hi' : m'.get i = some ab := hi
    have hj' : m'.get j = some ab' := hj
    rcases hs i with e | ⟨n, n', cs, g, s, hl, e1, e2⟩ <;> rcases hs j with f | ⟨k, k', cs', g', s', hl', f1, f2⟩
    · exact r.sep i j ab ab' x y hij (by rw [← e]; exact hi) (by rw [← f]; exact hj) hx hy hxy
    · rw [f2] at hj'; cases hj'
      rcases r.sep i j ab _ x y hij (by rw [← e]; exact hi) f1 hx hy hxy with ⟨_, h2⟩ | ⟨a1, a2, a3, a4, a5, a6, a7, h1, h2, h3⟩
      · simp [AB.ro] at h2
      · cases h2; exact .inr ⟨_, _, _, _, _, _, _, h1, rfl, h3⟩
    · rw [e2] at hi'; cases hi'
      rcases r.sep i j _ ab' x y hij e1 (by rw [← f]; exact hj) hx hy hxy with ⟨h2, _⟩ | ⟨a1, a2, a3, a4, a5, a6, a7, h1, h2, h3⟩
      · simp [AB.ro] at h2
      · cases h1; exact .inr ⟨_, _, _, _, _, _, _, rfl, h2, h3⟩
    · rw [e2] at hi'; cases hi'; rw [f2] at hj'; cases hj'
      rcases r.sep i j _ _ x y hij e1 f1 hx hy hxy with ⟨h2, _⟩ | ⟨a1, a2, a3, a4, a5, a6, a7, h1, h2, h3⟩
      · simp [AB.ro] at h2
      · cases h1; cases h2; exact .inr ⟨_, _, _, _, _, _, _, rfl, rfl, h3⟩
  grp := by
    intro i n cs g s hi
    obtain ⟨n0, _, h0⟩ := hs.row hi
    exact ⟨(r.grp i n0 cs g s h0).1, hg i n cs g s hi⟩
  srt := hsr
  res := r.res

def AB.alike : AB → AB → Prop
  | .cells _ _ a, .cells _ _ b => a = b
  | .row _ _ g s, .row _ _ g' s' => g = g' ∧ s = s'
  | .map .., .map .. => True
  | .loop .., .loop .. => True
  | .defr .., .defr .. => True
  | _, _ => False

/-- one block is written -/
theorem Rel.write {pr : Pr} {ng : Nat} {γ : Gm} {h : H} {w w' : World} (r : Rel pr ng γ h w) {b : Nat} {ab ab' : AB} {x : Bl} (hb : h.m.get b = some ab) (hx : γ b = some x)
    (hk : ∀ k, k ≠ x.blk → w'.heap[k]? = w.heap[k]?) (hp : pr x.blk = none) (hal : AB.alike ab ab') (hn : BRel pr γ w' x ab')
    (ho : ∀ j abj y, j ≠ b → h.m.get j = some abj → γ j = some y → y.blk = x.blk → BRel pr γ w' y abj)
    (hgr : ∀ n cs g s, ab' = .row n cs g s → n = 0 ∨ ∃ n', n ≤ n' ∧ (b, s, n') ∈ (h.g.get g).getD []) : Rel pr ng γ { h with m := h.m.set b ab' } w' where
  prot := by
    intro k o e
    by_cases hkx : k = x.blk
    · subst hkx; rw [hp] at e; simp at e
    · rw [hk k hkx]; exact r.prot k o e
  fresh := r.fresh
  glob := r.glob
  blk := by
    intro i a hi
    have hi' : (h.m.set b ab').get i = some a := hi
    rw [T.get_set] at hi'
    by_cases e : i = b
    · subst e; rw [if_pos rfl] at hi'; cases hi'; exact ⟨x, hx, hn⟩
    · rw [if_neg e] at hi'
      obtain ⟨y, hy, hbr⟩ := r.blk i a hi'
      by_cases hyx : y.blk = x.blk
      · exact ⟨y, hy, ho i a y e hi' hy hyx⟩
      · exact ⟨y, hy, hbr.of_block (hk _ hyx)⟩
  sep := by
    intro i j a1 a2 x1 y1 hij hi hj hx1 hy1 hxy
    have hi' : (h.m.set b ab').get i = some a1 := hi
    have hj' : (h.m.set b ab').get j = some a2 := hj
    rw [T.get_set] at hi' hj'
    by_cases e : i = b
    · subst e
      rw [if_pos rfl] at hi'; cases hi'
      rw [if_neg (Ne.symm hij)] at hj'
      rcases r.sep i j ab a2 x1 y1 hij hb hj' hx1 hy1 hxy with ⟨h1, h2⟩ | ⟨n1, c1, g1, s1, n2, c2, s2, h1, h2, h3⟩
      · cases ab <;> simp [AB.ro] at h1
        cases ab' <;> simp [AB.alike] at hal
        subst hal; subst h1; exact .inl ⟨rfl, h2⟩
      · subst h1
        cases ab' <;> simp [AB.alike] at hal
        obtain ⟨rfl, rfl⟩ := hal
        exact .inr ⟨_, _, _, _, _, _, _, rfl, h2, h3⟩
    · rw [if_neg e] at hi'
      by_cases e' : j = b
      · subst e'
        rw [if_pos rfl] at hj'; cases hj'
        rcases r.sep i j a1 ab x1 y1 hij hi' hb hx1 hy1 hxy with ⟨h1, h2⟩ | ⟨n1, c1, g1, s1, n2, c2, s2, h1, h2, h3⟩
        · cases ab <;> simp [AB.ro] at h2
          cases ab' <;> simp [AB.alike] at hal
          subst hal; subst h2; exact .inl ⟨h1, rfl⟩
        · subst h2
          cases ab' <;> simp [AB.alike] at hal
          obtain ⟨rfl, rfl⟩ := hal
          exact .inr ⟨_, _, _, _, _, _, _, h1, rfl, h3⟩
      · rw [if_neg e'] at hj'
        exact r.sep i j a1 a2 x1 y1 hij hi' hj' hx1 hy1 hxy
  grp := by
    intro i n cs g s hi
    have hi' : (h.m.set b ab').get i = some (.row n cs g s) := hi
    rw [T.get_set] at hi'
    by_cases e : i = b
    · subst e; rw [if_pos rfl] at hi'; cases hi'
      cases ab <;> simp [AB.alike] at hal
      obtain ⟨rfl, rfl⟩ := hal
      exact ⟨(r.grp i _ _ _ _ hb).1, hgr _ _ _ _ rfl⟩
    · rw [if_neg e] at hi'
      exact r.grp i n cs g s hi'
  srt := r.srt
  res := r.res

end Go.Vex
