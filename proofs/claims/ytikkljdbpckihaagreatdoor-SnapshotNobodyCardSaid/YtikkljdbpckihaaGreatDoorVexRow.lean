/- Part VexRow of a checked interpreter for closed calls: what it answers, the machine of the model answers; its conditions are those of its theorems. -/
import Derived.Test.YtikkljdbpckihaaGreatDoorVexStore
set_option linter.unusedSimpArgs false
set_option linter.unusedVariables false
namespace Go.Vex
section
variable {pr : Pr} {ng : Nat} {γ : Gm} {h : H} {w : World}

theorem Rel.blk_lt (r : Rel pr ng γ h w) {i : Nat} {ab : AB} {x : Bl} (hi : h.m.get i = some ab) (hx : γ i = some x) : x.blk < w.heap.size := by
  obtain ⟨y, hy, hbr⟩ := r.blk i ab hi
  obtain rfl : y = x := by rw [hx] at hy; exact (Option.some.inj hy).symm
  cases ab with
  | cells n cs fz => obtain ⟨_, cc, t, fr, h1, _⟩ := hbr; exact lt_of_get h1
  | row n cs gg s => obtain ⟨cc, t, h1, _⟩ := hbr; exact lt_of_get h1
  | map es clk => obtain ⟨es', h1, _⟩ := hbr; exact lt_of_get h1
  | loop => obtain ⟨l, h1, _⟩ := hbr; exact lt_of_get h1
  | defr e => exact lt_of_get hbr.1

theorem Rel.none_c (r : Rel pr ng γ h w) : h.m.get h.c = none := by
  cases e : h.m.get h.c with
  | none => rfl
  | some ab' => obtain ⟨x, hx, _⟩ := r.blk _ _ e; rw [r.fresh _ (Nat.le_refl _)] at hx; simp at hx

theorem Rel.pr_new (r : Rel pr ng γ h w) : pr w.heap.size = none := by
  cases e : pr w.heap.size with
  | none => rfl
  | some o' => have := lt_of_get (r.prot _ _ e); omega

/-- a new number for a row: in a new block, or in an old one -/
theorem Rel.addRow {w' : World} (r : Rel pr ng γ h w) {x : Bl} {n : Nat} {cs : T AV} {g s : Nat} (hg : g ≤ h.c)
    (hprot : ∀ b o, pr b = some o → w'.heap[b]? = some o)
    (hold : ∀ i ab y, h.m.get i = some ab → γ i = some y → BRel pr γ w' y ab)
    (hnew : BRel pr γ w' x (.row n cs g s))
    (hsep : ∀ i ab y, h.m.get i = some ab → γ i = some y → y.blk = x.blk → ∃ n' cs' s', ab = .row n' cs' g s' ∧ x.sh + s' = y.sh + s)
    {g' : T (List (Nat × Nat × Nat))}
    (hgn : n = 0 ∨ ∃ n', n ≤ n' ∧ (h.c, s, n') ∈ (g'.get g).getD [])
    (hgo : ∀ i ni ci gi si, h.m.get i = some (.row ni ci gi si) → ni = 0 ∨ ∃ n', ni ≤ n' ∧ (i, si, n') ∈ (g'.get gi).getD [])
    (hsr : ∀ g L, g'.get g = some L → L.Pairwise EndLe) :
    Rel pr ng (γ.put h.c x) { m := h.m.set h.c (.row n cs g s), c := h.c + 1, g := g' } w' := by
  have hc : γ h.c = none := r.fresh _ (Nat.le_refl _)
  have hle := Gm.le_put (x := x) hc
  refine ⟨hprot, ?_, ?_, ?_, ?_, ?_, hsr, Gm.put_res r.res⟩
  · intro i hi
    simp only [Gm.put]
    rw [if_neg (by simp at hi; omega)]
    exact r.fresh i (by simp at hi; omega)
  · intro k hk
    obtain ⟨z, hz⟩ := r.glob k hk
    exact ⟨z, hle _ _ hz⟩
  · intro i ab' hi
    rw [T.get_set] at hi
    by_cases e : i = h.c
    · rw [if_pos e] at hi; cases hi; subst e
      exact ⟨x, by simp [Gm.put], hnew.mono hle⟩
    · rw [if_neg e] at hi
      obtain ⟨y, hy, _⟩ := r.blk i ab' hi
      exact ⟨y, hle _ _ hy, (hold i ab' y hi hy).mono hle⟩
  · intro i j ab1 ab2 y z hij hi hj hy hz hyz
    rw [T.get_set] at hi hj
    simp only [Gm.put] at hy hz
    by_cases e : i = h.c
    · have hj' : j ≠ h.c := by omega
      rw [if_pos e] at hy hi; rw [if_neg hj'] at hj hz
      cases hy; cases hi
      obtain ⟨n', cs', s', q1, q2⟩ := hsep j ab2 z hj hz hyz.symm
      exact .inr ⟨_, _, _, _, _, _, _, rfl, q1, q2⟩
    · rw [if_neg e] at hi hy
      by_cases e' : j = h.c
      · rw [if_pos e'] at hz hj
        cases hz; cases hj
        obtain ⟨n', cs', s', q1, q2⟩ := hsep i ab1 y hi hy hyz
        exact .inr ⟨_, _, _, _, _, _, _, q1, rfl, q2.symm⟩
      · rw [if_neg e'] at hj hz
        exact r.sep i j ab1 ab2 y z hij hi hj hy hz hyz
  · intro i ni ci gi si hi
    rw [T.get_set] at hi
    by_cases e : i = h.c
    · rw [if_pos e] at hi; cases hi; subst e
      exact ⟨by simp; omega, hgn⟩
    · rw [if_neg e] at hi
      exact ⟨by have := (r.grp i ni ci gi si hi).1; simp; omega, hgo i ni ci gi si hi⟩

theorem push_old (w : World) (o : Obj) {b : Nat} (hb : b < w.heap.size) : ({ w with heap := w.heap.push o } : World).heap[b]? = w.heap[b]? := by
  show (w.heap.push o)[b]? = _
  rw [Array.getElem?_push, if_neg (by omega)]
theorem push_new (w : World) (o : Obj) : ({ w with heap := w.heap.push o } : World).heap[w.heap.size]? = some o := by
  show (w.heap.push o)[w.heap.size]? = _
  simp

/-- a new row in a new block, with a tail of which nothing is known -/
theorem Rel.newRow (r : Rel pr ng γ h w) {as : List AV} {vs rest : List Value} (hv : VRL γ as vs) (t : TypeId) :
    Rel pr ng (γ.put h.c ⟨w.heap.size, 0, vs.length + rest.length⟩) (newRowA h as).2 { w with heap := w.heap.push (.cells (vs ++ rest).toArray t) } := by
  refine r.addRow (n := as.length) (cs := T.ofL .lf 0 as) (g := h.c) (s := 0) (x := ⟨w.heap.size, 0, vs.length + rest.length⟩) (Nat.le_refl _) ?_ ?_ ?_ ?_ ?_ ?_ ?_
  · intro b o e
    rw [push_old _ _ (lt_of_get (r.prot b o e))]; exact r.prot b o e
  · intro i ab y hi hy
    obtain ⟨y', hy', hb⟩ := r.blk i ab hi
    obtain rfl : y' = y := by rw [hy] at hy'; exact (Option.some.inj hy').symm
    exact hb.of_block (push_old _ _ (r.blk_lt hi hy))
  · refine ⟨_, t, push_new _ _, by simp, by simp [hv.length], ?_, r.pr_new⟩
    intro o a ho e
    obtain ⟨v, h1, hr⟩ := cells_new hv o a e
    refine ⟨v, ?_, hr⟩
    have hlt : o < vs.length := by have := lt_of_get h1; simpa using this
    simp only [Nat.zero_add, List.getElem?_toArray] at h1 ⊢
    rw [List.getElem?_append_left hlt]; exact h1
  · intro i ab y hi hy hyx
    have := r.blk_lt hi hy
    simp at hyx; omega
  · right; exact ⟨as.length, Nat.le_refl _, by rw [T.get_set_same]; simp⟩
  · intro i ni ci gi si hi
    obtain ⟨q1, q2⟩ := r.grp i ni ci gi si hi
    rw [T.get_set_ne _ _ (by omega)]; exact q2
  · intro g L hL
    rw [T.get_set] at hL
    split at hL
    · cases hL; simp
    · exact r.srt g L hL

theorem growRow_ok {b o used : Nat} {as : List AV} {k : Nat} {h' : H} (e : growRow h b o used as = .ok (k, h')) : ∃ n cs g s tr, h.m.get b = some (.row n cs g s) ∧ o + used ≤ n ∧
    trunc h.c (s + o + used) h.m ((h.g.get g).getD []) = .ok tr ∧ k = h.c ∧
    h' = { m := tr.1.set h.c (.row as.length (T.ofL .lf 0 as) g (s + o)), c := h.c + 1, g := h.g.set g ((h.c, s + o, as.length) :: tr.2) } := by
  unfold growRow at e
  split at e
  · rename_i n cs g s hb
    obtain ⟨hou, e1⟩ := gd_ok e; clear e
    obtain ⟨tr, ht, e⟩ := bd_ok e1
    simp at e
    exact ⟨n, cs, g, s, tr, hb, by simpa using hou, ht, e.1.symm, e.2.symm⟩
  · simp at e

/-- what the others look like behind the cut -/
theorem Rel.cutAll (r : Rel pr ng γ h w) {g p : Nat} {tr : T AB × List (Nat × Nat × Nat)} (ht : trunc h.c p h.m ((h.g.get g).getD []) = .ok tr) {s ln : Nat} (hend : p ≤ s + ln) :
    TruncOk h.c p h.m ((h.g.get g).getD []) tr.1 tr.2 ∧ Rel pr ng γ { h with m := tr.1, g := h.g.set g ((h.c, s, ln) :: tr.2) } w ∧
    (∀ j nj cj sj, tr.1.get j = some (.row nj cj g sj) → nj = 0 ∨ sj + nj ≤ p) := by
  have hsrt : ((h.g.get g).getD []).Pairwise EndLe := by
    cases eg : h.g.get g with
    | none => exact .nil
    | some L => exact r.srt g L eg
  have K := trunc_ok h.c p _ _ _ ht hsrt
  have hnc := r.none_c
  refine ⟨K, r.shrink K.sh ?_ ?_, ?_⟩
  · intro i ni ci gi si hi
    obtain ⟨n0, hn0, hi0⟩ := K.sh.row hi
    have hic : i ≠ h.c := by intro e; subst e; rw [hnc] at hi0; simp at hi0
    rw [T.get_set]
    by_cases eg : gi = g
    · subst eg
      rw [if_pos rfl]
      rcases (r.grp i n0 ci gi si hi0).2 with z | ⟨n', z1, z2⟩
      · exact .inl (by omega)
      · obtain ⟨n2, q1, q2, q3⟩ := K.cut i si n' z2 hic n0 ci gi hi0 z1
        rw [hi] at q1; cases q1
        rcases q3 with q3 | ⟨nr', q4, q5⟩
        · exact .inl q3
        · exact .inr ⟨nr', q4, List.mem_cons_of_mem _ q5⟩
    · rw [if_neg eg]
      rcases (r.grp i n0 ci gi si hi0).2 with z | ⟨n', z1, z2⟩
      · exact .inl (by omega)
      · exact .inr ⟨n', by omega, z2⟩
  · intro gi L hL
    rw [T.get_set] at hL
    by_cases eg : gi = g
    · rw [if_pos eg] at hL; cases hL
      refine List.pairwise_cons.2 ⟨fun e he => ?_, K.srt⟩
      have := K.ends e he
      simp only [EndLe]; omega
    · rw [if_neg eg] at hL; exact r.srt gi L hL
  · intro j nj cj sj hj
    obtain ⟨n0, hn0, hj0⟩ := K.sh.row hj
    have hjc : j ≠ h.c := by intro e; subst e; rw [hnc] at hj0; simp at hj0
    rcases (r.grp j n0 cj g sj hj0).2 with z | ⟨n', z1, z2⟩
    · exact .inl (by omega)
    · obtain ⟨n2, q1, q2, _⟩ := K.cut j sj n' z2 hjc n0 cj g hj0 z1
      rw [hj] at q1; cases q1; exact q2

/-- append where there was no room -/
theorem Rel.growFresh (r : Rel pr ng γ h w) {b o used : Nat} {as : List AV} {k : Nat} {h' : H} (e : growRow h b o used as = .ok (k, h')) (hu : used ≤ as.length)
    {vs rest : List Value} (hv : VRL γ as vs) (t : TypeId) :
    k = h.c ∧ Rel pr ng (γ.put h.c ⟨w.heap.size, 0, vs.length + rest.length⟩) h' { w with heap := w.heap.push (.cells (vs ++ rest).toArray t) } := by
  obtain ⟨n, cs, g, s, tr, hb, hou, ht, rfl, rfl⟩ := growRow_ok e
  refine ⟨rfl, ?_⟩
  obtain ⟨K, r1, hcut⟩ := r.cutAll ht (s := s + o) (ln := as.length) (by omega)
  have hgc := (r.grp b n cs g s hb).1
  refine r1.addRow (n := as.length) (cs := T.ofL .lf 0 as) (g := g) (s := s + o) (x := ⟨w.heap.size, 0, vs.length + rest.length⟩) (by show g ≤ h.c; omega) ?_ ?_ ?_ ?_ ?_ ?_ r1.srt
  · intro b o e
    rw [push_old _ _ (lt_of_get (r.prot b o e))]; exact r.prot b o e
  · intro i ab y hi hy
    obtain ⟨y', hy', hb⟩ := r1.blk i ab hi
    obtain rfl : y' = y := by rw [hy] at hy'; exact (Option.some.inj hy').symm
    exact hb.of_block (push_old _ _ (r1.blk_lt hi hy))
  · refine ⟨_, t, push_new _ _, by simp, by simp [hv.length], ?_, r.pr_new⟩
    intro o a ho e
    obtain ⟨v, h1, hr⟩ := cells_new hv o a e
    refine ⟨v, ?_, hr⟩
    have hlt : o < vs.length := by have := lt_of_get h1; simpa using this
    simp only [Nat.zero_add, List.getElem?_toArray] at h1 ⊢
    rw [List.getElem?_append_left hlt]; exact h1
  · intro i ab y hi hy hyx
    have := r1.blk_lt hi hy
    simp at hyx; omega
  · right; exact ⟨as.length, Nat.le_refl _, by rw [T.get_set_same]; simp⟩
  · intro i ni ci gi si hi
    exact (r1.grp i ni ci gi si hi).2

/-- append where there was room -/
theorem Rel.growRoom (r : Rel pr ng γ h w) {b o used : Nat} {old new : List AV} {k : Nat} {h' : H} (e : growRow h b o used (old ++ new) = .ok (k, h')) {x : Bl} (hx : γ b = some x) (hu : old.length = used)
    {ovs nvs : List Value} (hov : VRL γ old ovs) (hold : ∀ j, j < used → ∃ v, ovs[j]? = some v ∧ w.cell? ⟨x.blk, x.sh + o + j, none⟩ = some v) (hnv : VRL γ new nvs)
    (hfit : x.sh + o + used + nvs.length ≤ x.sz) :
    k = h.c ∧ ∃ cc t, w.heap[x.blk]? = some (.cells cc t (0, 0)) ∧ cc.size = x.sz ∧
      Rel pr ng (γ.put h.c ⟨x.blk, x.sh + o, x.sz⟩) h' (w.setRow x.blk (spliced cc (x.sh + o + used) nvs)) := by
  obtain ⟨n, cs, g, s, tr, hb, hou, ht, rfl, rfl⟩ := growRow_ok e
  refine ⟨rfl, ?_⟩
  obtain ⟨K, r1, hcut⟩ := r.cutAll ht (s := s + o) (ln := (old ++ new).length) (by simp; omega)
  have hgc := (r.grp b n cs g s hb).1
  obtain ⟨y, hy, cc, t, a1, a2, a3, a4, hp⟩ := r.blk _ _ hb
  obtain rfl : y = x := by rw [hx] at hy; exact (Option.some.inj hy).symm
  refine ⟨cc, t, a1, a2, ?_⟩
  have hf2 : y.sh + o + used + nvs.length ≤ cc.size := by omega
  have hnew := setRow_heap w y.blk cc (spliced cc (y.sh + o + used) nvs) t (0, 0) a1
  -- b itself, behind the cut
  obtain ⟨nb, hnb, hb1⟩ : ∃ nb, nb ≤ n ∧ tr.1.get b = some (.row nb cs g s) := by
    rcases K.sh b with q | ⟨u, u', c, gg, ss, hl, q1, q2⟩
    · exact ⟨n, Nat.le_refl _, by rw [q]; exact hb⟩
    · rw [hb] at q1; cases q1; exact ⟨u', hl, q2⟩
  have hol := hov.length
  have hnl := hnv.length
  refine r1.addRow (n := (old ++ new).length) (cs := T.ofL .lf 0 (old ++ new)) (g := g) (s := s + o) (x := ⟨y.blk, y.sh + o, y.sz⟩) (by show g ≤ h.c; omega) ?_ ?_ ?_ ?_ ?_ ?_ r1.srt
  · intro k ob e
    by_cases hk : k = y.blk
    · subst hk; rw [hp] at e; simp at e
    · rw [setRow_other _ _ _ _ hk]; exact r.prot k ob e
  · intro i ab z hi hz
    obtain ⟨z', hz', hbz⟩ := r1.blk i ab hi
    obtain rfl : z' = z := by rw [hz] at hz'; exact (Option.some.inj hz').symm
    by_cases hzx : z'.blk = y.blk
    · by_cases hib : i = b
      · subst hib
        have hi' : tr.1.get i = some ab := hi
        rw [hb1] at hi'; cases hi'
        rw [hx] at hz; cases hz
        obtain ⟨c1, t1, d1, d2, d3, d4, d5⟩ := hbz
        rw [a1] at d1; cases d1
        refine ⟨_, t, hnew, by rw [spliced_size hf2]; exact d2, by rw [spliced_size hf2]; exact d3, ?_, d5⟩
        intro q a hq eq
        obtain ⟨v, hv1, hr⟩ := d4 q a hq eq
        refine ⟨v, ?_, hr⟩
        rw [spliced_get hf2, if_neg ?_]; exact hv1
        rcases hcut i nb cs s hb1 with z | z <;> omega
      · rcases r1.sep i b ab _ z' y hib hi hb1 hz hx hzx with ⟨_, k⟩ | ⟨nj, cj, gj, sj, _, _, _, k1, k2, k3⟩
        · simp [AB.ro] at k
        · cases k2; subst k1
          obtain ⟨c1, t1, d1, d2, d3, d4, d5⟩ := hbz
          rw [hzx, a1] at d1; cases d1
          refine ⟨_, t, by rw [hzx]; exact hnew, by rw [spliced_size hf2]; exact d2, by rw [spliced_size hf2]; exact d3, ?_, d5⟩
          intro q a hq eq
          obtain ⟨v, hv1, hr⟩ := d4 q a hq eq
          refine ⟨v, ?_, hr⟩
          rw [spliced_get hf2, if_neg ?_]; exact hv1
          rcases hcut i nj cj sj hi with z | z <;> omega
    · exact hbz.of_block (setRow_other _ _ _ _ hzx)
  · refine ⟨_, t, hnew, by rw [spliced_size hf2]; exact a2, by rw [spliced_size hf2]; simp; omega, ?_, hp⟩
    intro q a hq eq
    rw [T.get_ofL] at eq
    simp only [Nat.zero_le, true_and, Nat.zero_add, Nat.sub_zero] at eq
    rw [if_pos hq] at eq
    simp only [spliced_get hf2]
    by_cases hqo : q < old.length
    · rw [List.getElem?_append_left hqo] at eq
      obtain ⟨v, hv1, hr⟩ := hov.get eq
      obtain ⟨v', hv2, hv3⟩ := hold q (by omega)
      rw [hv1] at hv2; cases hv2
      rw [cell_of a1] at hv3
      exact ⟨v, by rw [if_neg (by omega)]; exact hv3, hr⟩
    · rw [List.getElem?_append_right (by omega)] at eq
      obtain ⟨v, hv1, hr⟩ := hnv.get eq
      have hlt : q - old.length < new.length := (List.getElem?_eq_some_iff.1 eq).1
      exact ⟨v, by rw [if_pos (by omega), show y.sh + o + q - (y.sh + o + used) = q - old.length from by omega]; exact hv1, hr⟩
  · intro i ab z hi hz hzx
    have hzx' : z.blk = y.blk := hzx
    by_cases hib : i = b
    · subst hib
      have hi' : tr.1.get i = some ab := hi
      rw [hb1] at hi'; cases hi'
      rw [hx] at hz; cases hz
      exact ⟨_, _, _, rfl, by simp; omega⟩
    · rcases r1.sep i b ab _ z y hib hi hb1 hz hx hzx' with ⟨_, k⟩ | ⟨nj, cj, gj, sj, _, _, _, k1, k2, k3⟩
      · simp [AB.ro] at k
      · cases k2; subst k1
        exact ⟨_, _, _, rfl, by simp; omega⟩
  · right; exact ⟨(old ++ new).length, Nat.le_refl _, by rw [T.get_set_same]; simp⟩
  · intro i ni ci gi si hi
    exact (r1.grp i ni ci gi si hi).2

end
end Go.Vex
