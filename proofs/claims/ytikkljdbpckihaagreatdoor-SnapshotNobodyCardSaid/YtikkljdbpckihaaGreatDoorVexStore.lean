/- Part VexStore of a checked interpreter for closed calls: what it answers, the machine of the model answers; its conditions are those of its theorems. -/
import Derived.Test.YtikkljdbpckihaaGreatDoorVexPut
set_option linter.unusedSimpArgs false
set_option linter.unusedVariables false
namespace Go.Vex

theorem oneC_one {γ : Gm} {a : AV} {v : Value} (h : VR γ a v) (e : oneC a = true) : v.oneCell' = true := by
  cases h <;> first | rfl | simp [oneC] at e
theorem allOne_one {γ : Gm} : ∀ {as : List AV} {vs : List Value}, VRL γ as vs → allOne as = true → ∀ v ∈ vs, v.oneCell' = true
  | _, _, .nil, _ => by simp
  | _, _, .cons h t, e => by
    intro v hv
    simp only [allOne] at e
    split at e
    · rename_i e1
      rcases List.mem_cons.1 hv with rfl | hv'
      · exact oneC_one h e1
      · exact allOne_one t e v hv'
    · simp at e

def spliced (cc : Array Value) (p : Nat) (vs : List Value) : Array Value := (cc.toList.take p ++ vs ++ cc.toList.drop (p + vs.length)).toArray

theorem spliced_size {cc : Array Value} {p : Nat} {vs : List Value} (h : p + vs.length ≤ cc.size) : (spliced cc p vs).size = cc.size := by
  have : cc.toList.length = cc.size := by simp
  simp [spliced]; omega
theorem spliced_get {cc : Array Value} {p : Nat} {vs : List Value} (h : p + vs.length ≤ cc.size) (k : Nat) :
    (spliced cc p vs)[k]? = if p ≤ k ∧ k < p + vs.length then vs[k - p]? else cc[k]? := by
  have hl : (cc.toList.take p).length = p := by simp; omega
  simp only [spliced, List.getElem?_toArray]
  by_cases h1 : k < p
  · rw [if_neg (by omega), List.append_assoc, List.getElem?_append_left (by omega), List.getElem?_take, if_pos h1]; simp
  · by_cases h2 : k < p + vs.length
    · rw [if_pos (by omega), List.getElem?_append_left (by simp; omega), List.getElem?_append_right (by omega), hl]
    · rw [if_neg (by omega), List.getElem?_append_right (by simp; omega), List.getElem?_drop]
      simp only [List.length_append, hl]
      rw [show p + vs.length + (k - (p + vs.length)) = k from by omega]; simp

theorem wk_setRow (w : World) (g : Nat) (cs : Array Value) : WK w (w.setRow g cs) := ⟨rfl, rfl, rfl, by simp⟩

section
variable {pr : Pr} {ng : Nat} {γ : Gm} {h : H} {w : World}

theorem row_put {cs : T AV} {cc : Array Value} {sh n o : Nat} {as : List AV} {vs : List Value} (hv : VRL γ as vs) (hfit : sh + o + vs.length ≤ cc.size)
    (h4 : ∀ k a, k < n → cs.get k = some a → ∃ v, cc[sh + k]? = some v ∧ VR γ a v) :
    ∀ k a, k < n → (cs.ofL o as).get k = some a → ∃ v, (spliced cc (sh + o) vs)[sh + k]? = some v ∧ VR γ a v := by
  intro k a hk e
  rw [T.get_ofL] at e
  rw [spliced_get hfit]
  have hl := hv.length
  by_cases hin : o ≤ k ∧ k < o + as.length
  · rw [if_pos hin] at e
    obtain ⟨v, hv1, hr⟩ := hv.get e
    exact ⟨v, by rw [if_pos (by omega), show sh + k - (sh + o) = k - o from by omega]; exact hv1, hr⟩
  · rw [if_neg hin] at e
    obtain ⟨v, hv1, hr⟩ := h4 k a hk e
    exact ⟨v, by rw [if_neg (by omega)]; exact hv1, hr⟩

theorem Rel.put (P : Program) (r : Rel pr ng γ h w) {b o : Nat} {as : List AV} {vs : List Value} {h' : H} {x : Bl} (e : cellsPut h b o as = .ok h') (hx : γ b = some x) (hv : VRL γ as vs) :
    ∃ w', (storeCells ⟨x.blk, x.sh + o, none⟩ vs).run P w = .ok () w' ∧ Rel pr ng γ h' w' ∧ WK w w' := by
  unfold cellsPut at e
  split at e
  · cases hv
    simp at e; subst e
    exact ⟨w, by simp [storeCells], r, WK.refl w⟩
  · obtain ⟨hone, e⟩ := gd_ok e
    have h1 := allOne_one hv hone
    have hl := hv.length
    split at e
    · rename_i n cs hb
      obtain ⟨hfit, e⟩ := gd_ok e
      have hfit' : o + as.length ≤ n := by simpa using hfit
      simp at e; subst e
      obtain ⟨y, hy, h0', cc, t, fr, a1, a2, a3, a4, a5⟩ := r.blk _ _ hb
      obtain rfl : y = x := by rw [hx] at hy; exact (Option.some.inj hy).symm
      have h0 : y.sh = 0 := h0' rfl
      simp only [h0, Nat.zero_add] at a3 a4
      obtain ⟨hfr, hp⟩ := a5.1 rfl
      subst hfr
      have hf2 : y.sh + o + vs.length ≤ cc.size := by omega
      have hst := run_storeCells_at P y.blk (y.sh + o) t vs 0 cc w a1 (by omega) h1
      simp only [Nat.add_zero] at hst
      have hst' : (storeCells ⟨y.blk, y.sh + o, none⟩ vs).run P w = .ok () (w.setRow y.blk (spliced cc (y.sh + o) vs)) := hst
      have hnew := setRow_heap w y.blk cc (spliced cc (y.sh + o) vs) t (0, 0) a1
      refine ⟨_, hst', ?_, wk_setRow _ _ _⟩
      refine r.write (ab := .cells n cs false) (ab' := .cells n (cs.ofL o as) false) hb hx (fun k hk => setRow_other w y.blk k _ hk) hp rfl ?_ ?_ (by intro n cs g s e; simp at e)
      · refine ⟨h0', _, t, (0, 0), hnew, by rw [spliced_size hf2]; exact a2, by rw [spliced_size hf2, h0, Nat.zero_add]; exact a3, ?_, ⟨fun _ => ⟨rfl, hp⟩, by simp⟩⟩
        intro k a ek
        rw [show y.sh + k = k from by omega]
        rw [T.get_ofL] at ek
        rw [spliced_get hf2]
        by_cases hin : o ≤ k ∧ k < o + as.length
        · rw [if_pos hin] at ek
          obtain ⟨v, hv1, hr⟩ := hv.get ek
          exact ⟨v, by rw [if_pos (by omega), show k - (y.sh + o) = k - o from by omega]; exact hv1, hr⟩
        · rw [if_neg hin] at ek
          obtain ⟨v, hv1, hr⟩ := a4 k a ek
          exact ⟨v, by rw [if_neg (by omega)]; exact hv1, hr⟩
      · intro j abj z hj hjm hz hzx
        rcases r.sep j b abj _ z y hj hjm hb hz hx hzx with ⟨_, k⟩ | ⟨_, _, _, _, _, _, _, _, k, _⟩
        · simp [AB.ro] at k
        · simp at k
    · rename_i n cs g s hb
      obtain ⟨hfit, e⟩ := gd_ok e
      have hfit' : o + as.length ≤ n := by simpa using hfit
      obtain ⟨tr, ht, e⟩ := bd_ok e
      simp at e; subst e
      obtain ⟨y, hy, cc, t, a1, a2, a3, a4, hp⟩ := r.blk _ _ hb
      obtain rfl : y = x := by rw [hx] at hy; exact (Option.some.inj hy).symm
      have hsrt : ((h.g.get g).getD []).Pairwise EndLe := by
        cases eg : h.g.get g with
        | none => exact .nil
        | some L => exact r.srt g L eg
      have K := trunc_ok b (s + o) _ _ _ ht hsrt
      -- the others are shortened
      have r1 : Rel pr ng γ { h with m := tr.1, g := h.g.set g ((b, s, n) :: tr.2) } w := by
        refine r.shrink K.sh ?_ ?_
        · intro i ni ci gi si hi
          obtain ⟨n0, hn0, hi0⟩ := K.sh.row hi
          rw [T.get_set]
          by_cases eg : gi = g
          · subst eg
            rw [if_pos rfl]
            by_cases eib : i = b
            · subst eib
              rw [hb] at hi0; cases hi0
              exact .inr ⟨n, hn0, by simp⟩
            · rcases (r.grp i n0 ci gi si hi0).2 with z | ⟨n', z1, z2⟩
              · exact .inl (by omega)
              · obtain ⟨n2, q1, q2, q3⟩ := K.cut i si n' z2 eib n0 ci gi hi0 z1
                rw [hi] at q1; cases q1
                rcases q3 with q3 | ⟨nr', q4, q5⟩
                · exact .inl q3
                · exact .inr ⟨nr', q4, List.mem_cons_of_mem _ q5⟩
          · rw [if_neg eg]
            rcases (r.grp i n0 ci gi si hi0).2 with z | ⟨n', z1, z2⟩
            · exact .inl (by omega)
            · exact .inr ⟨n', by omega, z2⟩
        · intro gi L hL
          rw [T.get_set] at hL
          by_cases eg : gi = g
          · rw [if_pos eg] at hL; cases hL
            refine List.pairwise_cons.2 ⟨fun e he => ?_, K.srt⟩
            have := K.ends e he
            simp only [EndLe]; omega
          · rw [if_neg eg] at hL; exact r.srt gi L hL
      have hb1 : tr.1.get b = some (.row n cs g s) := by rw [K.same]; exact hb
      have hf2 : y.sh + o + vs.length ≤ cc.size := by omega
      have hst := run_storeCells_at P y.blk (y.sh + o) t vs 0 cc w a1 (by omega) h1
      simp only [Nat.add_zero] at hst
      have hst' : (storeCells ⟨y.blk, y.sh + o, none⟩ vs).run P w = .ok () (w.setRow y.blk (spliced cc (y.sh + o) vs)) := hst
      have hnew := setRow_heap w y.blk cc (spliced cc (y.sh + o) vs) t (0, 0) a1
      refine ⟨_, hst', ?_, wk_setRow _ _ _⟩
      refine r1.write (ab := .row n cs g s) (ab' := .row n (cs.ofL o as) g s) hb1 hx (fun k hk => setRow_other w y.blk k _ hk) hp ⟨rfl, rfl⟩ ?_ ?_ ?_
      · exact ⟨_, t, hnew, by rw [spliced_size hf2]; exact a2, by rw [spliced_size hf2]; exact a3, row_put hv hf2 a4, hp⟩
      · intro j abj z hj hjm hz hzx
        have hjm' : tr.1.get j = some abj := hjm
        rcases r1.sep j b abj _ z y hj hjm hb1 hz hx hzx with ⟨_, k⟩ | ⟨nj, cj, gj, sj, _, _, _, k1, k2, k3⟩
        · simp [AB.ro] at k
        · cases k2; subst k1
          obtain ⟨n0, hn0, hj0⟩ := K.sh.row hjm'
          obtain ⟨z', hz', c1, t1, d1, d2, d3, d4, d5⟩ := r1.blk j _ hjm
          obtain rfl : z' = z := by rw [hz] at hz'; exact (Option.some.inj hz').symm
          rw [hzx, a1] at d1; cases d1
          refine ⟨_, t, by rw [hzx]; exact hnew, by rw [spliced_size hf2]; exact d2, by rw [spliced_size hf2]; exact d3, ?_, d5⟩
          intro k a hk ek
          obtain ⟨v, hv1, hr⟩ := d4 k a hk ek
          refine ⟨v, ?_, hr⟩
          rw [spliced_get hf2, if_neg ?_]; exact hv1
          rcases (r.grp j n0 cj g sj hj0).2 with q | ⟨n', q1, q2⟩
          · omega
          · obtain ⟨n2, e1, e2, _⟩ := K.cut j sj n' q2 hj n0 cj g hj0 q1
            rw [hjm'] at e1; cases e1
            omega
      · intro n1 c1 g1 s1 e1
        cases e1
        right
        refine ⟨n, Nat.le_refl _, ?_⟩
        show (b, s, n) ∈ ((h.g.set g ((b, s, n) :: tr.2)).get g).getD []
        rw [T.get_set_same]; simp
    · simp at e
end
end Go.Vex
