/- Part VexOps3 of a checked interpreter for closed calls: what it answers, the machine of the model answers; its conditions are those of its theorems. -/
import Derived.Test.YtikkljdbpckihaaGreatDoorVexOps2
set_option linter.unusedSimpArgs false
set_option linter.unusedVariables false
namespace Go.Vex

theorem keyEq_now {γ : Gm} {u : TypeDesc} {k k' : AV} {vk vk' : Value} {b : Bool} (e : keyEq k k' = .ok b) (hu : keyKind u k = true) (hk : VR γ k vk) (hk' : VR γ k' vk') :
    Instr.sameNow u vk vk' = some b ∧ (b = true → Instr.sameBits 10000 vk' vk = true) := by
  unfold keyEq at e
  split at e
  · cases hk; cases hk'
    obtain ⟨h1, e2⟩ := gd_ok e
    obtain rfl := kbeq_eq h1
    simp at e2; subst e2
    cases u <;> simp [keyKind] at hu
    refine ⟨by simp [Instr.sameNow, ieq_eq], fun h => ?_⟩
    rw [ieq_eq] at h
    simp [Instr.sameBits] at h ⊢
    exact h.symm
  · cases hk; cases hk'
    simp at e; subst e
    rename_i s1 s2
    cases u <;> simp [keyKind] at hu
    have : beqL (s1.data.toList.map (·.toNat)) (s2.data.toList.map (·.toNat)) = (s1 == s2) := by
      rw [beqL_eq, beq_toListBytes, ByteArray.toList_eq, ByteArray.toList_eq]
    refine ⟨by simp only [Instr.sameNow, this], fun h => ?_⟩
    rw [this, beq_toListBytes] at h
    have h' : s1.toList = s2.toList := by simpa using h
    show (s2 == s1) = true
    rw [beq_toListBytes, h']; simp
  · simp at e

theorem find_ok {γ : Gm} {u : TypeDesc} {k : AV} {vk : Value} (hu : keyKind u k = true) (hk : VR γ k vk) : ∀ {es : List (AV × AV × Nat)} {es' : List MapEntry} {r : Option AV} (i : Nat), ER γ es es' → findE k es = .ok r →
    (r = none ∧ Instr.findNow u vk es' i = some none) ∨ ∃ a v j, r = some a ∧ Instr.findNow u vk es' i = some (some (j, v)) ∧ VR γ a v
  | [], [], r, i, _, e => by simp [findE] at e; exact .inl ⟨e.symm, rfl⟩
  | (k', v', n) :: es, e' :: es', r, i, ⟨h1, h2, h3, h4⟩, e => by
    simp only [findE] at e
    obtain ⟨b, hb, e2⟩ := bd_ok e; clear e
    obtain ⟨q, _⟩ := keyEq_now hb hu hk h1
    cases b with
    | true => simp at e2; subst e2; exact .inr ⟨v', e'.val, i, rfl, by simp [Instr.findNow, q], h2⟩
    | false =>
      simp only [Instr.findNow, q]
      exact find_ok hu hk (i + 1) h4 e2

theorem ER.length {γ : Gm} : ∀ {a : List (AV × AV × Nat)} {b : List MapEntry}, ER γ a b → a.length = b.length
  | [], [], _ => rfl
  | (_, _, _) :: _, _ :: _, ⟨_, _, _, h4⟩ => by simp [ER.length h4]

theorem set_ok {γ : Gm} {u : TypeDesc} {k v : AV} {vk vv : Value} (hu : keyKind u k = true) (hk : VR γ k vk) (hv : VR γ v vv) : ∀ {es : List (AV × AV × Nat)} {es' : List MapEntry} {clk : Nat} {q : List (AV × AV × Nat) × Nat} (i : Nat),
    ER γ es es' → setE k v es clk = .ok q →
    (∃ j e, Instr.findNow u vk es' i = some (some (i + j, e.val)) ∧ es'[j]? = some e ∧ Instr.sameBits 10000 e.key vk = true ∧ q.2 = clk ∧ ER γ q.1 (es'.modify j fun e => { e with key := vk, val := vv })) ∨
    (Instr.findNow u vk es' i = some none ∧ q.2 = clk + 1 ∧ ER γ q.1 (es' ++ [{ key := vk, val := vv, born := clk }]))
  | [], [], clk, q, i, _, e => by simp [setE] at e; subst e; exact .inr ⟨rfl, rfl, hk, hv, rfl, trivial⟩
  | (k', v', n) :: es, e' :: es', clk, q, i, ⟨h1, h2, h3, h4⟩, e => by
    simp only [setE] at e
    obtain ⟨b, hb, e2⟩ := bd_ok e; clear e
    obtain ⟨p1, p2⟩ := keyEq_now hb hu hk h1
    cases b with
    | true =>
      simp at e2; subst e2
      exact .inl ⟨0, e', by simp [Instr.findNow, p1], rfl, p2 rfl, rfl, hk, hv, h3, h4⟩
    | false =>
      obtain ⟨q2, hq, e3⟩ := bd_ok e2; clear e2
      simp at e3; subst e3
      rcases set_ok hu hk hv (i + 1) h4 hq with ⟨j, e, a1, a2, a3, a4, a5⟩ | ⟨a1, a2, a3⟩
      · exact .inl ⟨j + 1, e, by simp only [Instr.findNow, p1]; rw [a1, show i + 1 + j = i + (j + 1) from by omega], by simpa using a2, a3, a4, by
          rw [List.modify_succ_cons]; exact ⟨h1, h2, h3, a5⟩⟩
      · exact .inr ⟨by simp only [Instr.findNow, p1]; exact a1, a2, h1, h2, h3, a3⟩

section
variable {P : Program} {Γ : Env} (G : EnvOk P Γ) {pr : Pr} {γ : Gm} {h : H} {w : World} (r : Rel pr Γ.ng γ h w)

include G in
theorem fieldAtA_ok {s : TypeId} {x : AV} {vx : Value} {f : Nat} {a : AV} (e : fieldAtA Γ s x f = .ok a) (hx : VR γ x vx) (w : World) : ∃ v, (Instr.fieldAt s vx f).run P w = .ok v w ∧ VR γ a v := by
  unfold fieldAtA at e
  obtain ⟨i, hi, e1⟩ := bd_ok e; clear e
  obtain ⟨info, k⟩ := G.tt _ _ (og_ok hi)
  have hu := k.run_und w
  split at e1
  · rename_i fields b o hd
    obtain ⟨fl, hf, e2⟩ := bd_ok e1; clear e1
    obtain ⟨fi, hfi, e3⟩ := bd_ok e2; clear e2
    obtain ⟨info2, k2⟩ := G.tt _ _ (og_ok hfi)
    have hs := k2.run_size w
    have hf' : fields[f]? = some fl := by have := og_ok hf; simpa using this
    cases hx with
    | ptr o hγ =>
      rename_i x
      rw [hd] at hu
      split at e3
      · simp at e3
      · rename_i hz
        have hz' := beq0 hz
        simp at e3; subst e3
        simp only [Instr.fieldAt, Sem.run_bind, hu, Result.andThen_ok, hf', Instr.sureAddr, Sem.run_pure, fieldPlace, hs, hz', if_false, addr_add]
        exact ⟨_, rfl, by rw [Nat.add_assoc]; exact .ptr _ hγ⟩
  · simp at e1

include G in
theorem fieldA_ok {s : TypeId} {x : AV} {vx : Value} {f : Nat} {a : AV} (e : fieldA Γ s x f = .ok a) (hx : VR γ x vx) (w : World) : ∃ v, (Instr.field s vx f).run P w = .ok v w ∧ VR γ a v := by
  unfold fieldA at e
  obtain ⟨i, hi, e1⟩ := bd_ok e; clear e
  obtain ⟨info, k⟩ := G.tt _ _ (og_ok hi)
  have hu := k.run_und w
  split at e1
  · rename_i fields cs hd
    obtain ⟨fl, hf, e2⟩ := bd_ok e1; clear e1
    have hf' : fields[f]? = some fl := by have := og_ok hf; simpa using this
    cases hx with
    | agg hx =>
      rw [hd] at hu
      obtain ⟨v, h1, h2⟩ := partA_ok G e2 hx
      exact ⟨v, by simp [Instr.field, hu, hf', asAgg, h1], h2⟩
  · simp at e1

include G in
theorem indexAtA_ok {t : TypeId} {x ix : AV} {vx vi : Value} {a : AV} (e : indexAtA Γ t x ix = .ok a) (hx : VR γ x vx) (hi : VR γ ix vi) (w : World) : ∃ v, (Instr.indexAt t vx vi).run P w = .ok v w ∧ VR γ a v := by
  unfold indexAtA at e
  obtain ⟨i, hi', e1⟩ := bd_ok e; clear e
  obtain ⟨info, k⟩ := G.tt _ _ (og_ok hi')
  have hu := k.run_und w
  obtain ⟨n, hn, e2⟩ := bd_ok e1; clear e1
  obtain ⟨kk, rfl⟩ := natOf_ok hn hi
  split at e2
  · rename_i len el b o hd
    obtain ⟨hlt, e3⟩ := gd_ok e2; clear e2
    have hlt' : n < len := by simpa using hlt
    obtain ⟨ei, he, e4⟩ := bd_ok e3; clear e3
    obtain ⟨info2, k2⟩ := G.tt _ _ (og_ok he)
    have hs := k2.run_size w
    simp at e4; subst e4
    cases hx with
    | ptr o hγ =>
      rw [hd] at hu
      have : (0 : Int) ≤ n ∧ (n : Int) < len := by omega
      exact ⟨_, by simp [Instr.indexAt, asIntOf, hu, Instr.sureAddr, this, hlt', hs, addr_add]; rfl, by rw [Nat.add_assoc]; exact .ptr _ hγ⟩
  · rename_i el b o len cap hd
    obtain ⟨hlt, e3⟩ := gd_ok e2; clear e2
    have hlt' : n < len := by simpa using hlt
    obtain ⟨ei, he, e4⟩ := bd_ok e3; clear e3
    obtain ⟨info2, k2⟩ := G.tt _ _ (og_ok he)
    have hs := k2.run_size w
    simp at e4; subst e4
    have hh : (0 : Int) ≤ n ∧ (n : Int) < len := by omega
    rw [hd] at hu
    cases hx with
    | sliceK o len c hγ hl ho =>
      have := ho (by omega)
      exact ⟨_, by simp [Instr.indexAt, asIntOf, hu, hh, hlt', hs, addr_add]; rfl, by rw [this, Nat.add_assoc]; exact .ptr _ hγ⟩
    | sliceU o len es hγ hl ho =>
      have := (ho (by omega)).1
      exact ⟨_, by simp [Instr.indexAt, asIntOf, hu, hh, hlt', hs, addr_add]; rfl, by rw [this, Nat.add_assoc]; exact .ptr _ hγ⟩
  · simp at e2

include G in
theorem indexA_ok {t : TypeId} {x ix : AV} {vx vi : Value} {a : AV} (e : indexA Γ t x ix = .ok a) (hx : VR γ x vx) (hi : VR γ ix vi) (w : World) : ∃ v, (Instr.index t vx vi).run P w = .ok v w ∧ VR γ a v := by
  unfold indexA at e
  obtain ⟨i, hi', e1⟩ := bd_ok e; clear e
  obtain ⟨info, k⟩ := G.tt _ _ (og_ok hi')
  have hu := k.run_und w
  obtain ⟨n, hn, e2⟩ := bd_ok e1; clear e1
  obtain ⟨kk, rfl⟩ := natOf_ok hn hi
  split at e2
  · rename_i len el cs hd
    obtain ⟨hlt, e3⟩ := gd_ok e2; clear e2
    have hlt' : n < len := by simpa using hlt
    obtain ⟨ei, he, e4⟩ := bd_ok e3; clear e3
    obtain ⟨info2, k2⟩ := G.tt _ _ (og_ok he)
    have hs := k2.run_size w
    cases hx with
    | agg hx =>
      rw [hd] at hu
      have hh : (0 : Int) ≤ n ∧ (n : Int) < len := by omega
      obtain ⟨v, h1, h2⟩ := partA_ok G e4 hx
      exact ⟨v, by simp [Instr.index, asIntOf, hu, hh, hlt', hs, h1], h2⟩
  · rename_i s hd
    obtain ⟨b, hb, e3⟩ := bd_ok e2; clear e2
    simp at e3; subst e3
    cases hx
    rename_i bs
    rw [hd] at hu
    have hb' := og_ok hb
    obtain ⟨u, hu1, hu2⟩ := List.getElem?_map .. ▸ hb' |> fun (h : Option.map _ _ = some b) => Option.map_eq_some_iff.1 h
    have hlt : n < bs.size := by
      have := (List.getElem?_eq_some_iff.1 hu1).1; simpa using this
    have hg : bs[n]? = some bs[n] := ByteArray.getElem?_lt' bs n hlt
    have hgu : bs[n] = u := by
      have h1 := (List.getElem?_eq_some_iff.1 hu1).2
      rw [← h1]; rfl
    refine ⟨.int .u8 (b : Int), ?_, .int _ _⟩
    have h0 : (if (0 : Int) ≤ (n : Int) then bs[(n : Int).toNat]? else none) = some u := by
      rw [if_pos (by omega)]; simp [hg, hgu]
    simp only [Instr.index, asIntOf, Sem.run_bind, Sem.run_pure, Result.andThen_ok, hu]
    rw [h0]
    simp [hu2]
  · simp at e2
end
end Go.Vex
