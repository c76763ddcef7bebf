/- Part VexOps4 of a checked interpreter for closed calls: what it answers, the machine of the model answers; its conditions are those of its theorems. -/
import Derived.Test.YtikkljdbpckihaaGreatDoorVexOps3
set_option linter.unusedSimpArgs false
set_option linter.unusedVariables false
namespace Go.Vex

theorem keyKind_plain' {P : Program} {t : TypeId} {u : TypeDesc} {k : AV} (hk : keyKind u k = true) (w : World) (hu : (underlying t).run P w = .ok u w) (v : Value) (b : Bool) (n : Nat) :
    (Instr.checkKey b (n + 1) t v).run P w = .ok () w := by
  cases u <;> simp [keyKind] at hk <;> simp [Instr.checkKey, hu]
theorem keyKind_plain {P : Program} {t : TypeId} {u : TypeDesc} {k : AV} (hk : keyKind u k = true) (w : World) (hu : (underlying t).run P w = .ok u w) (v : Value) (b : Bool) :
    (Instr.checkKey b 10000 t v).run P w = .ok () w := keyKind_plain' hk w hu v b 9999

section
variable {P : Program} {Γ : Env} (G : EnvOk P Γ) {pr : Pr} {γ : Gm} {h : H} {w : World} (r : Rel pr Γ.ng γ h w)

theorem run_getObj {b : Nat} {o : Obj} (hb : w.heap[b]? = some o) (hc : o.row? = none) : (getObj b).run P w = .ok o w := by
  cases o <;> first | (simp [Obj.row?] at hc; done) | simp [getObj, Sem.run, hb]

theorem run_setObj {b : Nat} {o o' : Obj} (hb : w.heap[b]? = some o) (hc : o.row? = none) : (setObj b o').run P w = .ok () { w with heap := w.heap.setIfInBounds b o' } := by
  cases o <;> first | (simp [Obj.row?] at hc; done) | simp [setObj, Sem.run, hb]

include G r in
theorem lookA_ok {t : TypeId} {x k : AV} {vx vk : Value} {ok : Bool} {a : AV} (e : lookA Γ t h x k ok = .ok a) (hx : VR γ x vx) (hk : VR γ k vk) : ∃ v, (Instr.lookup t vx vk ok).run P w = .ok v w ∧ VR γ a v := by
  unfold lookA at e
  obtain ⟨i, hi, e1⟩ := bd_ok e; clear e
  obtain ⟨info, kk⟩ := G.tt _ _ (og_ok hi)
  have hu := kk.run_und w
  split at e1
  · rename_i key elem hd
    obtain ⟨ki, hki, e2⟩ := bd_ok e1; clear e1
    obtain ⟨info2, k2⟩ := G.tt _ _ (og_ok hki)
    have hu2 := k2.run_und w
    obtain ⟨hkk, e3⟩ := gd_ok e2; clear e2
    obtain ⟨q, hq, e4⟩ := bd_ok e3; clear e3
    obtain ⟨p, hp, e5⟩ := bd_ok e4; clear e4
    obtain ⟨pv, pb⟩ := p
    simp at e5; subst e5
    rw [hd] at hu
    have hck := fun b => keyKind_plain (P := P) hkk w hu2 vk b
    have fin : ∀ {v : Value}, VR γ pv v → (∀ b, (Instr.lookup t vx vk b).run P w = .ok (if b then .tuple #[v, .bool pb] else v) w) → ∃ v, (Instr.lookup t vx vk ok).run P w = .ok v w ∧ VR γ (match ok with | true => .tuple [pv, .bool pb] | false => pv) v := by
      intro v hv hr
      cases ok with
      | true => exact ⟨_, by rw [hr]; rfl, .tuple (.cons hv (.cons (.bool _) .nil))⟩
      | false => exact ⟨_, by rw [hr]; rfl, hv⟩
    have zer : q = none → ∃ v, (zeroValue elem).run P w = .ok v w ∧ VR γ pv v ∧ pb = false := by
      rintro rfl
      dsimp only at hp
      obtain ⟨ei, he, hp1⟩ := bd_ok hp; clear hp
      obtain ⟨z, hz, hp2⟩ := bd_ok hp1; clear hp1
      simp at hp2; obtain ⟨rfl, rfl⟩ := hp2
      obtain ⟨info3, k3⟩ := G.tt _ _ (og_ok he)
      obtain ⟨v, _, q2, q3⟩ := k3.run_zero w (og_ok hz) γ
      exact ⟨v, q2, q3, rfl⟩
    split at hq
    · cases hx
      simp at hq; subst hq
      obtain ⟨v, q2, q3, rfl⟩ := zer rfl
      exact fin q3 fun b => by simp [Instr.lookup, hu, hck, Instr.findKey, hu2, Instr.findNow, q2]
    · cases hx
      rename_i b x hγ
      split at hq
      · rename_i es clk hm
        obtain ⟨y, hy, es', h1, h2, _⟩ := r.blk _ _ hm
        obtain rfl : y = x := by rw [hγ] at hy; exact (Option.some.inj hy).symm
        have hgo := run_getObj (P := P) h1 rfl
        rcases find_ok hkk hk 0 h2 hq with ⟨rfl, h3⟩ | ⟨a, v, j, rfl, h3, h4⟩
        · obtain ⟨v, q2, q3, rfl⟩ := zer rfl
          exact fin q3 fun b => by simp [Instr.lookup, hu, hgo, hck, Instr.findKey, hu2, h3, q2]
        · simp at hp; obtain ⟨rfl, rfl⟩ := hp
          exact fin h4 fun b => by simp [Instr.lookup, hu, hgo, hck, Instr.findKey, hu2, h3]
      · simp at hq
    · simp at hq
  · simp at e1

theorem wk_set (w : World) (b : Nat) (o : Obj) : WK w { w with heap := w.heap.setIfInBounds b o } := ⟨rfl, rfl, rfl, by simp⟩
theorem set_same {w : World} {b : Nat} {o o' : Obj} (hb : w.heap[b]? = some o) : ({ w with heap := w.heap.setIfInBounds b o' } : World).heap[b]? = some o' := by
  show (w.heap.setIfInBounds b o')[b]? = _
  simp [lt_of_get hb]
theorem set_other (w : World) {b k : Nat} (o' : Obj) (h : k ≠ b) : ({ w with heap := w.heap.setIfInBounds b o' } : World).heap[k]? = w.heap[k]? := by
  show (w.heap.setIfInBounds b o')[k]? = _
  rw [Array.getElem?_setIfInBounds_ne (Ne.symm h)]

include r in
/-- an object that is no row of cells is written -/
theorem Rel.setObj {b : Nat} {ab ab' : AB} {x : Bl} {o o' : Obj} (hb : h.m.get b = some ab) (hx : γ b = some x) (ho : w.heap[x.blk]? = some o) (hp : pr x.blk = none) (hal : AB.alike ab ab')
    (hro : ab.ro = false) (hnr : ∀ n cs g s, ab ≠ .row n cs g s)
    (hn : BRel pr γ { w with heap := w.heap.setIfInBounds x.blk o' } x ab') : Rel pr Γ.ng γ { h with m := h.m.set b ab' } { w with heap := w.heap.setIfInBounds x.blk o' } := by
  refine r.write hb hx (fun k hk => set_other w o' hk) hp hal hn ?_ ?_
  · intro j abj y hj hjm hy hyx
    rcases r.sep j b abj ab y x hj hjm hb hy hx hyx with ⟨_, k⟩ | ⟨_, _, _, _, _, _, _, _, k, _⟩
    · rw [hro] at k; simp at k
    · exact absurd k (hnr _ _ _ _)
  · intro n cs g s e
    subst e
    cases ab <;> simp [AB.alike] at hal
    exact absurd rfl (hnr _ _ _ _)

include G r in
theorem updA_ok {t : TypeId} {x k v : AV} {vx vk vv : Value} {h' : H} (e : updA Γ t h x k v = .ok h') (hx : VR γ x vx) (hk : VR γ k vk) (hv : VR γ v vv) :
    ∃ w', (Instr.mapUpdate t vx vk vv).run P w = .ok () w' ∧ Rel pr Γ.ng γ h' w' ∧ WK w w' := by
  unfold updA at e
  obtain ⟨i, hi, e1⟩ := bd_ok e; clear e
  obtain ⟨info, kk⟩ := G.tt _ _ (og_ok hi)
  have hu := kk.run_und w
  split at e1
  · rename_i key elem b hd
    obtain ⟨ki, hki, e2⟩ := bd_ok e1; clear e1
    obtain ⟨info2, k2⟩ := G.tt _ _ (og_ok hki)
    have hu2 := k2.run_und w
    obtain ⟨hkk, e3⟩ := gd_ok e2; clear e2
    rw [hd] at hu
    have hck := fun b => keyKind_plain (P := P) hkk w hu2 vk b
    cases hx
    rename_i x hγ
    split at e3
    · rename_i es clk hm
      obtain ⟨q, hq, e4⟩ := bd_ok e3; clear e3
      simp at e4; subst e4
      obtain ⟨y, hy, es', h1, h2, hp⟩ := r.blk _ _ hm
      obtain rfl : y = x := by rw [hγ] at hy; exact (Option.some.inj hy).symm
      have hgo := run_getObj (P := P) h1 rfl
      have hso := fun o' => run_setObj (P := P) (o' := o') h1 rfl
      rcases set_ok hkk hk hv 0 h2 hq with ⟨j, e, a1, a2, a3, a4, a5⟩ | ⟨a1, a2, a3⟩
      · simp only [Nat.zero_add] at a1
        have a2' : es'[j]? = some e := by simpa using a2
        refine ⟨{ w with heap := w.heap.setIfInBounds y.blk (.map (es'.modify j fun e => { e with key := vk, val := vv }) clk) }, ?_, ?_, wk_set _ _ _⟩
        · simp [Instr.mapUpdate, hu, hgo, hck, Instr.findKey, hu2, a1, Instr.keyThatStays, a2', a3, hso]
        · refine r.setObj hm hγ h1 hp (by trivial) rfl (by intros; simp) ⟨es'.modify j fun e => { e with key := vk, val := vv }, ?_, ?_, hp⟩
          · rw [a4]; exact set_same h1
          · rw [Array.toList_modify]; exact a5
      · refine ⟨{ w with heap := w.heap.setIfInBounds y.blk (.map (es'.push { key := vk, val := vv, born := clk }) (clk + 1)) }, ?_, ?_, wk_set _ _ _⟩
        · simp [Instr.mapUpdate, hu, hgo, hck, Instr.findKey, hu2, a1, hso]
        · refine r.setObj hm hγ h1 hp (by trivial) rfl (by intros; simp) ⟨es'.push { key := vk, val := vv, born := clk }, ?_, ?_, hp⟩
          · rw [a2]; exact set_same h1
          · rw [Array.toList_push]; exact a3
    · simp at e3
  · simp at e1

include G in
theorem assertA_ok {x : AV} {vx : Value} {xt t : TypeId} {ok : Bool} {a : AV} (e : assertA Γ x t ok = .ok a) (hx : VR γ x vx) (w : World) : ∃ v, (Instr.typeAssert vx xt t ok).run P w = .ok v w ∧ VR γ a v := by
  unfold assertA at e
  obtain ⟨i, hi, e1⟩ := bd_ok e; clear e
  obtain ⟨info, k⟩ := G.tt _ _ (og_ok hi)
  have hu := k.run_und w
  split at e1
  · simp at e1
  · rename_i t' v hni
    cases hx with
    | iface t' hx =>
      rename_i v'
      split at e1
      · rename_i htt
        have htt' : t' = t := by simpa using htt
        subst htt'
        simp at e1; subst e1
        have : (Instr.typeAssert (.iface t' v') xt t' ok).run P w = .ok (if ok then .tuple #[v', .bool true] else v') w := by
          unfold Instr.typeAssert
          simp only [Sem.run_bind, hu, Result.andThen_ok]
          cases hd : i.u <;> first | (exact absurd hd (hni _)) | simp
        cases ok with
        | true => exact ⟨_, by rw [this]; rfl, .tuple (.cons hx (.cons (.bool _) .nil))⟩
        | false => exact ⟨_, by rw [this]; rfl, hx⟩
      · rename_i htt
        have htt' : t' ≠ t := by intro e; subst e; simp at htt
        split at e1
        · obtain ⟨z, hz, e2⟩ := bd_ok e1; clear e1
          simp at e2; subst e2
          obtain ⟨zv, _, q2, q3⟩ := k.run_zero w (og_ok hz) γ
          refine ⟨.tuple #[zv, .bool false], ?_, .tuple (.cons q3 (.cons (.bool _) .nil))⟩
          unfold Instr.typeAssert
          simp only [Sem.run_bind, hu, Result.andThen_ok]
          cases hd : i.u <;> first | (exact absurd hd (hni _)) | simp [htt', q2]
        · simp at e1
  · rename_i hni
    cases hx
    split at e1
    · obtain ⟨z, hz, e2⟩ := bd_ok e1; clear e1
      simp at e2; subst e2
      obtain ⟨zv, _, q2, q3⟩ := k.run_zero w (og_ok hz) γ
      refine ⟨.tuple #[zv, .bool false], ?_, .tuple (.cons q3 (.cons (.bool _) .nil))⟩
      unfold Instr.typeAssert
      simp only [Sem.run_bind, hu, Result.andThen_ok]
      cases hd : i.u <;> first | (exact absurd hd (hni _)) | simp [q2]
    · simp at e1
  · simp at e1

include G r in
theorem lenA_ok {t ty : TypeId} {x : AV} {vx : Value} {a : AV} (e : lenA Γ t h x = .ok a) (hx : VR γ x vx) (ts : Array TypeId) (ht : ts[0]? = some t) : ∃ v, (Builtin.len_ ts ty #[vx]).run P w = .ok v w ∧ VR γ a v := by
  unfold lenA at e
  obtain ⟨i, hi, e1⟩ := bd_ok e; clear e
  obtain ⟨info, k⟩ := G.tt _ _ (og_ok hi)
  have hu := k.run_und w
  split at e1
  · rename_i s hd
    simp at e1; subst e1
    cases hx
    rename_i bs
    rw [hd] at hu
    refine ⟨goInt bs.size, by simp [Builtin.len_, ht, hu], ?_⟩
    simp only [goInt, List.length_map]
    exact .int _ _
  · rename_i n el hd
    simp at e1; subst e1
    rw [hd] at hu
    exact ⟨goInt n, by simp [Builtin.len_, ht, hu], .int _ _⟩
  · rename_i hd
    simp at e1; subst e1
    cases hx
    rw [hd] at hu
    exact ⟨goInt 0, by simp [Builtin.len_, ht, hu], .int _ _⟩
  · rename_i b o n c hd
    simp at e1; subst e1
    rw [hd] at hu
    cases hx <;> exact ⟨goInt n, by simp [Builtin.len_, ht, hu], .int _ _⟩
  · rename_i hd
    simp at e1; subst e1
    cases hx
    rw [hd] at hu
    exact ⟨goInt 0, by simp [Builtin.len_, ht, hu], .int _ _⟩
  · rename_i b hd
    rw [hd] at hu
    cases hx
    rename_i x hγ
    split at e1
    · rename_i es clk hm
      simp at e1; subst e1
      obtain ⟨y, hy, es', h1, h2, hp⟩ := r.blk _ _ hm
      obtain rfl : y = x := by rw [hγ] at hy; exact (Option.some.inj hy).symm
      have hgo := run_getObj (P := P) h1 rfl
      have hl := h2.length
      refine ⟨goInt es'.size, by simp [Builtin.len_, ht, hu, hgo], ?_⟩
      rw [show es'.size = es.length from by rw [hl]; simp]
      exact .int _ _
    · simp at e1
  · simp at e1
end
end Go.Vex
