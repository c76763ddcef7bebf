/- Part VexOps5 of a checked interpreter for closed calls: what it answers, the machine of the model answers; its conditions are those of its theorems. -/
import Derived.Test.YtikkljdbpckihaaGreatDoorVexApp2
set_option linter.unusedSimpArgs false
set_option linter.unusedVariables false
namespace Go.Vex
section
variable {P : Program} {Γ : Env} (G : EnvOk P Γ) {pr : Pr} {γ : Gm} {h : H} {w : World} (r : Rel pr Γ.ng γ h w)

theorem cut2_min (a b : Nat) : cut2 a b = min a b := by
  have := cut2_le a b
  unfold cut2 at this ⊢
  split <;> rename_i e
  · have := Nat.le_of_ble_eq_true e; omega
  · have : ¬ a ≤ b := fun h => by rw [Nat.ble_eq_true_of_le h] at e; simp at e
    omega

include G r in
theorem copyA_ok {t ty : TypeId} {d s : AV} {vd vs : Value} {a : AV} {h' : H} {ts : Array TypeId} (e : copyA Γ t h d s = .ok (a, h')) (hd : VR γ d vd) (hs : VR γ s vs) (h0 : ts[0]? = some t) :
    ∃ v' w', (Builtin.copy_ ts ty #[vd, vs]).run P w = .ok v' w' ∧ VR γ a v' ∧ Rel pr Γ.ng γ h' w' ∧ WK w w' := by
  unfold copyA at e
  obtain ⟨i, hi, e1⟩ := bd_ok e; clear e
  obtain ⟨inf1, k1⟩ := G.tt _ _ (og_ok hi)
  split at e1
  · rename_i elem hde
    have ht : P.underlying t = some (.slice elem) := by rw [← hde]; exact k1.und
    obtain ⟨ei, he, e2⟩ := bd_ok e1; clear e1
    obtain ⟨inf, k⟩ := G.tt _ _ (og_ok he)
    obtain ⟨n, hn, e3⟩ := bd_ok e2; clear e2
    obtain ⟨m, hm, e4⟩ := bd_ok e3; clear e3
    obtain ⟨new, hnew, e5⟩ := bd_ok e4; clear e4
    have hmin := cut2_min n m
    obtain ⟨f1, nvs, f2, f3⟩ := firstA_ok (P := P) r hnew hs hn (by rw [hmin]; omega)
    have hf := f3 w rfl
    have hln := lenOfA_ok (P := P) hn hs w
    have hsz := k.run_size w
    rw [hmin] at hf
    split at e5
    · rename_i b o len cap
      obtain ⟨h2, q1, q2⟩ := bd_ok e5
      simp at q2; obtain ⟨rfl, rfl⟩ := q2
      simp [lenOfA] at hm
      have main : ∀ (x : Bl) (o' c : Nat), γ b = some x → len ≤ c → (0 < c → o' = x.sh + o) → ∃ v' w', (Builtin.copy_ ts ty #[.slice (some ⟨x.blk, o', none⟩) len c, vs]).run P w = .ok v' w' ∧ VR γ (.int .i64 (.ofNat (cut2 n m))) v' ∧ Rel pr Γ.ng γ h2 w' ∧ WK w w' := by
        intro x o' c hγ hl ho
        obtain ⟨w', s1, s2, s3⟩ := r.put P q1 hγ f2
        have s1' : (storeCells ⟨x.blk, o', none⟩ nvs).run P w = .ok () w' := by
          by_cases hc0 : c = 0
          · have h00 : cut2 n m = 0 := by rw [hmin]; omega
            have hnv0 : nvs = [] := List.eq_nil_of_length_eq_zero (by rw [← f2.length, f1, h00]; simp)
            subst hnv0
            simp [storeCells] at s1 ⊢
            exact s1
          · rw [ho (by omega)]; exact s1
        refine ⟨goInt (min n m : Nat), w', ?_, by rw [hmin]; exact .int _ _, s2, s3⟩
        subst hm
        simp only [Builtin.copy_, h0]
        simp [run_underlying ht, hln, hsz]
        have : n.min len = min n len := rfl
        rw [this, hf]
        simp [s1']
      cases hd with
      | sliceK o len c hγ hl ho => exact main _ _ _ hγ hl ho
      | sliceU o len es hγ hl ho => exact main _ _ _ hγ hl fun hc => (ho hc).1
    · simp at e5; obtain ⟨rfl, rfl⟩ := e5
      cases hd
      simp [lenOfA] at hm
      subst hm
      refine ⟨goInt (min n 0 : Nat), w, ?_, by rw [hmin]; exact .int _ _, r, WK.refl w⟩
      simp only [Builtin.copy_, h0]
      simp [run_underlying ht, hln, hsz]
      rw [show min n 0 = 0 from by omega] at hf
      rw [hf]; rfl
    · simp at e5
  · simp at e1

theorem mxA_ok {mx : Bool} {x y : AV} {vx vy : Value} {a : AV} (e : mxA mx x y = .ok a) (hx : VR γ x vx) (hy : VR γ y vy) (w : World) :
    ∃ v, ((if mx then Builtin.max2 else Builtin.min2) vx vy).run P w = .ok v w ∧ VR γ a v := by
  unfold mxA at e
  split at e
  · cases hx; cases hy
    simp at e; subst e
    rename_i k a k' b
    cases mx with
    | true =>
      refine ⟨_, rfl, ?_⟩
      simp only [ilt_eq]
      by_cases hab : a < b
      · have : b > a := hab
        simp [hab]; exact .int _ _
      · have : ¬ b > a := hab
        simp [hab]; exact .int _ _
    | false =>
      refine ⟨_, rfl, ?_⟩
      simp only [ilt_eq]
      by_cases hab : b < a
      · simp [hab]; exact .int _ _
      · simp [hab]; exact .int _ _
  · simp at e

theorem foldE_ok {mx : Bool} : ∀ {xs : List AV} {vs : List Value} {x a : AV} {vx : Value}, foldE (mxA mx) x xs = .ok a → VR γ x vx → VRL γ xs vs →
    ∃ v, (vs.foldlM (if mx then Builtin.max2 else Builtin.min2) vx).run P w = .ok v w ∧ VR γ a v
  | [], _, x, a, vx, e, hx, .nil => by simp [foldE] at e; subst e; exact ⟨vx, rfl, hx⟩
  | y :: ys, _, x, a, vx, e, hx, .cons hy hys => by
    simp only [foldE] at e
    obtain ⟨c, hc, e1⟩ := bd_ok e
    obtain ⟨v, h1, h2⟩ := mxA_ok (P := P) hc hx hy w
    obtain ⟨v2, h3, h4⟩ := foldE_ok e1 h2 hys
    exact ⟨v2, by simp only [List.foldlM_cons, Sem.run_bind, h1, Result.andThen_ok]; exact h3, h4⟩

theorem splice_rel {off : Nat} {as cs : List AV} {vs ds : List Value} (h1 : VRL γ as vs) (h2 : VRL γ cs ds) : VRL γ (splice off as cs) (ds.take off ++ vs ++ ds.drop (off + vs.length)) := by
  unfold splice
  rw [h1.length]
  exact ((h2.take off).append h1).append (h2.drop _)

theorem fold_splice (vs : List Value) : ∀ (k : Nat) (off : Nat) (ds : Array Value), off + k + vs.length ≤ ds.size →
    ((vs.zipIdx k).foldl (fun cs (x : Value × Nat) => cs.setIfInBounds (off + x.2) x.1) ds).toList = ds.toList.take (off + k) ++ vs ++ ds.toList.drop (off + k + vs.length) := by
  induction vs with
  | nil => intro k off ds h; simp
  | cons v vs ih =>
    intro k off ds h
    simp only [List.length_cons] at h
    simp only [List.zipIdx_cons, List.foldl_cons]
    rw [ih (k + 1) off _ (by simp; omega)]
    simp only [Array.toList_setIfInBounds, List.length_cons]
    have hlt : off + k < ds.toList.length := by simp; omega
    rw [show off + (k + 1) = off + k + 1 from by omega, show off + k + 1 + vs.length = off + k + (vs.length + 1) from by omega]
    rw [List.drop_set_of_lt (by omega), List.take_succ_eq_append_getElem (by simp; omega)]
    rw [List.take_set_of_le (by omega)]
    simp

include r in
theorem fillA_ok {tm : T AV} {nt : Nat} {act : Act} (ht : TR γ nt tm act.tmps) {place : Nat → Option (Nat × Nat)} : ∀ {parts : List (Nat × Operand)} {cs out : List AV} {ds : Array Value},
    fillA Γ place parts tm cs = .ok out → VRL γ cs ds.toList → ∃ ds' : Array Value, Instr.fill place ds (parts.map fun x => (x.1, act.eval x.2)) = some ds' ∧ VRL γ out ds'.toList ∧ ds'.size = ds.size
  | [], cs, out, ds, e, hc => by simp [fillA] at e; subst e; exact ⟨ds, rfl, hc, rfl⟩
  | (i, x) :: rest, cs, out, ds, e, hc => by
    simp only [fillA] at e
    obtain ⟨p, hp, e1⟩ := bd_ok e; clear e
    obtain ⟨v, hv, e2⟩ := bd_ok e1; clear e1
    obtain ⟨hck, e3⟩ := gd_ok e2; clear e2
    have hck' : v.cells.length = p.2 ∧ p.1 + p.2 ≤ cs.length := by simpa using hck
    have hx := (ev_ok r ht hv).cells
    have hxl := hx.length
    have hcl := hc.length
    have hsz : (act.eval x).cells.size = p.2 := by rw [← hck'.1, hxl]; simp
    have hfs := fold_splice (act.eval x).cells.toList 0 p.1 ds (by simp only [Array.length_toList] at *; omega)
    simp only [Nat.add_zero] at hfs
    have hnew : VRL γ (splice p.1 v.cells cs) ((act.eval x).cells.zipIdx.foldl (fun cs (c : Value × Nat) => cs.setIfInBounds (p.1 + c.2) c.1) ds).toList := by
      have : ((act.eval x).cells.zipIdx.foldl (fun cs (c : Value × Nat) => cs.setIfInBounds (p.1 + c.2) c.1) ds) = ((act.eval x).cells.toList.zipIdx.foldl (fun cs (c : Value × Nat) => cs.setIfInBounds (p.1 + c.2) c.1) ds) := by
        rw [← Array.foldl_toList, Array.toList_zipIdx]
      rw [this, hfs]
      exact splice_rel hx hc
    obtain ⟨ds', q1, q2, q3⟩ := fillA_ok ht e3 hnew
    refine ⟨ds', ?_, q2, ?_⟩
    · have hp' := og_ok hp
      simp only [List.map_cons, Instr.fill, hp']
      have hbad : (decide ((act.eval x).cells.size ≠ p.2) || decide (p.1 + (act.eval x).cells.size > ds.size)) = false := by
        simp only [Array.length_toList] at hcl
        simp; omega
      simp only [hbad]
      exact q1
    · rw [q3]
      have := congrArg List.length hfs
      have h2 : ((act.eval x).cells.zipIdx.foldl (fun cs (c : Value × Nat) => cs.setIfInBounds (p.1 + c.2) c.1) ds).toList.length = ds.size := by
        rw [← hnew.length]
        unfold splice
        simp only [Array.length_toList] at hcl
        simp; omega
      simpa using h2
end
end Go.Vex
