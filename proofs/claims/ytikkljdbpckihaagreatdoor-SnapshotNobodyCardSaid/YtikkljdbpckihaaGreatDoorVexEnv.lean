/- Part VexEnv of a checked interpreter for closed calls: what it answers, the machine of the model answers; its conditions are those of its theorems. -/
import Derived.Test.YtikkljdbpckihaaGreatDoorVexTop
set_option linter.unusedSimpArgs false
set_option linter.unusedVariables false
namespace Go.Vex

theorem info_of {P : Program} {t : TypeId} {i : TypeInfo} (h : P.types[t]? = some i) : P.info? t = some i := by
  show Tables.info? _ t = _
  unfold Tables.info?
  rw [if_pos (lt_of_get h)]; exact h

theorem places_ok {P : Program} : ∀ {fs : List Field} {l : List (Nat × Nat)}, places P fs = some l → ∀ w, (fs.mapM fun f => do pure (f.offset, ← sizeOf f.type) : Sem (List (Nat × Nat))).run P w = .ok l w
  | [], l, h, w => by simp [places] at h; subst h; rfl
  | f :: fs, l, h, w => by
    simp only [places] at h
    split at h
    · simp at h
    · rename_i i hi
      split at h
      · simp at h
      · rename_i l' hl
        simp at h; subst h
        have hs : (sizeOf f.type).run P w = .ok i.size w := by
          have : P.info? f.type = some i := info_of hi
          simp [sizeOf, typeInfo, this]
        rw [List.mapM_cons]
        simp only [Sem.run_bind, hs, Result.andThen_ok, Sem.run_pure, places_ok hl w]

theorem tiOf_ok {P : Program} {t : TypeId} {inf : TypeInfo} {u : TypeDesc} (hi : P.types[t]? = some inf) (hu : undOf P inf = some u) : TIOk P t (tiOf P t inf u) inf where
  info := info_of hi
  und := by
    have h1 : P.info? t = some inf := info_of hi
    unfold undOf at hu
    unfold Program.underlying
    rw [h1]
    obtain ⟨desc, a1, a2, a3⟩ := inf
    cases desc <;> simp at hu ⊢ <;> first | exact hu | skip
    split at hu
    · simp at hu
    · rename_i j hj
      have := info_of hj
      rw [this]; exact ⟨j, rfl, Option.some.inj hu⟩
  size := rfl
  bytes := rfl
  agg := rfl
  cmp := rfl
  zero := fun z hz => by
    simp only [tiOf] at hz
    cases hv : inf.zero with
    | none => rw [hv] at hz; simp at hz
    | some v => rw [hv] at hz; exact ⟨v, rfl, hz⟩
  pl := fun fs pl hd hp w => by
    simp only [tiOf] at hd hp
    rw [hd] at hp
    have := places_ok hp w
    rw [Array.mapM_eq_mapM_toList]
    simp only [Sem.run_map]
    erw [this]; rfl
  st := rfl
  eg := rfl

theorem mkTT_ok {P : Program} : ∀ {l : List TypeInfo} {n : Nat} {tt : T TI}, (∀ i, l[i]? = P.types[n + i]?) → (∀ t i, tt.get t = some i → ∃ inf, TIOk P t i inf) → ∀ t i, (mkTT P n l tt).get t = some i → ∃ inf, TIOk P t i inf
  | [], n, tt, _, h => h
  | x :: xs, n, tt, hl, h => by
    simp only [mkTT]
    refine mkTT_ok (fun i => by have := hl (i + 1); simp only [List.getElem?_cons_succ] at this; rw [this]; congr 1; omega) ?_
    intro t i hg
    split at hg
    · exact h t i hg
    · rename_i u hu
      rw [T.get_set] at hg
      split at hg
      · rename_i e; subst e
        simp at hg; subst hg
        have h0 := hl 0
        simp at h0
        exact ⟨x, tiOf_ok h0.symm hu⟩
      · exact h t i hg

theorem mkFT_ok {P : Program} : ∀ {l : List Func} {n : Nat} {ft : T Func}, (∀ i, l[i]? = P.funcs[n + i]?) → (∀ t i, ft.get t = some i → P.funcs[t]? = some i) → ∀ t i, (mkFT n l ft).get t = some i → P.funcs[t]? = some i
  | [], n, ft, _, h => h
  | x :: xs, n, ft, hl, h => by
    simp only [mkFT]
    refine mkFT_ok (fun i => by have := hl (i + 1); simp only [List.getElem?_cons_succ] at this; rw [this]; congr 1; omega) ?_
    intro t i hg
    rw [T.get_set] at hg
    split at hg
    · rename_i e; subst e
      simp at hg; subst hg
      have h0 := hl 0
      simp at h0
      exact h0.symm
    · exact h t i hg

theorem envOk {P : Program} {Γ : Env} (h1 : Γ.tt = mkTT P 0 P.types.toList .lf) (h2 : Γ.ft = mkFT 0 P.funcs.toList .lf)
    (nm : ∀ (f : Nat) (fn : Func), P.funcs[f]? = some fn → (fn.name == "runtime.NumGoroutine") = false)
    (mt : ∀ (t : TypeId) (name : String) (f : FuncId), lookM t name Γ.mt = .ok f → ∀ (v : Value) (w : World), (method (P.types.size + Made.depth) t v name).run P w = .ok (f, v) w) : EnvOk P Γ where
  tt := fun t i h => by rw [h1] at h; exact mkTT_ok (n := 0) (fun i => by simp) (fun t i h => by simp [T.get] at h) t i h
  ft := fun f fn h => by rw [h2] at h; exact mkFT_ok (n := 0) (fun i => by simp) (fun t i h => by simp [T.get] at h) f fn h
  nm := nm
  mt := mt
end Go.Vex
