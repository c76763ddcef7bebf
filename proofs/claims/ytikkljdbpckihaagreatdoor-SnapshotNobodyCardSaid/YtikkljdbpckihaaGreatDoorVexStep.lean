/- Part VexStep of a checked interpreter for closed calls: what it answers, the machine of the model answers; its conditions are those of its theorems. -/
import Derived.Test.YtikkljdbpckihaaGreatDoorVexMach
set_option linter.unusedSimpArgs false
set_option linter.unusedVariables false
namespace Go.Vex

theorem drop_cons {α : Type} {l : List α} {i : Nat} {o : α} {rem : List α} (h : l.drop i = o :: rem) : i < l.length ∧ l[i]? = some o ∧ rem = l.drop (i + 1) := by
  have hlt : i < l.length := by
    rcases Nat.lt_or_ge i l.length with q | q
    · exact q
    · rw [List.drop_eq_nil_of_le q] at h; simp at h
  rw [List.drop_eq_getElem_cons hlt] at h
  obtain ⟨h1, h2⟩ := List.cons.inj h
  exact ⟨hlt, by rw [List.getElem?_eq_getElem hlt, h1], h2.symm⟩

theorem range_cons {i n : Nat} (h : i < n) : List.range' i (n - i) = i :: List.range' (i + 1) (n - (i + 1)) := by
  rw [show n - i = (n - (i + 1)) + 1 from by omega]; rfl

section
variable {P : Program} {Γ : Env} {γ : Gm}

theorem finish_ok {f f' : AF} {v : AV} {v' : Value} {fr : Frame} (hF : FR γ f fr) (e : finishA f v = .ok f') (hv : VR γ v v') :
    ∃ fr', FR γ f' fr' ∧ ∀ cs w, Steps P (lone (fr.finish v') cs w) (lone fr' cs w) := by
  unfold finishA at e
  obtain ⟨fn, tmps, todo, defers, mode, kind, rnd⟩ := fr
  obtain ⟨h1, h2, h3, h4, h5, h6, h7⟩ := hF
  dsimp only at h1 h2 h3 h4 h5 h6 h7
  split at e
  · rename_i hm
    rw [hm] at h5
    cases h5
    split at e
    · rename_i all o rem k ht
      obtain ⟨tm', hs, e2⟩ := bd_ok e; clear e
      simp at e2; subst e2
      rw [ht] at h3
      cases h3 with
      | cons hi hk =>
        rename_i b bs
        generalize hrem : o :: rem = orem at hi
        cases hi with
        | ops A i =>
          obtain ⟨hlt, ho, hr⟩ := drop_cons hrem.symm
          have ho' : A[i]? = some o := by simpa using ho
          have hlt' : i < A.size := by simpa using hlt
          have htm := h2.put hv hs
          rw [range_cons hlt', finish_op ho']
          cases hrm : rem with
          | nil =>
            refine ⟨⟨fn, _, bs, defers, .run, kind, rnd⟩, ⟨h1, htm, by simp only [restItem]; exact hk, h4, by simp [hm]; exact .run, h6, h7⟩, fun cs w => ?_⟩
            have : A.size - (i + 1) = 0 := by
              rw [hrm] at hr
              have := congrArg List.length hr
              simp at this; omega
            rw [this]
            exact .one st_regionEnd
          | cons o2 rem2 =>
            refine ⟨⟨fn, _, .inRegion A (List.range' (i + 1) (A.size - (i + 1))) :: bs, defers, .run, kind, rnd⟩, ⟨h1, htm, ?_, h4, by simp [hm]; exact .run, h6, h7⟩, fun cs w => Steps.refl _ _⟩
            simp only [restItem]
            rw [← hrm, hr]
            exact .cons (.ops A (i + 1)) hk
    · rename_i l k ht
      simp at e; subst e
      rw [ht] at h3
      cases h3 with
      | cons hi hk =>
        rename_i b bs
        cases hi with
        | inRF hl =>
          rename_i x
          refine ⟨⟨fn, tmps, .endRangeFunc x.blk :: bs, defers, .run, kind, rnd⟩, ⟨h1, h2, .cons (.endRF hl) hk, h4, by simp [hm]; exact .run, h6, h7⟩, fun cs w => ?_⟩
          exact Steps.refl _ _
    · simp at e
  · simp at e

theorem raise_ok {f : AF} {ch : List (AV × Bool)} {ch' : List PanicEntry} {fr : Frame} (hF : FR γ f fr) (hc : All2 (PR γ) ch ch') : FR γ (raiseA f ch) (fr.raise ch') := by
  obtain ⟨h1, h2, h3, h4, h5, h6, h7⟩ := hF
  unfold raiseA Frame.raise
  cases hm : f.mode with
  | run =>
    rw [hm] at h5
    generalize fr.mode = m at h5
    cases h5
    exact ⟨h1, h2, h3, h4, .pan hc, h6, h7⟩
  | returning =>
    rw [hm] at h5
    generalize fr.mode = m at h5
    cases h5
    exact ⟨h1, h2, h3, h4, .pan hc, h6, h7⟩
  | pan old =>
    rw [hm] at h5
    generalize fr.mode = m at h5
    cases h5 with
    | pan ho => exact ⟨h1, h2, h3, h4, .pan (hc.append ho), h6, h7⟩

theorem exit_ok {id : Nat} : ∀ {k k' : List AItem} {fk : List Item}, popExit id k = some k' → All2 (IR γ) k fk → ∃ fk', exitTo id fk = some fk' ∧ All2 (IR γ) k' fk'
  | _, _, _, e, .nil => by simp [popExit] at e
  | _, _, _, e, .cons h t => by
    cases h with
    | inBlock id' =>
      simp only [popExit] at e
      split at e
      · rename_i hq
        have : id' = id := by simpa using hq
        subst this
        simp at e; subst e
        exact ⟨_, by simp [exitTo], t⟩
      · rename_i hq
        have : (id' == id) = false := by
          cases hb : (id' == id) with
          | false => rfl
          | true => have : id' = id := by simpa using hb
                    subst this; simp at hq
        obtain ⟨fk', h1, h2⟩ := exit_ok e t
        exact ⟨fk', by simp only [exitTo, this]; simpa using h1, h2⟩
    | _ =>
      simp only [popExit] at e
      obtain ⟨fk', h1, h2⟩ := exit_ok e t
      exact ⟨fk', by simp only [exitTo]; exact h1, h2⟩

theorem goto_ok {l : Nat} : ∀ {k k' : List AItem} {fk : List Item}, gotoA l k = some k' → All2 (IR γ) k fk → ∃ fk', gotoIn l fk = some fk' ∧ All2 (IR γ) k' fk'
  | _, _, _, e, .nil => by simp [gotoA] at e
  | _, _, _, e, .cons h t => by
    cases h with
    | inScope body =>
      simp only [gotoA] at e
      split at e
      · rename_i rest hq
        simp at e; subst e
        exact ⟨_, by simp [gotoIn, hq], .cons (.code _) (.cons (.inScope _) t)⟩
      · rename_i hq
        obtain ⟨fk', h1, h2⟩ := goto_ok e t
        exact ⟨fk', by simp only [gotoIn, hq]; exact h1, h2⟩
    | _ =>
      simp only [gotoA] at e
      obtain ⟨fk', h1, h2⟩ := goto_ok e t
      exact ⟨fk', by simp only [gotoIn]; exact h1, h2⟩
end
end Go.Vex
