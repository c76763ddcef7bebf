/- Part VexStart of a checked interpreter for closed calls: what it answers, the machine of the model answers; its conditions are those of its theorems. -/
import Derived.Test.YtikkljdbpckihaaGreatDoorVexFields
import Derived.Test.YtikkljdbpckihaaGreatDoorVexFast
set_option linter.unusedSimpArgs false
set_option linter.unusedVariables false
namespace Go.Vex
open Go.RowKit

/-- at a call: every block that is there is kept -/
def prAt (w : World) : Pr := ⟨fun b => w.heap[b]?, w.heap.size, fun _ => none⟩

/-- a heap of blocks that are only read -/
def hmOf : List (Nat × List AV) → T AB → T AB
  | [], t => t
  | (i, vs) :: l, t => hmOf l (t.set i (.cells vs.length (T.ofL .lf 0 vs) true))

theorem hmOf_get : ∀ (l : List (Nat × List AV)) (t : T AB) (i : Nat) (ab : AB), (hmOf l t).get i = some ab → (∃ vs, (i, vs) ∈ l ∧ ab = .cells vs.length (T.ofL .lf 0 vs) true) ∨ t.get i = some ab
  | [], t, i, ab, h => .inr h
  | (j, ws) :: l, t, i, ab, h => by
    rcases hmOf_get l _ i ab h with ⟨vs, h1, h2⟩ | h1
    · exact .inl ⟨vs, List.mem_cons_of_mem _ h1, h2⟩
    · rw [T.get_set] at h1
      split at h1
      · rename_i e; subst e
        simp at h1; subst h1
        exact .inl ⟨ws, by simp, rfl⟩
      · exact .inr h1

/-- what a block that is only read holds -/
def Holds0 (γ : Gm) (w : World) (x : Bl) (vs : List AV) : Prop :=
  ∃ cc t fr, w.heap[x.blk]? = some (.cells cc t fr) ∧ cc.size = x.sz ∧ x.sh + vs.length ≤ cc.size ∧ ∀ j a, vs[j]? = some a → ∃ v, cc[x.sh + j]? = some v ∧ VR γ a v

theorem start {w : World} {ng c : Nat} {γ : Gm} {rows : List (Nat × List AV)} (hfresh : ∀ i, c ≤ i → γ i = none) (hglob : ∀ g, g < ng → ∃ sz, γ g = some ⟨g, 0, sz⟩)
    (hm : ∀ i vs, (i, vs) ∈ rows → ∃ x, γ i = some x ∧ Holds0 γ w x vs) :
    Rel (prAt w) ng γ ⟨hmOf rows .lf, c, .lf⟩ w where
  prot := fun b o e => e
  fresh := hfresh
  glob := hglob
  blk := fun i ab hi => by
    rcases hmOf_get _ _ _ _ hi with ⟨vs, h1, rfl⟩ | h1
    · obtain ⟨x, hx, cc, t, fr, hw, hs, hl, hv⟩ := hm i vs h1
      refine ⟨x, hx, by simp, cc, t, fr, hw, hs, hl, fun o a e => ?_, by simp, fun _ => lt_of_get hw⟩
      rw [T.get_ofL] at e
      split at e
      · exact hv o a (by simpa using e)
      · simp [T.get] at e
    · simp [T.get] at h1
  sep := fun i j ab ab' x y _ hi hj _ _ _ => by
    rcases hmOf_get _ _ _ _ hi with ⟨vs, _, rfl⟩ | h1
    · rcases hmOf_get _ _ _ _ hj with ⟨vs', _, rfl⟩ | h1
      · exact .inl ⟨rfl, rfl⟩
      · simp [T.get] at h1
    · simp [T.get] at h1
  grp := fun i n cs g s hi => by
    rcases hmOf_get _ _ _ _ hi with ⟨vs, _, e⟩ | h1
    · simp at e
    · simp [T.get] at h1
  srt := fun g L h => by simp [T.get] at h
  res := fun b v h => by simp [prAt] at h

theorem below {w w' : World} {ng : Nat} {γ : Gm} {h : H} (r : Rel (prAt w) ng γ h w') (k : WK w w') : Below w.heap.size w w' :=
  ⟨k.os, k.tape, k.output, k.size, fun b hb => by
    have : (prAt w) b = some w.heap[b] := by show w.heap[b]? = _; simp [hb]
    have h2 := r.prot b _ this
    rw [h2]; simp [hb]⟩

/-- does the run say true -/
def saysTrue (g : FuncId) (r : E BR) : Bool := match r with | .ok (.ret fn (.bool b) _) => fn.beq g && b | _ => false

/-- a closed call that answers true, by the abstract machine -/
theorem closed_true {P : Program} {Γ : Env} (G : EnvOk P Γ) {Z : Nat × Obj} (hF0 : FieldsOk P Γ Z) (hmix : P.follows .mixedOrders = true) {w : World} (hz : w.heap[Z.1]? = some Z.2) {c : Nat} {γ : Gm} {rows : List (Nat × List AV)}
    (r : Rel (prAt w) Γ.ng γ ⟨hmOf rows .lf, c, .lf⟩ w)
    {n : Nat} {g : FuncId} (e : saysTrue g (runCallF Γ n g [] ⟨hmOf rows .lf, c, .lf⟩) = true) :
    Calls P g #[] w fun e w' => e = .returned (.bool true) ∧ Below w.heap.size w w' := by
  rw [runCallF_eq] at e
  unfold saysTrue at e
  split at e
  · rename_i fn b h' he
    simp at e
    obtain ⟨rfl, rfl⟩ := e
    have := runCallA_ok G hF0 hmix (pr := prAt w) (Nat.le_refl _) hz r (args' := #[]) .nil he rfl
    refine Calls.mono this fun e w' q => ?_
    obtain ⟨γ', v', _, r', wk, hv, rfl⟩ := q
    cases hv
    exact ⟨rfl, below r' wk⟩
  · simp at e
end Go.Vex
