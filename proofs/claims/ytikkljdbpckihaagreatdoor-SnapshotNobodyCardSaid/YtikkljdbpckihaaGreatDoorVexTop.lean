/- Part VexTop of a checked interpreter for closed calls: what it answers, the machine of the model answers; its conditions are those of its theorems. -/
import Derived.Test.YtikkljdbpckihaaGreatDoorVexDraw9
set_option linter.unusedSimpArgs false
set_option linter.unusedVariables false
namespace Go.Vex

section
variable {P : Program} {Γ : Env}

theorem NB.lift {pr : Pr} {γ γ1 : Gm} {w w1 : World} {m m1 : Machine} {base : List Frame} (g : γ.le γ1) (k : WK w w1) (s : Steps P m m1) : ∀ {res : BR}, NB P Γ pr γ1 w1 m1 base res → NB P Γ pr γ w m base res
  | .ret _ _ _, h => Nxt.lift (st := .done _ _ _) g k s h
  | .retR _ _, h => Nxt.lift (st := .doneR _ _) g k s h
  | .pan _ _, h => Nxt.lift (st := .dead _ _) g k s h

variable (G : EnvOk P Γ) {Z : Nat × Obj} (hF0 : FieldsOk P Γ Z) (hmix : P.follows .mixedOrders = true)

include G hF0 hmix in
theorem runA_ok : ∀ (n : Nat) {pr : Pr} {γ : Gm} {h : H} {w : World} {f : AF} {fr : Frame} {cs : List AF} {fcs : List Frame} {res : BR} (base : List Frame), pr.nr ≤ w.heap.size → pr Z.1 = some Z.2 → Rel pr Γ.ng γ h w → FR γ f fr → All2 (FR γ) cs fcs →
    runA Γ n f cs h = .ok res → NB P Γ pr γ w (lone fr (fcs ++ base) w) base res := by
  intro n
  induction n with
  | zero => intro pr γ h w f fr cs fcs res base _ _ _ _ _ e; simp [runA] at e
  | succ n ih =>
    intro pr γ h w f fr cs fcs res base hn hz r hF hC e
    have hB : BigOk P Γ Z (fun c h' => runA Γ n c [] h') := by
      intro pr γ h w f fr hn hz r hF res e base
      have := ih base hn hz r hF .nil e
      simpa using this
    have hD : DrawOk P Γ Z (fun c h' => runA Γ n c [] h') := drawOk G hB hmix
    simp only [runA] at e
    have hN : ∀ st, stepA Γ (fun c h' => runA Γ n c [] h') f cs h = .ok st → Nxt P Γ pr γ w (lone fr (fcs ++ base) w) base st := by
      intro st es
      unfold stepA at es
      split at es
      · rename_i hm
        exact execA_ok G r hn hz hF0 hD es hF hC hm
      · rename_i hm
        exact unwindA_ok G r es hF hC hm
    split at e
    · rename_i f' cs' h' hst
      obtain ⟨γ', fr', fcs', w', g, r', hF', hC', wk, s⟩ := hN _ hst
      exact NB.lift g wk s (ih base (Nat.le_trans hn wk.size) hz r' hF' hC' e)
    · rename_i fn v h' hst
      simp at e; subst e
      exact hN _ hst
    · rename_i v h' hst
      simp at e; subst e
      exact hN _ hst
    · rename_i ch h' hst
      simp at e; subst e
      exact hN _ hst
    · simp at e

include G hF0 hmix in
/-- a call of which the abstract machine tells the answer -/
theorem runCallA_ok {n : Nat} {pr : Pr} {γ : Gm} {h h' : H} {w : World} {g : FuncId} {args : List AV} {args' : Array Value} {v : AV} {fn : FuncId} (hn : pr.nr ≤ w.heap.size) (hz : pr Z.1 = some Z.2) (r : Rel pr Γ.ng γ h w) (hv : VRL γ args args'.toList)
    (e : runCallA Γ n g args h = .ok (.ret fn v h')) (hfn : fn = g) :
    Calls P g args' w fun e w' => ∃ γ' v', γ.le γ' ∧ Rel pr Γ.ng γ' h' w' ∧ WK w w' ∧ VR γ' v v' ∧ e = .returned v' := by
  unfold runCallA at e
  obtain ⟨c, hc, e1⟩ := bd_ok e; clear e
  obtain ⟨h1, _, _⟩ := enterA_ok G hc hv
  intro cs
  obtain ⟨γ', fr, v', w', g1, r', hvr, wk, hs, hf, hl⟩ := runA_ok G hF0 hmix n cs hn hz r h1 .nil e1
  exact ⟨.returned v', w', fr, ⟨γ', v', g1, r', wk, hvr, rfl⟩, hs, hf.trans hfn, hl⟩
end
end Go.Vex
