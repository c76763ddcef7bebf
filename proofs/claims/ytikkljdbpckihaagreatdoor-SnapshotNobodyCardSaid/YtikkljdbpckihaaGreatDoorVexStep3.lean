/- Part VexStep3 of a checked interpreter for closed calls: what it answers, the machine of the model answers; its conditions are those of its theorems. -/
import Derived.Test.YtikkljdbpckihaaGreatDoorVexStep2
set_option linter.unusedSimpArgs false
set_option linter.unusedVariables false
namespace Go.Vex

abbrev one (fr : Frame) (cs : List Frame) : Goroutine := { frame := fr, callers := cs, status := .running, dying := none }

/-- no item of the kit's own -/
def NoCall (k : List Item) : Prop := ∀ d b r s k', k ≠ .call d b r s :: k'
def NoExt (k : List Item) : Prop := ∀ r a k', k ≠ .extern r a :: k'

theorem noCall_of {γ : Gm} {a : List AItem} {k : List Item} (h : All2 (IR γ) a k) : NoCall k := by
  intro d b r s k' e
  subst e
  cases h with
  | cons h _ => cases h

section ap
variable {P : Program} {fr0 fr : Frame} {cs0 cs : List Frame} {s : Sem Next} {w0 w w' : World}
  (hst : (stepG P true (one fr0 cs0) w0).bare = (stepG.apply P true fr cs none s w).bare)
include hst

theorem ap_val {v : Value} (hr : s.run P w = .ok (.value v) w') : step P (lone fr0 cs0 w0) = .next (lone (fr.finish v) cs w') :=
  step_lone_go (by rw [hst]; simp [stepG.apply, hr])
theorem ap_skip (hr : s.run P w = .ok .skip w') : step P (lone fr0 cs0 w0) = .next (lone (fr.finish undef) cs w') :=
  step_lone_go (by rw [hst]; simp [stepG.apply, hr])
theorem ap_enter {f : FuncId} {args : Array Value} (hk : NoCall fr.todo) (hr : s.run P w = .ok (.enter f args) w') : step P (lone fr0 cs0 w0) = .next (lone (Frame.enter P f args .normal) (fr :: cs) w') :=
  step_lone_go (by
    rw [hst]
    have : (match fr.todo with | .call _ true _ _ :: _ => CallKind.wrapped | _ => CallKind.normal) = .normal := by
      split
      · rename_i h; exact absurd h (hk _ _ _ _ _)
      · rfl
    simp [stepG.apply, hr]
    exact congrArg _ this)
theorem ap_round {l : Nat} {f : FuncId} {tm : Array Value} {as body : Code} (hr : s.run P w = .ok (.round l f tm as body) w') : step P (lone fr0 cs0 w0) = .next (lone (Frame.round l f tm as body .normal) (fr :: cs) w') :=
  step_lone_go (by rw [hst]; simp [stepG.apply, hr])
theorem ap_defer {d : Deferred} (hr : s.run P w = .ok (.defer d) w') : step P (lone fr0 cs0 w0) = .next (lone (({ fr with defers := d :: fr.defers } : Frame).finish undef) cs w') :=
  step_lone_go (by rw [hst]; simp [stepG.apply, hr])
theorem ap_panic {v : Value} (hr : s.run P w = .halt (.panic v) w') : step P (lone fr0 cs0 w0) = .next (lone (fr.raise [{ v, recovered := false }]) cs w') :=
  step_lone_go (by rw [hst]; simp [stepG.apply, hr])
theorem ap_recover (hr : s.run P w = .ok .recover w') (hrn : fr.roundOf = none) (hk : fr.kind = .deferred) :
    step P (lone fr0 cs0 w0) = match recoverD cs with
      | some (v, cs') => .next (lone (fr.finish v) cs' w')
      | none => .next (lone (fr.finish .nilIface) cs w') := by
  have ht := tryRecover_deferred (fr := fr) hk cs
  cases hc : recoverD cs with
  | none => exact step_lone_go (by rw [hst]; simp [stepG.apply, hr, hrn, ht, hc])
  | some p =>
    obtain ⟨v, cs'⟩ := p
    exact step_lone_go (by rw [hst]; simp [stepG.apply, hr, hrn, ht, hc])
end ap

/-- what the machine does, told by a step of the abstract one -/
def Nxt (P : Program) (Γ : Env) (pr : Pr) (γ : Gm) (w : World) (m : Machine) (base : List Frame) : St → Prop
  | .go f cs h => ∃ γ' fr fcs w', γ.le γ' ∧ Rel pr Γ.ng γ' h w' ∧ FR γ' f fr ∧ All2 (FR γ') cs fcs ∧ WK w w' ∧ Steps P m (lone fr (fcs ++ base) w')
  | .done fn v h => ∃ γ' fr v' w', γ.le γ' ∧ Rel pr Γ.ng γ' h w' ∧ VR γ' v v' ∧ WK w w' ∧ Steps P m (lone fr base w') ∧ fr.fn = fn ∧ fr.leaving P w' (.returned v')
  | .doneR v h => ∃ γ' v' w', γ.le γ' ∧ Rel pr Γ.ng γ' h w' ∧ VR γ' v v' ∧ WK w w' ∧ ∀ c b', base = c :: b' → Steps P m (lone (c.finish v') b' w')
  | .dead ch h => ∃ γ' fr ch' w', γ.le γ' ∧ Rel pr Γ.ng γ' h w' ∧ All2 (PR γ') ch ch' ∧ WK w w' ∧ Steps P m (lone fr base w') ∧ fr.mode = .panicking ch' ∧ fr.defers = [] ∧ fr.catches P = false

theorem Nxt.lift {P : Program} {Γ : Env} {pr : Pr} {γ γ1 : Gm} {w w1 : World} {m m1 : Machine} {base : List Frame} (g : γ.le γ1) (k : WK w w1) (s : Steps P m m1) :
    ∀ {st : St}, Nxt P Γ pr γ1 w1 m1 base st → Nxt P Γ pr γ w m base st
  | .go _ _ _, ⟨γ', fr, fcs, w', h1, h2, h3, h4, h5, h6⟩ => ⟨γ', fr, fcs, w', Gm.le_trans g h1, h2, h3, h4, k.trans h5, s.trans h6⟩
  | .done _ _ _, ⟨γ', fr, v', w', h1, h2, h3, h4, h5, h6⟩ => ⟨γ', fr, v', w', Gm.le_trans g h1, h2, h3, k.trans h4, s.trans h5, h6⟩
  | .doneR _ _, ⟨γ', v', w', h1, h2, h3, h4, h5⟩ => ⟨γ', v', w', Gm.le_trans g h1, h2, h3, k.trans h4, fun c b' e => s.trans (h5 c b' e)⟩
  | .dead _ _, ⟨γ', fr, ch', w', h1, h2, h3, h4, h5, h6⟩ => ⟨γ', fr, ch', w', Gm.le_trans g h1, h2, h3, k.trans h4, s.trans h5, h6⟩

theorem words_ok (γ : Gm) : ∀ (l : List (List UInt8)), VRL γ ((l.map fun x => x.map (·.toNat)).map AV.str) (l.map fun x => Value.string ⟨x.toArray⟩)
  | [] => .nil
  | x :: xs => by
    refine .cons ?_ (words_ok γ xs)
    have := VR.str (γ := γ) ⟨x.toArray⟩
    simpa using this

section
variable {P : Program} {Γ : Env} (G : EnvOk P Γ) {pr : Pr} {γ : Gm} {h : H} {w : World} (r : Rel pr Γ.ng γ h w)

include G r in
theorem applyA_ok {Z : Nat × Obj} (hz : pr Z.1 = some Z.2) (hF0 : FieldsOk P Γ Z) {q : R} {f : AF} {cs : List AF} {st : St} (e : applyA Γ f cs q h = .ok st) {fr fr0 : Frame} {fcs base : List Frame} {s : Sem Next} {w0 : World}
    (hF : FR γ f fr) (hC : All2 (FR γ) cs fcs) (hO : OpOk P Γ pr γ h w (s.run P w) q)
    (hst : (stepG P true (one fr0 (fcs ++ base)) w0).bare = (stepG.apply P true fr (fcs ++ base) none s w).bare) :
    Nxt P Γ pr γ w (lone fr0 (fcs ++ base) w0) base st := by
  unfold applyA at e
  split at e
  · rename_i v h'
    obtain ⟨f', h1, e1⟩ := bd_ok e; clear e
    simp at e1; subst e1
    obtain ⟨γ', v', w', g, hr, hv, r', k⟩ := hO
    obtain ⟨fr', h2, h3⟩ := finish_ok (P := P) (hF.mono g) h1 hv
    exact ⟨γ', fr', fcs, w', g, r', h2, hC.imp fun _ _ q => q.mono g, k, Steps.trans (.one (ap_val hst hr)) (h3 _ _)⟩
  · rename_i h'
    obtain ⟨f', h1, e1⟩ := bd_ok e; clear e
    simp at e1; subst e1
    obtain ⟨γ', w', g, hr, r', k⟩ := hO
    obtain ⟨fr', h2, h3⟩ := finish_ok (P := P) (hF.mono g) h1 (VR.undef γ')
    exact ⟨γ', fr', fcs, w', g, r', h2, hC.imp fun _ _ q => q.mono g, k, Steps.trans (.one (ap_skip hst hr)) (h3 _ _)⟩
  · rename_i g args h'
    obtain ⟨c, h1, e1⟩ := bd_ok e; clear e
    simp at e1; subst e1
    obtain ⟨rfl, args', hv, hr⟩ := hO
    obtain ⟨h2, h3, _⟩ := enterA_ok G h1 hv
    rw [h3] at hr
    exact ⟨γ, _, fr :: fcs, w, Gm.le_refl _, r, h2, .cons hF hC, WK.refl _, .one (ap_enter hst (noCall_of hF.todo) hr)⟩
  · rename_i l h'
    obtain ⟨hck, e0⟩ := gd_ok e; clear e
    obtain ⟨f', h1, e1⟩ := bd_ok e0; clear e0
    simp at e1; subst e1
    obtain ⟨rfl, bs, hs, hr⟩ := hO
    obtain ⟨q1, t, q2⟩ := hF0
    rw [q1] at hr
    subst hs
    simp only [Bool.and_eq_true, Nat.blt_eq] at hck
    have hsz : bs.size < 4294967281 := by have := hck.2; simpa [nums] using this
    obtain ⟨e, w', fr', ⟨rfl, rfl⟩, hsteps, _, hl⟩ := q2 bs w hsz (allAscii_ok hck.1) (r.prot _ _ hz) (fr :: (fcs ++ base))
    have hw := words_ok γ (Lib.fields bs.data.toList)
    rw [← fields_eq] at hw
    have hnew := r.newExact hw t
    have hle : γ.le (γ.put h'.c ⟨w.heap.size, 0, ((Lib.fields bs.data.toList).map fun x => Value.string ⟨x.toArray⟩).length⟩) := Gm.le_put (r.fresh _ (Nat.le_refl _))
    have hlen : (fieldsGo (nums bs) [] []).length = (Lib.fields bs.data.toList).length := by
      have := congrArg List.length (fields_eq bs.data.toList)
      simpa [nums] using this
    have hpg : (γ.put h'.c ⟨w.heap.size, 0, ((Lib.fields bs.data.toList).map fun x => Value.string ⟨x.toArray⟩).length⟩) h'.c = some ⟨w.heap.size, 0, ((Lib.fields bs.data.toList).map fun x => Value.string ⟨x.toArray⟩).length⟩ := by simp [Gm.put]
    have hvr : VR (γ.put h'.c ⟨w.heap.size, 0, ((Lib.fields bs.data.toList).map fun x => Value.string ⟨x.toArray⟩).length⟩) (newWord h' (fieldsGo (nums bs) [] [])).1
        (.slice (some ⟨w.heap.size, 0, none⟩) (Lib.fields bs.data.toList).length (Lib.fields bs.data.toList).length) := by
      simp only [newWord, newExact, hlen]
      exact .sliceK (x := ⟨w.heap.size, 0, _⟩) 0 _ _ hpg (Nat.le_refl _) (fun _ => rfl)
    obtain ⟨fr2, h2, h3⟩ := finish_ok (P := P) (hF.mono hle) h1 hvr
    refine ⟨_, fr2, fcs, _, hle, hnew, h2, hC.imp fun _ _ q => q.mono hle, wk_push _ _, Steps.trans (.one (ap_enter hst (noCall_of hF.todo) hr)) (Steps.trans hsteps (Steps.trans (.one (step_leave_returned hl)) (h3 _ _)))⟩
  · rename_i g args
    split at e
    · rename_i hrn
      obtain ⟨f', h1, e1⟩ := bd_ok e; clear e
      simp at e1; subst e1
      obtain ⟨d, hd, hr⟩ := hO
      have hF' : FR γ { f with defers := .fn g args :: f.defers } { fr with defers := d :: fr.defers } := ⟨hF.fn, hF.tm, hF.todo, .cons hd hF.defers, hF.mode, hF.kind, hF.rnd⟩
      obtain ⟨fr', h2, h3⟩ := finish_ok (P := P) hF' h1 (VR.undef γ)
      exact ⟨γ, fr', fcs, w, Gm.le_refl _, r, h2, hC, WK.refl _, Steps.trans (.one (ap_defer hst hr)) (h3 _ _)⟩
    · simp at e
  · split at e
    · rename_i x1 x2 x3 c cs' hdf hrn
      have hk : fr.kind = .deferred := by rw [hF.kind, hdf]; rfl
      have hrd : fr.roundOf = none := by have := hF.rnd; rw [hrn] at this; exact this
      have hap := ap_recover hst hO hrd hk
      cases hC with
      | cons hc hcs =>
        rename_i fc fcs'
        split at e
        · rename_i v older hm
          obtain ⟨f', h1, e1⟩ := bd_ok e; clear e
          simp at e1; subst e1
          have hmr := hc.mode
          rw [hm] at hmr
          generalize hfm : fc.mode = fm at hmr
          cases hmr with
          | pan hp => cases hp with
            | cons hp1 hp2 =>
              rename_i en ens
              obtain ⟨en1, en2, en3⟩ := en
              obtain ⟨hv, hrc, hgx⟩ := hp1
              simp only at hv hrc hgx
              subst hrc hgx
              obtain ⟨fr', h2, h3⟩ := finish_ok (P := P) hF h1 hv
              have hrec : recoverD (fc :: fcs' ++ base) = some (en1, { fc with mode := .panicking ({ v := en1, recovered := true } :: ens) } :: (fcs' ++ base)) := by simp [recoverD, hfm]
              rw [hrec] at hap
              refine ⟨γ, fr', { fc with mode := .panicking ({ v := en1, recovered := true } :: ens) } :: fcs', w, Gm.le_refl _, r, h2, .cons ⟨hc.fn, hc.tm, hc.todo, hc.defers, .pan (.cons ⟨hv, rfl, rfl⟩ hp2), hc.kind, hc.rnd⟩ hcs, WK.refl _, Steps.trans (.one hap) (h3 _ _)⟩
        · rename_i hnp
          obtain ⟨f', h1, e1⟩ := bd_ok e; clear e
          simp at e1; subst e1
          obtain ⟨fr', h2, h3⟩ := finish_ok (P := P) hF h1 VR.nilIface
          have hrec : recoverD (fc :: fcs' ++ base) = none := by
            have hmr := hc.mode
            simp only [List.cons_append, recoverD]
            generalize hfm : fc.mode = fm at hmr
            generalize ham : c.mode = am at hmr hnp
            cases hmr with
            | run => rfl
            | returning => rfl
            | pan hp => cases hp with
              | nil => rfl
              | cons hp1 hp2 =>
                rename_i a en as ens
                obtain ⟨a1, a2⟩ := a
                obtain ⟨en1, en2, en3⟩ := en
                obtain ⟨hv, hrc, hgx⟩ := hp1
                simp only at hv hrc hgx
                subst hrc hgx
                cases en2 with
                | true => rfl
                | false => exact absurd rfl (hnp _ _)
          rw [hrec] at hap
          exact ⟨γ, fr', fc :: fcs', w, Gm.le_refl _, r, h2, .cons hc hcs, WK.refl _, Steps.trans (.one hap) (h3 _ _)⟩
    · simp at e
  · rename_i v
    simp at e; subst e
    obtain ⟨v', hv, hr⟩ := hO
    exact ⟨γ, _, fcs, w, Gm.le_refl _, r, raise_ok hF (.cons ⟨hv, rfl, rfl⟩ .nil), hC, WK.refl _, .one (ap_panic hst hr)⟩
  · rename_i l args
    obtain ⟨c, h1, e1⟩ := bd_ok e; clear e
    simp at e1; subst e1
    obtain ⟨x, args', hl, hv, hr⟩ := hO
    obtain ⟨fn, tm, as, body, h2, h3, _⟩ := roundA_ok (P := P) r h1 hl hv
    rw [h2] at hr
    exact ⟨γ, _, fr :: fcs, w, Gm.le_refl _, r, h3, .cons hF hC, WK.refl _, .one (ap_round hst hr)⟩
end
end Go.Vex
