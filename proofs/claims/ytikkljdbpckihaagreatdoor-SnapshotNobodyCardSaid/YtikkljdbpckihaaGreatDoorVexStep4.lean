/- Part VexStep4 of a checked interpreter for closed calls: what it answers, the machine of the model answers; its conditions are those of its theorems. -/
import Derived.Test.YtikkljdbpckihaaGreatDoorVexStep3
set_option linter.unusedSimpArgs false
set_option linter.unusedVariables false
namespace Go.Vex

theorem exit_none {γ : Gm} {id : Nat} : ∀ {k : List AItem} {fk : List Item}, popExit id k = none → All2 (IR γ) k fk → exitTo id fk = none
  | _, _, _, .nil => rfl
  | _, _, e, .cons h t => by
    cases h with
    | inBlock id' =>
      simp only [popExit] at e
      split at e
      · simp at e
      · rename_i hq
        have : (id' == id) = false := by
          cases hb : (id' == id) with
          | false => rfl
          | true => have : id' = id := by simpa using hb
                    subst this; simp at hq
        simp only [exitTo, this]
        exact exit_none e t
    | _ =>
      simp only [popExit] at e
      simp only [exitTo]
      exact exit_none e t

theorem goto_none {γ : Gm} {l : Nat} : ∀ {k : List AItem} {fk : List Item}, gotoA l k = none → All2 (IR γ) k fk → gotoIn l fk = none
  | _, _, _, .nil => rfl
  | _, _, e, .cons h t => by
    cases h with
    | inScope body =>
      simp only [gotoA] at e
      split at e
      · simp at e
      · rename_i hq
        simp only [gotoIn, hq]
        exact goto_none e t
    | _ =>
      simp only [gotoA] at e
      simp only [gotoIn]
      exact goto_none e t

/-- a frame that comes to its end, or jumps out of its body -/
inductive Lv (fr : Frame) : Option Code → Prop
  | fin (h : fr.todo = []) : Lv fr none
  | ret (k : List Item) (h : fr.todo = .code .ret :: k) : Lv fr (some .ret)
  | exit (id : Nat) (k : List Item) (h : fr.todo = .code (.exit id) :: k) (hn : exitTo id k = none) : Lv fr (some (.exit id))
  | goto (l : Nat) (k : List Item) (h : fr.todo = .code (.goto l) :: k) (hn : gotoIn l k = none) : Lv fr (some (.goto l))

theorem leave_stepR {P : Program} {fr : Frame} {cs : List Frame} {w w' : World} {l : Nat} {jump : Option Code} {v : Value} (hm : fr.mode = .run) (hl : fr.roundOf = some l) (hL : Lv fr jump)
    (hr : (Instr.endRound l jump).run P w = .ok v w') : (stepG P true (one fr cs) w).bare = (doReturn P true fr cs none v w').bare := by
  cases hL with
  | fin h => simp [stepG, stepG.exec, hm, hl, h, hr]
  | ret k h => simp [stepG, stepG.exec, hm, hl, h, hr]
  | exit id k h hn => simp [stepG, stepG.exec, hm, hl, h, hn, hr]
  | goto l k h hn => simp [stepG, stepG.exec, hm, hl, h, hn, hr]

theorem leave_step {P : Program} {fr : Frame} {cs : List Frame} {w : World} {jump : Option Code} (hm : fr.mode = .run) (hl : fr.roundOf = none) (hL : Lv fr jump) (hj : jump = none ∨ jump = some .ret) :
    step P (lone fr cs w) = .next (lone { fr with mode := .returning } cs w) := by
  cases hL with
  | fin h => exact step_lone_go (by simp [stepG, stepG.exec, hm, hl, h])
  | ret k h => exact step_lone_go (by simp [stepG, stepG.exec, hm, hl, h])
  | exit id k h hn => simp at hj
  | goto l k h hn => simp at hj

section
variable {P : Program} {Γ : Env} (G : EnvOk P Γ) {pr : Pr} {γ : Gm} {h : H} {w : World} (r : Rel pr Γ.ng γ h w)

include r in
theorem loop_ok {l : Nat} {st : LoopState} {pe : Option Code} {fn : FuncId} {tm : T AV} {nt : Nat} {ps : List Nat} {a b : Code} {d : Nat} {x : Bl}
    (hm : h.m.get l = some (.loop st pe fn tm nt ps a b d)) (hx : γ l = some x) :
    ∃ L : Loop, w.heap[x.blk]? = some (.loop L) ∧ LoopR γ st pe fn tm nt ps a b d L ∧ ∀ st' pe',
      Rel pr Γ.ng γ { h with m := h.m.set l (.loop st' pe' fn tm nt ps a b d) } { w with heap := w.heap.setIfInBounds x.blk (.loop { L with state := st', pending := pe' }) } := by
  obtain ⟨y, hy, L, h1, h2, h3⟩ := r.blk _ _ hm
  obtain rfl : y = x := by rw [hx] at hy; exact (Option.some.inj hy).symm
  refine ⟨L, h1, h2, fun st' pe' => ?_⟩
  refine r.setObj hm hx h1 h3 (by trivial) rfl (by intros; simp) ⟨{ L with state := st', pending := pe' }, ?_, ?_, h3⟩
  · have := lt_of_get h1
    simp [this]
  · obtain ⟨a1, a2, a3, a4, a5, a6, a7, a8⟩ := h2
    exact ⟨rfl, rfl, a3, a4, a5, a6, a7, a8⟩

include r in
theorem backA_ok {fin : St} {v : AV} {v' : Value} {dfr : Bool} {cs : List AF} {st : St} (e : backA fin v dfr cs h = .ok st) {fr fr0 : Frame} {fcs base : List Frame} {w0 : World}
    (hC : All2 (FR γ) cs fcs) (hv : VR γ v v') (hk : fr.kind = if dfr then .deferred else .normal)
    (hst : (stepG P true (one fr0 (fcs ++ base)) w0).bare = (doReturn P true fr (fcs ++ base) none v' w).bare)
    (hfin : cs = [] → dfr = false → Nxt P Γ pr γ w (lone fr0 (fcs ++ base) w0) base fin) :
    Nxt P Γ pr γ w (lone fr0 (fcs ++ base) w0) base st := by
  unfold backA at e
  cases hC with
  | nil =>
    dsimp only at e
    split at e
    · simp at e; subst e; exact hfin rfl rfl
    · simp at e
  | cons hc hcs =>
    rename_i c fc cs' fcs'
    dsimp only at e
    split at e
    · obtain ⟨c', h1, e1⟩ := bd_ok e; clear e
      simp at e1; subst e1
      have hk' : fr.kind = .normal := by rw [hk]; rfl
      obtain ⟨fr', h2, h3⟩ := finish_ok (P := P) hc h1 hv
      exact ⟨γ, fr', fcs', w, Gm.le_refl _, r, h2, hcs, WK.refl _, Steps.trans (.one (step_lone_go (by rw [hst]; simp [doReturn, hk']))) (h3 _ _)⟩
    · have hk' : fr.kind = .deferred := by rw [hk]; rfl
      simp at e; subst e
      refine ⟨γ, { fc with mode := settle fc.mode }, fcs', w, Gm.le_refl _, r, ?_, hcs, WK.refl _, .one (step_lone_go ?_)⟩
      · obtain ⟨b1, b2, b3, b4, b5, b6, b7⟩ := hc
        generalize hfm : fc.mode = fm at b5
        generalize ham : c.mode = am at b5
        cases b5 with
        | run => exact ⟨b1, b2, b3, b4, by dsimp only; rw [ham]; exact .run, b6, b7⟩
        | returning => exact ⟨b1, b2, b3, b4, by dsimp only; rw [ham]; exact .returning, b6, b7⟩
        | pan hp => cases hp with
          | nil => exact ⟨b1, b2, b3, b4, by dsimp only; rw [ham]; exact .pan .nil, b6, b7⟩
          | cons hp1 hp2 =>
            rename_i a en as ens
            obtain ⟨a1, a2⟩ := a
            obtain ⟨en1, en2, en3⟩ := en
            obtain ⟨hv, hrc, hgx⟩ := hp1
            simp only at hv hrc hgx
            subst hrc hgx
            cases en2 with
            | false => exact ⟨b1, b2, b3, b4, by dsimp only; rw [ham]; exact .pan (.cons ⟨hv, rfl, rfl⟩ hp2), b6, b7⟩
            | true =>
              have hdw : ens.dropWhile (!·.goexit) = [] := by
                clear hv ham hfm
                induction hp2 with
                | nil => rfl
                | cons q _ ih => simp only [List.dropWhile_cons, q.2.2, Bool.not_false, if_true]; exact ih
              refine ⟨b1, b2, b3, b4, ?_, b6, b7⟩
              show MR γ .returning (settle (.panicking ({ v := en1, recovered := true } :: ens)))
              simp only [settle, hdw]
              exact .returning
      · rw [hst]
        simp only [List.cons_append, doReturn, hk']
        unfold settle
        split <;> (try split) <;> simp_all

def jst : Option Code → LoopState
  | none => .ready
  | some _ => .done
def jb : Option Code → Bool
  | none => true
  | some _ => false

include r in
theorem leaveR_ok {l : Nat} {f : AF} {cs : List AF} {jump : Option Code} {st : St} (e : leaveR l f.dfr cs h jump = .ok st) {fr : Frame} {fcs base : List Frame}
    (hF : FR γ f fr) (hC : All2 (FR γ) cs fcs) (hrn : f.rnd = some l) (hm : f.mode = .run) (hL : Lv fr jump) :
    Nxt P Γ pr γ w (lone fr (fcs ++ base) w) base st := by
  unfold leaveR at e
  have hrnd := hF.rnd
  rw [hrn] at hrnd
  obtain ⟨x, hx, hro⟩ := hrnd
  have hmode : fr.mode = .run := by have := hF.mode; rw [hm] at this; generalize fr.mode = m at this; cases this; rfl
  split at e
  · rename_i s0 pe fn tm nt ps a b d hg
    obtain ⟨L, h1, h2, h3⟩ := loop_ok r hg hx
    have e' : backA (.doneR (.bool (jb jump)) { h with m := h.m.set l (.loop (jst jump) jump fn tm nt ps a b d) }) (.bool (jb jump)) f.dfr cs { h with m := h.m.set l (.loop (jst jump) jump fn tm nt ps a b d) } = .ok st := by
      cases jump <;> exact e
    clear e
    have hr : (Instr.endRound x.blk jump).run P w = .ok (.bool (jb jump)) { w with heap := w.heap.setIfInBounds x.blk (.loop { L with state := jst jump, pending := jump }) } := by
      have hgl : (Instr.getLoop x.blk).run P w = .ok L w := by simp [Instr.getLoop, run_getObj h1 rfl]
      cases jump <;> simp [Instr.endRound, hgl, run_setObj h1 rfl, jst, jb]
    have hst := leave_stepR (cs := fcs ++ base) hmode hro hL hr
    have r' := h3 (jst jump) jump
    refine Nxt.lift (Gm.le_refl _) (wk_set w x.blk _) (Steps.refl _ _) (backA_ok r' e' hC (.bool _) hF.kind hst ?_)
    intro hcs hd
    subst hcs
    cases hC
    refine ⟨γ, _, _, Gm.le_refl _, r', .bool _, WK.refl _, fun c b' hb => ?_⟩
    subst hb
    refine .one (step_lone_go ?_)
    have hk' : fr.kind = .normal := by rw [hF.kind, hd]; rfl
    simp only [List.nil_append] at hst
    rw [List.nil_append, hst]; simp [doReturn, hk']
  · simp at e

include r in
theorem leaveA_ok {f : AF} {cs : List AF} {jump : Option Code} {st : St} (e : leaveA f cs h jump = .ok st) {fr : Frame} {fcs base : List Frame}
    (hF : FR γ f fr) (hC : All2 (FR γ) cs fcs) (hm : f.mode = .run) (hL : Lv fr jump) :
    Nxt P Γ pr γ w (lone fr (fcs ++ base) w) base st := by
  unfold leaveA at e
  have hmode : fr.mode = .run := by have := hF.mode; rw [hm] at this; generalize fr.mode = m at this; cases this; rfl
  split at e
  · rename_i hrn
    have hro : fr.roundOf = none := by have := hF.rnd; rw [hrn] at this; exact this
    have hF' : FR γ { f with mode := .returning } { fr with mode := .returning } := ⟨hF.fn, hF.tm, hF.todo, hF.defers, .returning, hF.kind, hF.rnd⟩
    split at e
    · simp at e; subst e
      exact ⟨γ, _, fcs, w, Gm.le_refl _, r, hF', hC, WK.refl _, .one (leave_step hmode hro hL (.inl rfl))⟩
    · simp at e; subst e
      exact ⟨γ, _, fcs, w, Gm.le_refl _, r, hF', hC, WK.refl _, .one (leave_step hmode hro hL (.inr rfl))⟩
    · simp at e
  · rename_i l hrn
    exact leaveR_ok r e hF hC hrn hm hL

theorem stepG_unwind {fr : Frame} {cs : List Frame} (hm : fr.mode ≠ .run) : stepG P true (one fr cs) w = unwind P true fr cs none w := by
  cases h : fr.mode with
  | run => exact absurd h hm
  | returning => simp [stepG, h]
  | panicking c => simp [stepG, h]

theorem no_catch {f : AF} {fr : Frame} (hF : FR γ f fr) : fr.catches P = false := by
  unfold Frame.catches
  split
  · rename_i h; exact absurd h (noCall_of hF.todo _ _ _ _ _)
  · rfl

include G r in
theorem unwindA_ok {f : AF} {cs : List AF} {st : St} (e : unwindA Γ f cs h = .ok st) {fr : Frame} {fcs base : List Frame}
    (hF : FR γ f fr) (hC : All2 (FR γ) cs fcs) (hm : f.mode ≠ .run) :
    Nxt P Γ pr γ w (lone fr (fcs ++ base) w) base st := by
  have hmode : fr.mode ≠ .run := by
    have := hF.mode
    intro hq; rw [hq] at this
    generalize f.mode = m at this hm
    cases this; exact hm rfl
  unfold unwindA at e
  have hD := hF.defers
  split at e
  · rename_i b ds hds
    rw [hds] at hD
    generalize hfd : fr.defers = fd at hD
    cases hD with
    | cons hd hdt =>
      rename_i d fds
      obtain ⟨x, hx, rfl⟩ := hd
      split at e
      · rename_i hb
        simp at e; subst e
        obtain ⟨y, hy, h1, h3⟩ := r.blk _ _ hb
        obtain rfl : y = x := by rw [hx] at hy; exact (Option.some.inj hy).symm
        simp only [if_true] at h1
        have r' := r.setObj (ab' := .defr false) (o' := .deferred none) hb hx h1 h3 (by trivial) rfl (by intros; simp) ⟨by have := lt_of_get h1; simp [this], h3⟩
        have hr : (Instr.takeDeferred y.blk).run P w = .ok [] { w with heap := w.heap.setIfInBounds y.blk (.deferred none) } := by
          simp [Instr.takeDeferred, run_getObj h1 rfl, run_setObj h1 rfl]
        refine ⟨γ, { fr with defers := fds }, fcs, _, Gm.le_refl _, r', ⟨hF.fn, hF.tm, hF.todo, hdt, hF.mode, hF.kind, hF.rnd⟩, hC, wk_set _ _ _, .one (step_lone_go ?_)⟩
        rw [stepG_unwind hmode]
        simp [unwind, hfd, hr]
      · simp at e
  · rename_i g args ds hds
    rw [hds] at hD
    generalize hfd : fr.defers = fd at hD
    cases hD with
    | cons hd hdt =>
      rename_i d fds
      obtain ⟨cap, ht, hv⟩ := hd
      obtain ⟨q, h1, e1⟩ := bd_ok e; clear e
      have hO := callF_ok (P := P) (pr := pr) (γ := γ) (w := w) h1 hv
      split at e1
      · rename_i g' args2 h'
        obtain ⟨c, h2, e2⟩ := bd_ok e1; clear e1
        simp at e2; subst e2
        obtain ⟨rfl, args', hv', hr⟩ := hO
        obtain ⟨h3, h4, _⟩ := enterA_ok G h2 hv'
        rw [h4] at hr
        refine ⟨γ, _, { fr with defers := fds } :: fcs, w, Gm.le_refl _, r, h3, .cons ⟨hF.fn, hF.tm, hF.todo, hdt, hF.mode, hF.kind, hF.rnd⟩ hC, WK.refl _, .one (step_defer hmode hfd ht ?_)⟩
        rw [ht]
        exact hr
      · simp at e1
  · rename_i hds
    rw [hds] at hD
    have hfd : fr.defers = [] := by generalize fr.defers = fd at hD; cases hD; rfl
    split at e
    · simp at e
    · rename_i ch hmd
      have hmr := hF.mode
      rw [hmd] at hmr
      generalize hfm : fr.mode = fm at hmr
      cases hmr with
      | pan hp =>
        rename_i ch'
        cases hC with
        | nil =>
          simp at e; subst e
          exact ⟨γ, fr, ch', w, Gm.le_refl _, r, hp, WK.refl _, Steps.refl _ _, hfm, hfd, no_catch hF⟩
        | cons hc hcs =>
          rename_i c fc cs' fcs'
          simp at e; subst e
          refine ⟨γ, fc.raise ch', fcs', w, Gm.le_refl _, r, raise_ok hc hp, hcs, WK.refl _, .one (step_lone_go ?_)⟩
          rw [stepG_unwind hmode]
          simp [unwind, hfd, hfm, no_catch (P := P) hF]
    · rename_i hmd
      have hmr := hF.mode
      rw [hmd] at hmr
      generalize hfm : fr.mode = fm at hmr
      cases hmr
      split at e
      · simp at e
      · rename_i hrn
        obtain ⟨fn, h1, e1⟩ := bd_ok e; clear e
        obtain ⟨vs, h2, e2⟩ := bd_ok e1; clear e1
        have hf' := G.ft _ _ (og_ok h1)
        rw [← hF.fn] at hf'
        obtain ⟨v', q1, q2⟩ := results_run G r hF.tm h2
        have hst : (stepG P true (one fr (fcs ++ base)) w).bare = (doReturn P true fr (fcs ++ base) none v' w).bare := by
          rw [stepG_unwind hmode]
          simp [unwind, hfd, hfm, hf', q1]
        refine backA_ok r e2 hC q2 hF.kind hst ?_
        intro hcs hd
        subst hcs
        cases hC
        exact ⟨γ, fr, v', w, Gm.le_refl _, r, q2, WK.refl _, Steps.refl _ _, hF.fn, hfm, hfd, by rw [hF.kind, hd]; rfl, fn, hf', q1⟩
end
end Go.Vex
