/- Part VexStep5 of a checked interpreter for closed calls: what it answers, the machine of the model answers; its conditions are those of its theorems. -/
import Derived.Test.YtikkljdbpckihaaGreatDoorVexStep4
set_option linter.unusedSimpArgs false
set_option linter.unusedVariables false
namespace Go.Vex

/-- the drawn orders of a region come all to what the one order comes to -/
def DrawOk (P : Program) (Γ : Env) (Z : Nat × Obj) (big : AF → H → E BR) : Prop :=
  ∀ {pr : Pr} {γ : Gm} {h : H} {w : World} {nt : Nat} {tm : T AV} {tmps : Array Value} {A : Array Oper} {res : DR}, pr.nr ≤ w.heap.size → pr Z.1 = some Z.2 → Rel pr Γ.ng γ h w → TR γ nt tm tmps →
    drawA Γ big A.toList nt tm h = .ok res →
    ∀ (t : Nat) (fn : FuncId) (defers : List Deferred) (kind : CallKind) (rnd : Option Nat) (k : List Item) (cs : List Frame),
    match res with
    | .go tm' h' => ∃ γ' tmps' w', γ.le γ' ∧ Rel pr Γ.ng γ' h' w' ∧ TR γ' nt tm' tmps' ∧ WK w w' ∧
        Steps P (lone ⟨fn, tmps, .inRegion A (Region.schedule (P.follows .mixedOrders) A t) :: k, defers, .run, kind, rnd⟩ cs w) (lone ⟨fn, tmps', k, defers, .run, kind, rnd⟩ cs w')
    | .pan ch h' => ∃ γ' tmps' rest ch' w', γ.le γ' ∧ Rel pr Γ.ng γ' h' w' ∧ All2 (PR γ') ch ch' ∧ WK w w' ∧
        Steps P (lone ⟨fn, tmps, .inRegion A (Region.schedule (P.follows .mixedOrders) A t) :: k, defers, .run, kind, rnd⟩ cs w) (lone ⟨fn, tmps', .inRegion A rest :: k, defers, .panicking ch', kind, rnd⟩ cs w')

section
variable {P : Program} {Γ : Env} (G : EnvOk P Γ) {pr : Pr} {γ : Gm} {h : H} {w : World} (r : Rel pr Γ.ng γ h w)

theorem one_go {f' : AF} {cs : List AF} {fr fr' : Frame} {fcs base : List Frame} {Γ : Env} {h : H} (r : Rel pr Γ.ng γ h w) (hF : FR γ f' fr') (hC : All2 (FR γ) cs fcs) (s : step P (lone fr (fcs ++ base) w) = .next (lone fr' (fcs ++ base) w)) :
    Nxt P Γ pr γ w (lone fr (fcs ++ base) w) base (.go f' cs h) := ⟨γ, fr', fcs, w, Gm.le_refl _, r, hF, hC, WK.refl _, .one s⟩

theorem opA_defer {tm : T AV} {o : Oper} {q : R} {c : Call} (e : opA Γ tm h o = .ok q) (hc : o.op = .defer c) : ∃ g args, q = .defer g args := by
  obtain ⟨dst, op, type, pos, after, guard⟩ := o
  dsimp only at hc
  subst hc
  unfold opA at e
  dsimp only at e
  obtain ⟨as, _, e1⟩ := bd_ok e; clear e
  split at e1
  · simp at e1; exact ⟨_, _, e1.symm⟩
  · obtain ⟨v, _, e2⟩ := bd_ok e1; clear e1
    split at e2
    · simp at e2; exact ⟨_, _, e2.symm⟩
    · simp at e2
  · simp at e1

def loopOf (f : AF) (h : H) : E (Nat × H × List AD) := match f.rnd with
  | none => .ok (h.c, ({ h with m := h.m.set h.c (.defr true), c := h.c + 1 } : H), [AD.coll h.c])
  | some l => match h.m.get l with
    | some (.loop _ _ _ _ _ _ _ _ d) => .ok (d, h, [])
    | _ => .no 216

include r in
theorem enterLoop_ok {f : AF} {d : Nat} {h1 : H} {mark : List AD} {tmps : Array Value} {rnd : Option Nat} {params : Array Tmp} {assign body : Code} (e : loopOf f h = .ok (d, h1, mark)) (ht : TR γ f.nt f.tm tmps)
    (h7 : match f.rnd with | none => rnd = none | some l => ∃ x, γ l = some x ∧ rnd = some x.blk) :
    ∃ γ2 fm w2 x, γ.le γ2 ∧ (Instr.enterLoop f.fn tmps params assign body rnd).run P w = .ok (x.blk, fm) w2 ∧
      Rel pr Γ.ng γ2 { h1 with m := h1.m.set h1.c (.loop .ready none f.fn f.tm f.nt params.toList assign body d), c := h1.c + 1 } w2 ∧ WK w w2 ∧ All2 (DfR γ2) mark fm ∧ γ2 h1.c = some x := by
  have last : ∀ {γ1 : Gm} {w1 : World} (r1 : Rel pr Γ.ng γ1 h1 w1) (ht1 : TR γ1 f.nt f.tm tmps) {y : Bl} (hy : γ1 d = some y),
      Rel pr Γ.ng (γ1.put h1.c ⟨w1.heap.size, 0, 0⟩) { h1 with m := h1.m.set h1.c (.loop .ready none f.fn f.tm f.nt params.toList assign body d), c := h1.c + 1 }
        { w1 with heap := w1.heap.push (.loop { state := .ready, pending := none, fn := f.fn, tmps, params, assign, body, defers := y.blk }) } := by
    intro γ1 w1 r1 ht1 y hy
    refine r1.new _ _ 0 (by intros; simp) ?_
    intro γ' g w' hw hp
    exact ⟨_, hw, ⟨rfl, rfl, rfl, ht1.mono g, rfl, rfl, rfl, y, g _ _ hy, rfl⟩, hp⟩
  unfold loopOf at e
  split at e
  · rename_i hrn
    rw [hrn] at h7
    dsimp only at h7
    subst h7
    simp at e
    obtain ⟨rfl, rfl, rfl⟩ := e
    have g1 : γ.le (γ.put h.c ⟨w.heap.size, 0, 0⟩) := Gm.le_put (r.fresh _ (Nat.le_refl _))
    have r1 := r.new (.deferred (some [])) (.defr true) 0 (by intros; simp) (fun γ' g w' hw hp => ⟨by simpa using hw, hp⟩)
    have hy : (γ.put h.c ⟨w.heap.size, 0, 0⟩) h.c = some ⟨w.heap.size, 0, 0⟩ := by simp [Gm.put]
    have r2 := last r1 (ht.mono g1) hy
    have g2 : (γ.put h.c ⟨w.heap.size, 0, 0⟩).le ((γ.put h.c ⟨w.heap.size, 0, 0⟩).put (h.c + 1) ⟨w.heap.size + 1, 0, 0⟩) := Gm.le_put (r1.fresh _ (Nat.le_refl _))
    refine ⟨(γ.put h.c ⟨w.heap.size, 0, 0⟩).put (h.c + 1) ⟨w.heap.size + 1, 0, 0⟩, [{ target := .collected w.heap.size, args := #[] }],
      (w.alloc (.deferred (some []))).alloc (.loop { state := .ready, pending := none, fn := f.fn, tmps, params, assign, body, defers := w.heap.size }), ⟨w.heap.size + 1, 0, 0⟩, Gm.le_trans g1 g2, ?_, ?_, ⟨rfl, rfl, rfl, ?_⟩, .cons ⟨_, g2 _ _ hy, rfl⟩ .nil, by simp [Gm.put]⟩
    · simp [Instr.enterLoop]
    · simp only [Array.size_push] at r2; exact r2
    · simp; try omega
  · rename_i l hrn
    rw [hrn] at h7
    obtain ⟨x, hx, rfl⟩ := h7
    split at e
    · rename_i s0 pe fn tm nt ps a b d' hg
      simp at e
      obtain ⟨rfl, rfl, rfl⟩ := e
      obtain ⟨L, g1, g2, g3⟩ := loop_ok r hg hx
      obtain ⟨y, hy, hyd⟩ := g2.2.2.2.2.2.2.2
      have hgl : (Instr.getLoop x.blk).run P w = .ok L w := by simp [Instr.getLoop, run_getObj g1 rfl]
      have r2 := last r ht hy
      refine ⟨γ.put h.c ⟨w.heap.size, 0, 0⟩, [], _, ⟨w.heap.size, 0, 0⟩, Gm.le_put (r.fresh _ (Nat.le_refl _)), ?_, r2, wk_push _ _, .nil, by simp [Gm.put]⟩
      rw [← hyd]
      simp [Instr.enterLoop, hgl]
    · simp at e

include G r in
theorem execA_ok (hn : pr.nr ≤ w.heap.size) {Z : Nat × Obj} (hz : pr Z.1 = some Z.2) (hF0 : FieldsOk P Γ Z) {big : AF → H → E BR} (hD : DrawOk P Γ Z big) {f : AF} {cs : List AF} {st : St} (e : execA Γ big f cs h = .ok st) {fr : Frame} {fcs base : List Frame}
    (hF : FR γ f fr) (hC : All2 (FR γ) cs fcs) (hm : f.mode = .run) :
    Nxt P Γ pr γ w (lone fr (fcs ++ base) w) base st := by
  have hmode : fr.mode = .run := by have := hF.mode; rw [hm] at this; generalize fr.mode = m at this; cases this; rfl
  have hF' := hF
  obtain ⟨fn, tmps, todo, defers, mode, kind, rnd⟩ := fr
  simp only at hmode
  subst hmode
  obtain ⟨h1, h2, h3, h4, h5, h6, h7⟩ := hF
  dsimp only at h1 h2 h3 h4 h5 h6 h7
  unfold execA at e
  split at e
  · rename_i ht
    rw [ht] at h3; cases h3
    exact leaveA_ok r e hF' hC hm (.fin rfl)
  · rename_i all o rem k ht
    rw [ht] at h3
    cases h3 with
    | cons hi hk =>
      rename_i fi fk
      generalize hrem : o :: rem = orem at hi
      cases hi with
      | ops A i =>
        obtain ⟨hlt, ho, hr⟩ := drop_cons hrem.symm
        have ho' : A[i]? = some o := by simpa using ho
        have hlt' : i < A.size := by simpa using hlt
        rw [range_cons hlt'] at hF' ⊢
        obtain ⟨wb, hw, e1⟩ := bd_ok e; clear e
        have hw' := wanted_ok h2 hw
        split at e1
        · obtain ⟨q, hq, e2⟩ := bd_ok e1; clear e1
          have hO := opA_ok (P := P) G r (act := ⟨tmps, defers⟩) h2 hq
          have hdf : rnd = none ∨ ∀ c, o.op ≠ .defer c := by
            cases hrn : f.rnd with
            | none => rw [hrn] at h7; exact .inl h7
            | some l =>
              refine .inr fun c hc => ?_
              obtain ⟨g, args, rfl⟩ := opA_defer hq hc
              unfold applyA at e2
              dsimp only at e2
              rw [hrn] at e2
              simp at e2
          exact applyA_ok G r hz hF0 e2 hF' hC hO (by rw [stepG_opG ho' hw' hdf])
        · obtain ⟨f', hf, e2⟩ := bd_ok e1; clear e1
          simp at e2; subst e2
          obtain ⟨fr', g1, g2⟩ := finish_ok (P := P) hF' hf (VR.undef γ)
          exact ⟨γ, fr', fcs, w, Gm.le_refl _, r, g1, hC, WK.refl _, Steps.trans (.one (st_opSkip ho' hw')) (g2 _ _)⟩
  · rename_i all k ht
    rw [ht] at h3
    cases h3 with
    | cons hi hk =>
      rename_i fi fk
      simp at e; subst e
      generalize hrem : ([] : List Oper) = orem at hi
      cases hi with
      | ops A i =>
        have : A.size - i = 0 := by have := congrArg List.length hrem; simp at this; omega
        rw [this]
        exact one_go r ⟨h1, h2, hk, h4, h5, h6, h7⟩ hC st_regionEnd
  · rename_i id k ht
    rw [ht] at h3
    cases h3 with
    | cons hi hk =>
      cases hi
      simp at e; subst e
      exact one_go r ⟨h1, h2, hk, h4, h5, h6, h7⟩ hC st_inBlock
  · rename_i id k ht
    rw [ht] at h3
    cases h3 with
    | cons hi hk =>
      cases hi
      simp at e; subst e
      exact one_go r ⟨h1, h2, hk, h4, h5, h6, h7⟩ hC st_inScope
  · rename_i body k ht
    rw [ht] at h3
    cases h3 with
    | cons hi hk =>
      cases hi
      simp at e; subst e
      exact one_go r ⟨h1, h2, .cons (.code _) (.cons (.inLoop _) hk), h4, h5, h6, h7⟩ hC st_inLoop
  · rename_i c k ht
    rw [ht] at h3
    cases h3 with
    | cons hi hk =>
      rename_i fi fk
      cases hi
      split at e
      · simp at e; subst e
        exact one_go r ⟨h1, h2, .cons (.code _) (.cons (.code _) hk), h4, h5, h6, h7⟩ hC st_seq
      · rename_i id ops
        simp at e; subst e
        refine one_go r (fr' := ⟨fn, tmps, .inRegion ops (List.range ops.size) :: fk, defers, .run, kind, rnd⟩) ⟨h1, h2, .cons ?_ hk, h4, h5, h6, h7⟩ hC st_region
        have := IR.ops (γ := γ) ops 0
        simpa [List.range_eq_range'] using this
      · rename_i id ops
        obtain ⟨res, hg, e2⟩ := bd_ok e; clear e
        obtain ⟨t, ht2⟩ : ∃ t, (choose (.order fn id)).run P w = .ok t { w with drawn := w.drawn + 1 } := ⟨_, rfl⟩
        have hs1 : step P (lone ⟨fn, tmps, .code (.region id ops true) :: fk, defers, .run, kind, rnd⟩ (fcs ++ base) w) =
            .next (lone ⟨fn, tmps, .inRegion ops (Region.schedule (P.follows .mixedOrders) ops t) :: fk, defers, .run, kind, rnd⟩ (fcs ++ base) { w with drawn := w.drawn + 1 }) :=
          step_lone_go (by simp [stepG, stepG.exec, ht2])
        have r1 : Rel pr Γ.ng γ h { w with drawn := w.drawn + 1 } := r.drew rfl
        have wk1 : WK w { w with drawn := w.drawn + 1 } := ⟨rfl, rfl, rfl, Nat.le_refl _⟩
        have hd := hD (w := { w with drawn := w.drawn + 1 }) hn hz r1 h2 hg t fn defers kind rnd fk (fcs ++ base)
        cases res with
        | go tm' h' =>
          simp at e2; subst e2
          obtain ⟨γ', tmps', w', g, r', ht', wk, hst⟩ := hd
          have hm5 := (MR.mono g h5)
          exact ⟨γ', ⟨fn, tmps', fk, defers, .run, kind, rnd⟩, fcs, w', g, r', ⟨h1, ht', hk.imp fun _ _ q => q.mono g, h4.imp fun _ _ q => q.mono g, hm5, h6, (hF'.mono g).rnd⟩, hC.imp fun _ _ q => q.mono g, wk1.trans wk, Steps.trans (.one hs1) hst⟩
        | pan ch h' =>
          obtain ⟨γ', tmps', rest, ch', w', g, r', hch, wk, hst⟩ := hd
          dsimp only at e2
          split at e2
          · rename_i hdn
            rw [hdn] at h4
            cases h4
            cases hC with
            | nil =>
              simp at e2; subst e2
              exact ⟨γ', _, ch', w', g, r', hch, wk1.trans wk, Steps.trans (.one hs1) hst, rfl, rfl, by unfold Frame.catches; split <;> simp_all⟩
            | cons hc hcs =>
              rename_i c fc cs' fcs'
              simp at e2; subst e2
              refine ⟨γ', fc.raise ch', fcs', w', g, r', raise_ok (hc.mono g) hch, hcs.imp fun _ _ q => q.mono g, wk1.trans wk, Steps.trans (.one hs1) (Steps.trans hst (.one (step_lone_go ?_)))⟩
              rw [stepG_unwind (by simp)]
              have : Frame.catches P ⟨fn, tmps', .inRegion ops rest :: fk, [], .panicking ch', kind, rnd⟩ = false := by unfold Frame.catches; split <;> simp_all
              simp [unwind, this]
          · simp at e2
      · rename_i c thn els
        obtain ⟨v, hv, e1⟩ := bd_ok e; clear e
        have hvr := ev_ok (act := ⟨tmps, defers⟩) r h2 hv
        split at e1
        · rename_i b
          simp at e1; subst e1
          generalize hvv : (Act.mk tmps defers).eval c = vv at hvr
          cases hvr
          refine one_go r ⟨h1, h2, .cons ?_ hk, h4, h5, h6, h7⟩ hC (st_cond hvv)
          cases b <;> exact .code _
        · simp at e1
      · simp at e; subst e
        exact one_go r ⟨h1, h2, hk, h4, h5, h6, h7⟩ hC st_skip
      · simp at e; subst e
        exact one_go r ⟨h1, h2, hk, h4, h5, h6, h7⟩ hC st_label
      · simp at e; subst e
        exact one_go r ⟨h1, h2, .cons (.code _) (.cons (.inBlock _) hk), h4, h5, h6, h7⟩ hC st_block
      · simp at e; subst e
        exact one_go r ⟨h1, h2, .cons (.code _) (.cons (.inLoop _) hk), h4, h5, h6, h7⟩ hC st_loop
      · simp at e; subst e
        exact one_go r ⟨h1, h2, .cons (.code _) (.cons (.inScope _) hk), h4, h5, h6, h7⟩ hC st_scope
      · rename_i id
        split at e
        · rename_i k' hq
          simp at e; subst e
          obtain ⟨fk', g1, g2⟩ := exit_ok hq hk
          exact one_go r ⟨h1, h2, g2, h4, h5, h6, h7⟩ hC (st_exit g1)
        · rename_i hq
          exact leaveA_ok r e hF' hC hm (.exit id fk rfl (exit_none hq hk))
      · rename_i l
        split at e
        · rename_i k' hq
          simp at e; subst e
          obtain ⟨fk', g1, g2⟩ := goto_ok hq hk
          exact one_go r ⟨h1, h2, g2, h4, h5, h6, h7⟩ hC (st_goto g1)
        · rename_i hq
          exact leaveA_ok r e hF' hC hm (.goto l fk rfl (goto_none hq hk))
      · exact leaveA_ok r e hF' hC hm (.ret fk rfl)
      · rename_i x params assign body
        obtain ⟨⟨d, hh1, mark⟩, hl, e1⟩ := bd_ok e; clear e
        obtain ⟨v, hv, e2⟩ := bd_ok e1; clear e1
        subst h1
        obtain ⟨γ2, fm, w2, y, g, hrun, r2, wk, hmk, hy⟩ := enterLoop_ok (P := P) (params := params) (assign := assign) (body := body) r (show loopOf f h = _ from hl) h2 h7
        have hvr := (ev_ok (act := ⟨tmps, defers⟩) r h2 hv).mono g
        split at e2
        · rename_i gg first captured
          obtain ⟨q, hq, e3⟩ := bd_ok e2; clear e2
          generalize hvo : (Act.mk tmps defers).eval x = vo at hvr
          cases hvr with
          | func hf hcp =>
            rename_i a' c'
            have hargs : VRL γ2 (first ++ ([.yieldv hh1.c] ++ captured)) (a' ++ #[Value.func (.yield y.blk) #[] #[]] ++ c').toList := by
              simp only [Array.toList_append, List.append_assoc]
              exact hf.append (VRL.append (.cons (.yieldv hy) .nil) hcp)
            have hO := callF_ok (P := P) (pr := pr) (w := w2) hq hargs
            have hst : (stepG P true (one ⟨f.fn, tmps, .code (.rangeFunc x params assign body) :: fk, defers, .run, kind, rnd⟩ (fcs ++ base)) w).bare =
                (stepG.apply P true ⟨f.fn, tmps, .inRangeFunc y.blk :: fk, fm ++ defers, .run, kind, rnd⟩ (fcs ++ base) none (callFunc gg (a' ++ #[Value.func (.yield y.blk) #[] #[]] ++ c')) w2).bare := by
              have he : (⟨f.fn, tmps, .inRangeFunc y.blk :: fk, fm ++ defers, .run, kind, rnd⟩ : Frame).eval x = .func (.func gg) a' c' := by rw [← hvo]; cases x <;> rfl
              have hee : ∀ v, (⟨f.fn, tmps, .inRangeFunc y.blk :: fk, fm ++ defers, .run, kind, rnd⟩ : Frame).eval (.const v) = v := fun v => rfl
              simp only [stepG, stepG.exec, Sem.runT_eq, hrun]
              simp [resolve, he, hee, Deferred.ofValue, invoke]
            exact Nxt.lift g wk (Steps.refl _ _) (applyA_ok G r2 hz hF0 e3 (fr := ⟨f.fn, tmps, .inRangeFunc y.blk :: fk, fm ++ defers, .run, kind, rnd⟩) ⟨rfl, h2.mono g, .cons (.inRF hy) (hk.imp fun _ _ q => q.mono g), hmk.append (h4.imp fun _ _ q => q.mono g), h5.mono g, h6, (hF'.mono g).rnd⟩ (hC.imp fun _ _ q => q.mono g) hO hst)
        · simp at e2
      · simp at e
  · rename_i k ht
    rw [ht] at h3
    cases h3 with
    | cons hi hk =>
      rename_i fi fk
      cases hi
      split at e
      · rename_i l hrn
        rw [hrn] at h7
        obtain ⟨x, hx, hro⟩ := h7
        subst hro
        split at e
        · rename_i pe fn' tm nt ps a b d hg
          simp at e; subst e
          obtain ⟨L, g1, g2, g3⟩ := loop_ok r hg hx
          have r' := g3 .busy pe
          have hLs : L.state = .ready := g2.1
          have hgl : (Instr.getLoop x.blk).run P w = .ok L w := by simp [Instr.getLoop, run_getObj g1 rfl]
          have hpe : L.pending = pe := g2.2.1
          have hr : (Instr.beginRound x.blk).run P w = .ok () { w with heap := w.heap.setIfInBounds x.blk (.loop { L with state := .busy, pending := pe }) } := by
            subst hpe
            simp [Instr.beginRound, hgl, run_setObj g1 rfl, hLs]
          have hst : (stepG P true (one ⟨fn, tmps, .beginRound :: fk, defers, .run, kind, some x.blk⟩ (fcs ++ base)) w).bare = (stepG.apply P true ⟨fn, tmps, .beginRound :: fk, defers, .run, kind, some x.blk⟩ (fcs ++ base) none (do Instr.beginRound x.blk; pure .skip) w).bare := by
            simp [stepG, stepG.exec]
          refine ⟨γ, ⟨fn, tmps, fk, defers, .run, kind, some x.blk⟩, fcs, _, Gm.le_refl _, r', ⟨h1, h2, hk, h4, h5, h6, by dsimp only; rw [hrn]; exact ⟨x, hx, rfl⟩⟩, hC, wk_set _ _ _, .one (ap_skip hst (by simp [hr]))⟩
        · simp at e
      · simp at e
  · rename_i l k ht
    rw [ht] at h3
    cases h3 with
    | cons hi hk =>
      rename_i fi fk
      cases hi with
      | endRF hx =>
        rename_i x
        split at e
        · rename_i s0 p fn' tm nt ps a b d hg
          obtain ⟨L, g1, g2, g3⟩ := loop_ok r hg hx
          have hLs : L.state = s0 := g2.1
          have hpe : L.pending = p := g2.2.1
          split at e
          · simp at e
          · rename_i hnb
            simp at e; subst e
            have r' := g3 .exhausted p
            have hgl : (Instr.getLoop x.blk).run P w = .ok L w := by simp [Instr.getLoop, run_getObj g1 rfl]
            have hb : L.state ≠ .busy := by rw [hLs]; exact hnb
            have hr : (Instr.endLoop x.blk).run P w = .ok p { w with heap := w.heap.setIfInBounds x.blk (.loop { L with state := .exhausted, pending := p }) } := by
              subst hpe
              simp [Instr.endLoop, hgl, run_setObj g1 rfl, hb]
            refine ⟨γ, ⟨fn, tmps, (p.map Item.code).toList ++ fk, defers, .run, kind, rnd⟩, fcs, _, Gm.le_refl _, r', ⟨h1, h2, ?_, h4, h5, h6, h7⟩, hC, wk_set _ _ _, .one (step_lone_go (by simp [stepG, stepG.exec, hr]))⟩
            cases p with
            | none => exact hk
            | some c => exact .cons (.code c) hk
        · simp at e
  · simp at e
end
end Go.Vex
