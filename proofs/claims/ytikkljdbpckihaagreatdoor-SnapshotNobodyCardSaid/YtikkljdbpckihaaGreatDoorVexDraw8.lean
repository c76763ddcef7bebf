/- Part VexDraw8 of a checked interpreter for closed calls: what it answers, the machine of the model answers; its conditions are those of its theorems. -/
import Derived.Test.YtikkljdbpckihaaGreatDoorVexDraw7
set_option linter.unusedSimpArgs false
set_option linter.unusedVariables false
namespace Go.Vex

theorem opA_noSelect {Γ : Env} {tm : T AV} {h : H} {o : Oper} {q : R} (e : opA Γ tm h o = .ok q) : ∀ cs b, o.op ≠ .select cs b := by
  intro cs b hc
  obtain ⟨dst, op, type, pos, after, guard⟩ := o
  dsimp only at hc
  subst hc
  simp [opA] at e
theorem allocA_noSelect {Γ : Env} {tm : T AV} {o : Oper} {q : AB × NewV} (e : allocA Γ tm o = .ok q) : ∀ cs b, o.op ≠ .select cs b := by
  intro cs b hc
  obtain ⟨dst, op, type, pos, after, guard⟩ := o
  dsimp only at hc
  subst hc
  simp [allocA] at e

section
variable {Γ : Env} {big : AF → H → E BR} {ops : List Oper} {ms : T Nat} {nt c0 : Nat} {s0 F : PG} {S : Nat → PG}
  (W : WF ops ms nt ops.length) (t : Tr Γ big ops ms nt c0 s0 F S) (h0 : s0.hs = [] ∧ s0.vs = [] ∧ s0.pend = [] ∧ s0.dd = none)

include t h0 in
theorem Tr.hsNodup {a : Nat} (ha : a ≤ ops.length) : (S a).hs.Nodup := by
  induction a with
  | zero => rw [t.s0, h0.1]; simp
  | succ a ih =>
    have ih := ih (by omega)
    obtain ⟨_, i2, _⟩ := t.inv h0 (a := a) (by omega)
    obtain ⟨o, _, h⟩ := t.stepAt (j := a) (by omega)
    generalize S a = s at h ih i2
    generalize S (a + 1) = s' at h
    cases h with
    | heavy => exact List.nodup_cons.2 ⟨fun hm => by have := i2 a hm; omega, ih⟩
    | _ => exact ih

include t in
theorem Tr.hsConst {a : Nat} (ha : a ≤ ops.length) {p : Nat × List (AV × Bool) × H} (h : (S a).dd = some p) : (S ops.length).hs = (S a).hs := by
  have := up (S := S) (n := ops.length) (fun s s' => s.dd = some p → s'.dd = some p ∧ s'.hs = s.hs) (fun s q => ⟨q, rfl⟩) (fun a b c p q h => ⟨(q (p h).1).1, (q (p h).1).2.trans (p h).2⟩) (fun j hj => by
    obtain ⟨o, _, h⟩ := t.stepAt hj
    generalize S j = s at h ⊢
    generalize S (j + 1) = s' at h ⊢
    intro q
    cases h with
    | heavy v h2 tm' w hd hw hc0 hc1 hc2 hb hn hv hs => rw [hn] at q; simp at q
    | panic ch h2 hd hw hc0 hc1 hc2 hb hn hv => rw [hn] at q; simp at q
    | _ => exact ⟨q, rfl⟩) ha (Nat.le_refl _)
  exact (this h).2

variable {P : Program} {pr0 pr : Pr} {listed : Array Bool} {j : Nat} {γ γ' : Gm} {tmps : Array Value} {w w' : World}

include W t h0 in
/-- a heavy one has run -/
theorem Inv.ran (I : Inv P Γ ops ms nt c0 s0.tm F S pr0 listed j pr γ tmps w) {x : Nat} {o : Oper} (hx : x < ops.length) (ho : ops[x]? = some o)
    (hm : ∀ k, hasBit (msk ms x) k = true → listed.getD k false = true) (hxj : F.hs.reverse[j]? = some x) {h2 : H} (hV : (F.h :: F.vs).reverse[j + 1]? = some h2) (g : γ.le γ') {pr1 : Pr} (r : Rel pr1 Γ.ng γ' h2 w') (wk : WK w w')
    {v : AV} {v' : Value} (hv : VR γ' v v') (hF : ∀ d, o.dst = some d → F.tm.get d = some v) (hna : ∀ p, ¬ AllocAt Γ ops ms S x p)
    (hd : (S (x + 1)).dd = (S x).dd) (p2 : pr1.nr = pr.nr) (p3 : pr1.rv = pr.rv) (p4 : ∀ b o, pr0 b = some o → pr1 b = some o)
    (p5 : ∀ i ab, i < ops.length → (∀ ab', (i, ab') ∈ (S x).pend → hasBit (msk ms x) i = false) → Waits pr0 pr c0 γ i ab → Waits pr0 pr1 c0 γ i ab) :
    Inv P Γ ops ms nt c0 s0.tm F S pr0 (listed.setIfInBounds x true) (j + 1) pr1 γ' (match o.dst with | some d => tmps.setIfInBounds d v' | none => tmps) w' := by
  have hg := fun i => set_getD (l := listed) (x := x) (i := i) (by rw [I.lsz]; exact hx)
  have hjl : j < F.hs.reverse.length := by
    rcases Nat.lt_or_ge j F.hs.reverse.length with q | q
    · exact q
    · rw [List.getElem?_eq_none q] at hxj; simp at hxj
  have hjl2 : j + 1 ≤ F.hs.length := by
    rw [List.length_reverse] at hjl; exact hjl
  have hnd : F.hs.reverse.Nodup := by
    have := t.hsNodup h0 (Nat.le_refl _)
    rw [t.fin] at this
    exact List.pairwise_reverse.2 (this.imp fun h => h.symm)
  have hone : ∀ m, F.hs.reverse[m]? = some x → m = j := by
    intro m hmx
    have hml : m < F.hs.reverse.length := by
      rcases Nat.lt_or_ge m F.hs.reverse.length with q | q
      · exact q
      · rw [List.getElem?_eq_none q] at hmx; simp at hmx
    have e1 : F.hs.reverse[m] = x := by rw [List.getElem?_eq_getElem hml] at hmx; exact Option.some.inj hmx
    have e2 : F.hs.reverse[j] = x := by rw [List.getElem?_eq_getElem hjl] at hxj; exact Option.some.inj hxj
    have hpw := List.pairwise_iff_getElem.1 hnd
    rcases Nat.lt_trichotomy m j with q | q | q
    · exact absurd (e1.trans e2.symm) (hpw m j hml hjl q)
    · exact q
    · exact absurd (e2.trans e1.symm) (hpw j m hjl hml q)
  refine ⟨by simp [I.lsz], ?_, ?_, hjl2, ?_, ⟨h2, hV, r⟩, p2.trans I.nr, p4, fun b v e => by rw [p3]; exact I.rext b v e, I.sl.put (W := W) g hx I.lsz ho hv hF, Nat.le_trans I.hn wk.size, ?_, ?_, ?_, ?_⟩
  · intro i hi hl k hk
    rw [hg] at hl ⊢
    by_cases e : i = x
    · subst e; rw [hm k hk]; simp
    · rw [if_neg e] at hl; rw [I.down i hi hl k hk]; simp
  · intro p hp
    rw [hg, if_neg (t.dd_ne h0 hx hd p hp)]; exact I.alive p hp
  · intro m y hy
    rw [hg]
    by_cases e : y = x
    · subst e
      have := hone m hy
      subst this; simp
    · rw [if_neg e]
      have hne : m ≠ j := fun q => by subst q; rw [hxj] at hy; cases hy; exact e rfl
      have := I.ver m y hy
      constructor
      · intro q; have := this.1 q; omega
      · intro q; exact this.2 (by omega)
  · intro i hi hl
    rw [hg] at hl
    split at hl
    · simp at hl
    · rw [p3]; exact I.un i hi hl
  · intro i p hi hl ha hb
    by_cases e : i = x
    · subst e; exact absurd ha (hna p)
    · rw [hg, if_neg e] at hl
      exact (p5 i p.1 hi (fun _ _ => hb j x (by omega) hxj) (I.pend i p hi hl ha fun m y hmj hy => hb m y (by omega) hy)).mono g
  · intro i i' y y' hii hi hi' hy hy'
    rw [p3] at hy hy'
    exact I.dis i i' y y' hii hi hi' hy hy'
  · intro i y hi hy
    rw [p3] at hy
    have := I.dlt i y hi hy
    have := wk.size
    omega

include W t h0 in
theorem Inv.atHeavyP (I : Inv P Γ ops ms nt c0 s0.tm F S pr0 listed j pr γ tmps w) {x : Nat} (hx : x < ops.length) (hu : listed.getD x false = false)
    (hm : ∀ k, hasBit (msk ms x) k = true → listed.getD k false = true) (hb : allB (msk ms x) (S x).hs = true) {Hj : H} (hHj : (F.h :: F.vs).reverse[j]? = some Hj) (r : Rel pr Γ.ng γ Hj w) :
    (S x).hs.length ≤ j ∧ True ∧ True ∧ ((S x).hs.length = j → ∃ pr1 : Pr, Rel pr1 Γ.ng γ (promo (msk ms x) c0 (S x).pend (S x).h) w ∧ pr1.nr = pr.nr ∧ pr1.rv = pr.rv ∧ (∀ b o, pr0 b = some o → pr1 b = some o) ∧
      ∀ i ab, i < ops.length → (∀ ab', (i, ab') ∈ (S x).pend → hasBit (msk ms x) i = false) → Waits pr0 pr c0 γ i ab → Waits pr0 pr1 c0 γ i ab) := by
  have hall := allB_ok.1 hb
  have hle : (S x).hs.length ≤ j := by
    rcases Nat.lt_or_ge j (S x).hs.length with q | q
    · obtain ⟨y, hy1, hy2⟩ := t.hsAt (Nat.le_of_lt hx) q
      have := (I.ver j y hy1).1 (hm y (hall y hy2))
      omega
    · exact q
  refine ⟨hle, trivial, trivial, fun hj => ?_⟩
  have hver := t.ver h0 (Nat.le_of_lt hx)
  rw [hj, hHj] at hver
  cases hver
  obtain ⟨_, _, _, i4, i5⟩ := t.inv h0 (Nat.le_of_lt hx)
  refine promo_ok i5 (fun i ab hi => ⟨by have := i4 _ hi; simp at this; omega, fun hbi => ?_⟩) I.dis I.ext r
  obtain ⟨⟨p, hp, rfl⟩, hno⟩ := t.pend W h0 (Nat.le_of_lt hx) i ab hi
  refine I.pend i p (by have := i4 _ hi; simp at this; omega) (hm i hbi) hp fun m y hmj hy => ?_
  obtain ⟨y', hy1, hy2⟩ := t.hsAt (a := x) (m := m) (Nat.le_of_lt hx) (by omega)
  rw [hy] at hy1; cases hy1
  exact hno y hy2
end

/-- how a step of the machine in a drawn region ends -/
def After (P : Program) (Γ : Env) (ops : List Oper) (ms : T Nat) (nt c0 : Nat) (tm0 : T AV) (F : PG) (S : Nat → PG) (pr0 : Pr) (listed : Array Bool) (x : Nat) (γ : Gm) (w : World)
    (fr : Frame) (fr' : Array Value → Frame) (cs : List Frame) : Prop :=
  (∃ j' pr' γ' tmps' w', Inv P Γ ops ms nt c0 tm0 F S pr0 (listed.setIfInBounds x true) j' pr' γ' tmps' w' ∧ γ.le γ' ∧ WK w w' ∧ Steps P (lone fr cs w) (lone (fr' tmps') cs w')) ∨
  (∃ ch h2 pr' γ' ch' w', F.dd = some (x, ch, h2) ∧ γ.le γ' ∧ Rel pr' Γ.ng γ' h2 w' ∧ pr'.nr = pr0.nr ∧ (∀ b o, pr0 b = some o → pr' b = some o) ∧ (∀ b v, pr0.rv b = some v → pr'.rv b = some v) ∧
    All2 (PR γ') ch ch' ∧ WK w w' ∧ Steps P (lone fr cs w) (lone (fr.raise ch') cs w'))

section
variable {P : Program} {Γ : Env} (G : EnvOk P Γ) {big : AF → H → E BR} {Z : Nat × Obj} (hB : BigOk P Γ Z big) {A : Array Oper} {ms : T Nat} {nt c0 : Nat} {s0 F : PG} {S : Nat → PG}
  (W : WF A.toList ms nt A.toList.length) (t : Tr Γ big A.toList ms nt c0 s0 F S) (h0 : s0.hs = [] ∧ s0.vs = [] ∧ s0.pend = [] ∧ s0.dd = none)
  (hout : ∀ d, nt ≤ d → s0.tm.get d = none) (hck : chkGo Γ ms F.hs.reverse (F.h :: F.vs).reverse F.rds = true)
  {pr0 pr : Pr} (hz : pr0 Z.1 = some Z.2) {listed : Array Bool} {j : Nat} {γ : Gm} {tmps : Array Value} {w : World}

include G hB W t h0 hout hck hz in
theorem Inv.step (I : Inv P Γ A.toList ms nt c0 s0.tm F S pr0 listed j pr γ tmps w) {x : Nat} {o : Oper} (ho : A[x]? = some o) (hu : listed.getD x false = false)
    (hm : ∀ k, hasBit (msk ms x) k = true → listed.getD k false = true) (fn : FuncId) (rs : List Nat) (k : List Item) (ds : List Deferred) (kind : CallKind) (rnd : Option Nat) (cs : List Frame) :
    After P Γ A.toList ms nt c0 s0.tm F S pr0 listed x γ w (atOp fn tmps A x rs k ds kind rnd) (fun tm => ⟨fn, tm, .inRegion A rs :: k, ds, .run, kind, rnd⟩) cs := by
  have hol : A.toList[x]? = some o := by simpa using ho
  have hx : x < A.toList.length := by
    have := lt_of_get ho; simpa using this
  obtain ⟨o', ho', hst⟩ := t.stepAt hx
  rw [hol] at ho'; cases ho'
  obtain ⟨tmps', hTR, hag⟩ := I.sl.look W t hout I.down hx hol hu hm
  obtain ⟨Hj, hHj, r⟩ := I.rel
  have hwant : ∀ b, wantedA o A.toList (S x).tm = .ok b → Region.wanted o (yielded A tmps) = b := by
    intro b hb
    rw [← wanted_slots hag]
    exact wanted_ok hTR (by rw [wanted_restr]; exact hb)
  have hfin := fun v => finish_op (fn := fn) (tmps := tmps) (k := k) (kind := kind) (rnd := rnd) (rest := rs) ho .run ds v
  have hdead : dead (S x).dd (msk ms x) = false := by
    cases hq : (S x).dd with
    | none => rfl
    | some p =>
      have hF : F.dd = some p := by rw [← t.fin]; exact t.dd (Nat.le_of_lt hx) (Nat.le_refl _) hq
      have hal := I.alive p hF
      cases hb : hasBit (msk ms x) p.1 with
      | false => simp [dead, hb]
      | true => rw [hm _ hb] at hal; simp at hal
  generalize hs : S x = s at hst
  generalize hs' : S (x + 1) = s' at hst
  have hdd : ∀ d, s'.dd = d → s.dd = d → (S (x + 1)).dd = (S x).dd := fun d h1 h2 => by rw [hs, hs', h1, h2]
  cases hst with
  | dead hd => rw [hs] at hdead; rw [hdead] at hd; simp at hd
  | pur v tm' wb hd hw hc hv hsd =>
    have hF : ∀ d, o.dst = some d → F.tm.get d = some v := fun d hd' => t.written W hx hol hd' (by rw [hs, hs']; exact hsd)
    have hna : ∀ p, ¬ AllocAt Γ A.toList ms S x p := fun p ⟨o2, a1, a2, _⟩ => by rw [hol] at a1; cases a1; rw [hc] at a2; simp at a2
    have hwb := hwant wb (by rw [hs]; exact hw)
    rcases hv with ⟨rfl, h', hop⟩ | ⟨rfl, rfl⟩
    · obtain ⟨v2, e2, hall⟩ := opA_pur (Γ := Γ) (tm := restr s.tm (tmpsOf o A.toList)) hc _ _ hop
      cases e2
      have hop2 := hall Hj
      rw [hs] at hTR
      have hO := opA_ok (P := P) G r (act := ⟨tmps', ds⟩) hTR hop2
      rw [← exec_slots (opA_noSelect hop2) hag] at hO
      obtain ⟨γ', v', w', g, hr, hvr, r', wk⟩ := hO
      have hdf : rnd = none ∨ ∀ c, o.op ≠ .defer c := .inr fun c hcd => by rw [hcd] at hc; simp [cls] at hc
      refine .inl ⟨j, pr, γ', _, w', I.keep W t h0 hx hol hm hHj g r' wk hvr hF hna (by rw [hs, hs']) (by rw [hs, hs']), g, wk, .one ?_⟩
      have hz := st_val (fn := fn) (tmps := tmps) (rest := rs) (k := k) (kind := kind) (cs := cs) ho hwb hdf hr; rw [hfin] at hz; exact hz
    · refine .inl ⟨j, pr, γ, _, w, I.keep W t h0 hx hol hm hHj (Gm.le_refl _) r (WK.refl _) (VR.undef γ) hF hna (by rw [hs, hs']) (by rw [hs, hs']), Gm.le_refl _, WK.refl _, .one ?_⟩
      have hz := st_opSkip (P := P) (fn := fn) (tmps := tmps) (defers := ds) (rest := rs) (k := k) (kind := kind) (rnd := rnd) (cs := cs) (w := w) ho hwb; rw [hfin] at hz; exact hz
  | read v tm' hd hw hc hv hsd =>
    have hF : ∀ d, o.dst = some d → F.tm.get d = some v := fun d hd' => t.written W hx hol hd' (by rw [hs, hs']; exact hsd)
    have hna : ∀ p, ¬ AllocAt Γ A.toList ms S x p := fun p ⟨o2, a1, a2, _⟩ => by rw [hol] at a1; cases a1; rw [hc] at a2; simp at a2
    have hwb := hwant true (by rw [hs]; exact hw)
    have hmem : (x, o, restr s.tm (tmpsOf o A.toList), v) ∈ F.rds := by
      rw [← t.fin]
      refine t.rds (a := x + 1) (by omega) (Nat.le_refl _) ?_
      rw [hs']; simp
    have hchk := chkGo_ok hck _ _ _ _ hmem
    obtain ⟨h', hop2⟩ := chkV_ok hchk (j := j) (by simpa using I.jk) (fun m y hmj hy => by
        have hl := (I.ver m y hy).2 hmj
        cases hb : hasBit (msk ms y) x with
        | false => rfl
        | true =>
          have hyn : y < A.toList.length := by
            have hyF : y ∈ F.hs := by have := List.mem_of_getElem? hy; simpa using this
            rw [← t.fin] at hyF
            exact ((t.marks h0 (Nat.le_refl _)).2 y hyF).1
          rw [I.down y hyn hl x hb] at hu; simp at hu) (fun m y hmj hy => by
        cases hb : hasBit (msk ms x) y with
        | false => rfl
        | true => have := (I.ver m y hy).1 (hm y hb); omega) hHj
    obtain ⟨v2, e2⟩ := opA_read hc hop2
    cases e2
    rw [hs] at hTR
    have hO := opA_ok (P := P) G r (act := ⟨tmps', ds⟩) hTR hop2
    rw [← exec_slots (opA_noSelect hop2) hag] at hO
    obtain ⟨γ', v', w', g, hr, hvr, r', wk⟩ := hO
    have hdf : rnd = none ∨ ∀ c, o.op ≠ .defer c := .inr fun c hcd => by rw [hcd] at hc; simp [cls] at hc
    refine .inl ⟨j, pr, γ', _, w', I.keep W t h0 hx hol hm hHj g r' wk hvr hF hna (by rw [hs, hs']) (by rw [hs, hs']), g, wk, .one ?_⟩
    have hz := st_val (fn := fn) (tmps := tmps) (rest := rs) (k := k) (kind := kind) (cs := cs) ho hwb hdf hr; rw [hfin] at hz; exact hz
  | skip tm' hd hw hc hsd =>
    have hF : ∀ d, o.dst = some d → F.tm.get d = some (.tuple []) := fun d hd' => t.written W hx hol hd' (by rw [hs, hs']; exact hsd)
    have hna : ∀ p, ¬ AllocAt Γ A.toList ms S x p := fun p ⟨o2, a1, a2, a3, _⟩ => by rw [hol] at a1; cases a1; rw [hs, hw] at a3; simp at a3
    have hwb := hwant false (by rw [hs]; exact hw)
    refine .inl ⟨j, pr, γ, _, w, I.keep W t h0 hx hol hm hHj (Gm.le_refl _) r (WK.refl _) (VR.undef γ) hF hna (by rw [hs, hs']) (by rw [hs, hs']), Gm.le_refl _, WK.refl _, .one ?_⟩
    have hz := st_opSkip (P := P) (fn := fn) (tmps := tmps) (defers := ds) (rest := rs) (k := k) (kind := kind) (rnd := rnd) (cs := cs) (w := w) ho hwb; rw [hfin] at hz; exact hz
  | alloc p tm' hd hw hc ha hsd =>
    have hF : ∀ d, o.dst = some d → F.tm.get d = some (p.2.at (c0 + x)) := fun d hd' => t.written W hx hol hd' (by rw [hs, hs']; exact hsd)
    have hwb := hwant true (by rw [hs]; exact hw)
    rw [hs] at hTR
    have hA := allocA_ok (P := P) G r (act := ⟨tmps', ds⟩) hTR ha
    rw [← exec_slots (allocA_noSelect ha) hag] at hA
    obtain ⟨pr', γ', v', w', hr, g, wk, I'⟩ := I.made W t h0 hx hol hu hm hA hF (fun q ⟨o2, a1, _, _, a4⟩ => by
      rw [hol] at a1; cases a1; rw [hs, ha] at a4; simp at a4; exact a4.symm) (by rw [hs, hs']) (by rw [hs, hs'])
    have hdf : rnd = none ∨ ∀ c, o.op ≠ .defer c := .inr fun c hcd => by rw [hcd] at hc; simp [cls] at hc
    refine .inl ⟨j, pr', γ', _, w', I', g, wk, .one ?_⟩
    have hz := st_val (fn := fn) (tmps := tmps) (rest := rs) (k := k) (kind := kind) (cs := cs) ho hwb hdf hr; rw [hfin] at hz; exact hz
  | heavy v h2 tm' wb hd hw hc0 hc1 hc2 hb hn hv hsd =>
    have hF : ∀ d, o.dst = some d → F.tm.get d = some v := fun d hd' => t.written W hx hol hd' (by rw [hs, hs']; exact hsd)
    have hna : ∀ p, ¬ AllocAt Γ A.toList ms S x p := fun p ⟨o2, a1, a2, _⟩ => by rw [hol] at a1; cases a1; exact hc2 a2
    have hwb := hwant wb (by rw [hs]; exact hw)
    obtain ⟨hle, _, _, hK⟩ := I.atHeavyP W t h0 hx hu hm (by rw [hs]; exact hb) hHj r
    have hxj : F.hs.reverse[j]? = some x := by
      have q := t.hs (a := x + 1) (b := A.toList.length) (by omega) (Nat.le_refl _)
      rw [hs', t.fin] at q
      obtain ⟨l, hl⟩ := q
      have hxj' : F.hs.reverse[s.hs.length]? = some x := by
        rw [← hl, List.reverse_cons, List.append_assoc, List.getElem?_append_right (by simp)]
        simp
      have hv' := I.ver _ x hxj'
      rw [hu] at hv'
      rw [hs] at hle
      have : s.hs.length = j := by
        rcases Nat.lt_or_ge s.hs.length j with q | q
        · have := hv'.2 q; simp at this
        · omega
      rw [← this]; exact hxj'
    have hj : (S x).hs.length = j := by
      rw [hs] at hle ⊢
      rcases Nat.lt_or_ge s.hs.length j with q | q
      · have q1 := t.hs (a := x + 1) (b := A.toList.length) (by omega) (Nat.le_refl _)
        rw [hs', t.fin] at q1
        obtain ⟨l, hl⟩ := q1
        have hxj' : F.hs.reverse[s.hs.length]? = some x := by
          rw [← hl, List.reverse_cons, List.append_assoc, List.getElem?_append_right (by simp)]
          simp
        have hv' := (I.ver _ x hxj').2 q
        rw [hu] at hv'; simp at hv'
      · omega
    obtain ⟨pr1, r1, p2, p3, p4, p5⟩ := hK hj
    rw [hs] at r1 hTR
    have hV2 : (F.h :: F.vs).reverse[j + 1]? = some h2 := by
      have := t.ver h0 (a := x + 1) (by omega)
      rw [hs'] at this
      simp only [List.length_cons] at this
      rw [hs] at hj
      rw [hj] at this; exact this
    have hddx : (S (x + 1)).dd = (S x).dd := by rw [hs, hs']
    rcases hv with ⟨rfl, hh⟩ | ⟨rfl, rfl, rfl⟩
    · have hE : execOp (Act.mk tmps ds).eval o = execOp (Act.mk tmps' ds).eval o := by
        unfold heavyA at hh
        obtain ⟨q, hq, _⟩ := bd_ok hh
        exact exec_slots (opA_noSelect hq) hag
      obtain ⟨γ', v', w', g, r2, hvr, wk, hst⟩ := heavyA_ok (P := P) G r1 hB (by rw [p2, I.nr]; exact I.hn) (p4 _ _ hz) (act := ⟨tmps', ds⟩) hTR hh (fn := fn) (rs := rs) (k := k) (kind := kind) (rnd := rnd) (cs := cs) ho hwb hE
      refine .inl ⟨j + 1, pr1, γ', _, w', I.ran W t h0 hx hol hm hxj hV2 g r2 wk hvr hF hna hddx p2 p3 p4 p5, g, wk, ?_⟩
      have hz := hst; rw [hfin] at hz; exact hz
    · refine .inl ⟨j + 1, pr1, γ, _, w, I.ran W t h0 hx hol hm hxj hV2 (Gm.le_refl _) r1 (WK.refl _) (VR.undef γ) hF hna hddx p2 p3 p4 p5, Gm.le_refl _, WK.refl _, .one ?_⟩
      have hz := st_opSkip (P := P) (fn := fn) (tmps := tmps) (defers := ds) (rest := rs) (k := k) (kind := kind) (rnd := rnd) (cs := cs) (w := w) ho hwb; rw [hfin] at hz; exact hz
  | panic ch h2 hd hw hc0 hc1 hc2 hb hn hv =>
    have hwb := hwant true (by rw [hs]; exact hw)
    obtain ⟨hle, _, _, hK⟩ := I.atHeavyP W t h0 hx hu hm (by rw [hs]; exact hb) hHj r
    have hcon := t.hsConst (a := x + 1) (by omega) (p := (x, ch, h2)) (by rw [hs'])
    rw [hs', t.fin] at hcon
    have hj : (S x).hs.length = j := by
      have := I.jk
      rw [hcon] at this
      rw [hs] at hle ⊢
      exact Nat.le_antisymm hle this
    obtain ⟨pr1, r1, p2, p3, p4, p5⟩ := hK hj
    rw [hs] at r1 hTR
    have hE : execOp (Act.mk tmps ds).eval o = execOp (Act.mk tmps' ds).eval o := by
      unfold heavyA at hv
      obtain ⟨q, hq, _⟩ := bd_ok hv
      exact exec_slots (opA_noSelect hq) hag
    obtain ⟨γ', ch', w', g, r2, hch, wk, hst⟩ := heavyA_ok (P := P) G r1 hB (by rw [p2, I.nr]; exact I.hn) (p4 _ _ hz) (act := ⟨tmps', ds⟩) hTR hv (fn := fn) (rs := rs) (k := k) (kind := kind) (rnd := rnd) (cs := cs) ho hwb hE
    refine .inr ⟨ch, h2, pr1, γ', ch', w', ?_, g, r2, by rw [p2, I.nr], p4, fun b v e => by rw [p3]; exact (I.rext b v e).1, hch, wk, hst⟩
    rw [← t.fin]
    exact t.dd (a := x + 1) (by omega) (Nat.le_refl _) (by rw [hs'])
end
end Go.Vex
