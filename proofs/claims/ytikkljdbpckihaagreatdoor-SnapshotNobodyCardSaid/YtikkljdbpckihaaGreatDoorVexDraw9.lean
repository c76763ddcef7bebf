/- Part VexDraw9 of a checked interpreter for closed calls: what it answers, the machine of the model answers; its conditions are those of its theorems. -/
import Derived.Test.YtikkljdbpckihaaGreatDoorVexDraw8
set_option linter.unusedSimpArgs false
set_option linter.unusedVariables false
namespace Go.Vex

def cnt (l : Array Bool) : Nat := l.toList.countP (!·)

theorem cnt_set {l : Array Bool} {i : Nat} (h : i < l.size) (hf : l.getD i false = false) : cnt (l.setIfInBounds i true) + 1 = cnt l := by
  unfold cnt
  rw [Array.toList_setIfInBounds]
  have hi : i < l.toList.length := by simpa using h
  have hli : l.toList[i] = false := by
    have : l.getD i false = l[i] := by simp [Array.getD, h]
    rw [this] at hf
    simpa using hf
  rw [List.countP_set hi, hli]
  have : 0 < l.toList.countP (!·) := List.countP_pos_iff.2 ⟨false, by rw [← hli]; exact List.getElem_mem hi, rfl⟩
  simp only [Bool.not_false, if_true, Bool.not_true, Bool.false_eq_true, if_false]
  omega

theorem cnt_zero {l : Array Bool} (h : cnt l ≤ 0) {i : Nat} (hi : i < l.size) : l.getD i false = true := by
  have h0 : l.toList.countP (!·) = 0 := by unfold cnt at h; omega
  have := List.countP_eq_zero.1 h0 (l[i]) (by simp)
  simp [Array.getD, hi]
  simpa using this

section
variable {P : Program} {Γ : Env} (G : EnvOk P Γ) {big : AF → H → E BR} {Z : Nat × Obj} (hB : BigOk P Γ Z big) {A : Array Oper} {ms : T Nat} {nt c0 : Nat} {s0 F : PG} {S : Nat → PG}
  (W : WF A.toList ms nt A.toList.length) (t : Tr Γ big A.toList ms nt c0 s0 F S) (h0 : s0.hs = [] ∧ s0.vs = [] ∧ s0.pend = [] ∧ s0.dd = none)
  (hout : ∀ d, nt ≤ d → s0.tm.get d = none) (hck : chkGo Γ ms F.hs.reverse (F.h :: F.vs).reverse F.rds = true)
  {pr0 : Pr} (hz : pr0 Z.1 = some Z.2)

include W in
/-- where nothing is ready, all has run -/
theorem Inv.allRun {pr : Pr} {listed : Array Bool} {j : Nat} {γ : Gm} {tmps : Array Value} {w : World} (I : Inv P Γ A.toList ms nt c0 s0.tm F S pr0 listed j pr γ tmps w) (hr : Region.ready .any A listed = []) :
    ∀ i, i < A.toList.length → listed.getD i false = true := by
  intro i
  induction i using Nat.strongRecOn with
  | _ i ih =>
    intro hi
    cases hl : listed.getD i false with
    | true => rfl
    | false =>
      exfalso
      have hiA : i < A.size := by simpa using hi
      have hmem : i ∈ Region.ready .any A listed := mem_ready.2 ⟨?_, A[i], by simp [hiA], fun e he hb => ?_⟩
      · rw [hr] at hmem; simp at hmem
      · have : i < listed.size := by rw [I.lsz]; exact hi
        simp [Array.getD, this] at hl ⊢; exact hl
      · have hlt := (W.aft i A[i] hi (by simp [hiA]) e (by simpa using he) hb).1
        exact ih e.on hlt (by omega)

include G hB W t h0 hout hck hz in
theorem Inv.run (fn : FuncId) (k : List Item) (ds : List Deferred) (kind : CallKind) (rnd : Option Nat) (cs : List Frame) :
    ∀ (fuel tt : Nat) {pr : Pr} {listed : Array Bool} {j : Nat} {γ : Gm} {tmps : Array Value} {w : World}, Inv P Γ A.toList ms nt c0 s0.tm F S pr0 listed j pr γ tmps w → cnt listed ≤ fuel →
    (∃ pr' listed' j' γ' tmps' w', Inv P Γ A.toList ms nt c0 s0.tm F S pr0 listed' j' pr' γ' tmps' w' ∧ (∀ i, i < A.toList.length → listed'.getD i false = true) ∧ γ.le γ' ∧ WK w w' ∧
      Steps P (lone ⟨fn, tmps, .inRegion A (Region.linearise.go .any A fuel tt listed []) :: k, ds, .run, kind, rnd⟩ cs w) (lone ⟨fn, tmps', .inRegion A [] :: k, ds, .run, kind, rnd⟩ cs w')) ∨
    (∃ x ch h2 pr' γ' ch' w' tmps' rs, F.dd = some (x, ch, h2) ∧ γ.le γ' ∧ Rel pr' Γ.ng γ' h2 w' ∧ pr'.nr = pr0.nr ∧ (∀ b o, pr0 b = some o → pr' b = some o) ∧ (∀ b v, pr0.rv b = some v → pr'.rv b = some v) ∧
      All2 (PR γ') ch ch' ∧ WK w w' ∧
      Steps P (lone ⟨fn, tmps, .inRegion A (Region.linearise.go .any A fuel tt listed []) :: k, ds, .run, kind, rnd⟩ cs w) (lone ⟨fn, tmps', .inRegion A rs :: k, ds, .panicking ch', kind, rnd⟩ cs w')) := by
  intro fuel
  induction fuel with
  | zero =>
    intro tt pr listed j γ tmps w I hc
    refine .inl ⟨pr, listed, j, γ, tmps, w, I, fun i hi => cnt_zero hc (by rw [I.lsz]; exact hi), Gm.le_refl _, WK.refl _, ?_⟩
    simp only [Region.linearise.go, List.reverse_nil]
    exact Steps.refl _ _
  | succ fuel ih =>
    intro tt pr listed j γ tmps w I hc
    simp only [Region.linearise.go]
    change (∃ pr' listed' j' γ' tmps' w', Inv P Γ A.toList ms nt c0 s0.tm F S pr0 listed' j' pr' γ' tmps' w' ∧ (∀ i, i < A.toList.length → listed'.getD i false = true) ∧ γ.le γ' ∧ WK w w' ∧
      Steps P (lone ⟨fn, tmps, .inRegion A (match (Region.ready .any A listed)[tt % (Region.ready .any A listed).length]? with
        | some i => Region.linearise.go .any A fuel (tt / (Region.ready .any A listed).length) (listed.setIfInBounds i true) [i]
        | none => [].reverse) :: k, ds, .run, kind, rnd⟩ cs w) (lone ⟨fn, tmps', .inRegion A [] :: k, ds, .run, kind, rnd⟩ cs w')) ∨
      (∃ x ch h2 pr' γ' ch' w' tmps' rs, F.dd = some (x, ch, h2) ∧ γ.le γ' ∧ Rel pr' Γ.ng γ' h2 w' ∧ pr'.nr = pr0.nr ∧ (∀ b o, pr0 b = some o → pr' b = some o) ∧ (∀ b v, pr0.rv b = some v → pr'.rv b = some v) ∧
      All2 (PR γ') ch ch' ∧ WK w w' ∧
      Steps P (lone ⟨fn, tmps, .inRegion A (match (Region.ready .any A listed)[tt % (Region.ready .any A listed).length]? with
        | some i => Region.linearise.go .any A fuel (tt / (Region.ready .any A listed).length) (listed.setIfInBounds i true) [i]
        | none => [].reverse) :: k, ds, .run, kind, rnd⟩ cs w) (lone ⟨fn, tmps', .inRegion A rs :: k, ds, .panicking ch', kind, rnd⟩ cs w'))
    cases hi : (Region.ready .any A listed)[tt % (Region.ready .any A listed).length]? with
    | none =>
      have hnil : Region.ready .any A listed = [] := by
        cases hr : Region.ready .any A listed with
        | nil => rfl
        | cons x xs =>
          rw [hr] at hi
          have hlt : tt % (x :: xs).length < (x :: xs).length := Nat.mod_lt _ (by simp)
          simp at hi
          simp at hlt
          omega
      exact .inl ⟨pr, listed, j, γ, tmps, w, I, I.allRun W hnil, Gm.le_refl _, WK.refl _, Steps.refl _ _⟩
    | some x =>
      simp only []
      rw [linearise_go_acc, List.reverse_singleton, List.singleton_append]
      obtain ⟨hlx, o, ho, haft⟩ := mem_ready.1 (List.mem_of_getElem? hi)
      have hxn : x < A.toList.length := by have := lt_of_get ho; simpa using this
      have hxl : x < listed.size := by rw [I.lsz]; exact hxn
      have hu : listed.getD x false = false := by simp [Array.getD, hxl] at hlx ⊢; exact hlx
      have hm : ∀ k, hasBit (msk ms x) k = true → listed.getD k false = true := by
        intro q hq
        obtain ⟨e, he, hb, hk⟩ := W.cov x o hxn (by simpa using ho) q hq
        have he' : e ∈ o.after := by simpa using he
        have hl := haft e he' hb
        rcases hk with rfl | hk
        · exact hl
        · have hlt := (W.aft x o hxn (by simpa using ho) e he hb).1
          exact I.down e.on (by omega) hl q hk
      rcases I.step G hB W t h0 hout hck hz ho hu hm fn (Region.linearise.go .any A fuel (tt / (Region.ready .any A listed).length) (listed.setIfInBounds x true) []) k ds kind rnd cs with
        ⟨j1, pr1, γ1, tmps1, w1, I1, g1, wk1, s1⟩ | ⟨ch, h2, pr1, γ1, ch', w1, hd, g1, r1, p1, p2, p3, hch, wk1, s1⟩
      · have hcs := cnt_set hxl hu
        rcases ih (tt / (Region.ready .any A listed).length) I1 (by omega) with
          ⟨pr', l', j', γ', tmps', w', I', hall, g, wk, s⟩ | ⟨x', ch, h2, pr', γ', ch', w', tmps', rs, hd, g, r', p1, p2, p3, hch, wk, s⟩
        · exact .inl ⟨pr', l', j', γ', tmps', w', I', hall, Gm.le_trans g1 g, wk1.trans wk, Steps.trans s1 s⟩
        · exact .inr ⟨x', ch, h2, pr', γ', ch', w', tmps', rs, hd, Gm.le_trans g1 g, r', p1, p2, p3, hch, wk1.trans wk, Steps.trans s1 s⟩
      · exact .inr ⟨x, ch, h2, pr1, γ1, ch', w1, tmps, _, hd, g1, r1, p1, p2, p3, hch, wk1, s1⟩

include G hB in
theorem drawOk (hmix : P.follows .mixedOrders = true) : DrawOk P Γ Z big := by
  intro pr γ h w nt tm tmps A res hn hz r ht e tt fn ds kind rnd k cs
  unfold drawA at e
  obtain ⟨ms, hms, e1⟩ := bd_ok e; clear e
  obtain ⟨F, hp, e2⟩ := bd_ok e1; clear e1
  obtain ⟨hck, e3⟩ := gd_ok e2; clear e2
  have W := wf_ok (og_ok hms)
  obtain ⟨S, hS0, hSn, hSt⟩ := passGo_ok hp rfl (Nat.zero_le _)
  have t : Tr Γ big A.toList ms nt h.c { tm, h := { h with c := h.c + A.toList.length }, pend := [], hs := [], vs := [], rds := [], dd := none } F S := ⟨hS0, hSn, fun j o ho => hSt j o (Nat.zero_le _) ho⟩
  have h0 : ({ tm, h := { h with c := h.c + A.toList.length }, pend := [], hs := [], vs := [], rds := [], dd := none } : PG).hs = [] ∧ ({ tm, h := { h with c := h.c + A.toList.length }, pend := [], hs := [], vs := [], rds := [], dd := none } : PG).vs = [] ∧
    ({ tm, h := { h with c := h.c + A.toList.length }, pend := [], hs := [], vs := [], rds := [], dd := none } : PG).pend = [] ∧ ({ tm, h := { h with c := h.c + A.toList.length }, pend := [], hs := [], vs := [], rds := [], dd := none } : PG).dd = none := ⟨rfl, rfl, rfl, rfl⟩
  have hlf : ∀ i, (Array.replicate A.toList.length false).getD i false = false := by
    intro i
    simp only [Array.getD_eq_getD_getElem?, Array.getElem?_replicate]
    split <;> rfl
  have r1 := r.bump (c := h.c + A.toList.length) (by omega)
  have hV0 := t.ver h0 (a := 0) (Nat.zero_le _)
  rw [hS0] at hV0
  have hrv0 : ∀ i, i < A.toList.length → (⟨pr.f, pr.nr, fun b => if h.c ≤ b ∧ b < h.c + A.toList.length then some none else pr.rv b⟩ : Pr).rv (h.c + i) = some none := by
    intro i hi
    show (if h.c ≤ h.c + i ∧ h.c + i < h.c + A.toList.length then some none else pr.rv (h.c + i)) = _
    rw [if_pos (by omega)]
  have I0 : Inv P Γ A.toList ms nt h.c tm F S pr (Array.replicate A.toList.length false) 0 ⟨pr.f, pr.nr, fun b => if h.c ≤ b ∧ b < h.c + A.toList.length then some none else pr.rv b⟩ γ tmps w := by
    refine ⟨by simp, fun i hi hl => by rw [hlf] at hl; simp at hl, fun p _ => hlf _, Nat.zero_le _, fun m x _ => by rw [hlf]; simp, ⟨_, hV0, r1⟩, rfl, fun b o q => q, ?_, ?_, hn, fun i hi _ => hrv0 i hi, fun i p hi hl => by rw [hlf] at hl; simp at hl, ?_, ?_⟩
    · intro b v q
      have hb := (r.res b v q).1
      refine ⟨?_, hb⟩
      show (if h.c ≤ b ∧ b < h.c + A.toList.length then some none else pr.rv b) = _
      rw [if_neg (by omega)]; exact q
    · exact ⟨ht.size, fun i o d _ _ _ hl => by rw [hlf] at hl; simp at hl, fun d hd _ => ht.get d hd⟩
    · intro i i' x x' _ hi _ hx
      rw [hrv0 i hi] at hx; simp at hx
    · intro i x hi hx
      rw [hrv0 i hi] at hx; simp at hx
  have hsch : Region.schedule (P.follows .mixedOrders) A tt = Region.linearise.go .any A A.size tt (Array.replicate A.size false) [] := by
    simp only [Region.schedule, hmix, Bool.true_or, if_true]; rfl
  rw [hsch]
  have hcnt : cnt (Array.replicate A.toList.length false) ≤ A.size := by
    unfold cnt
    refine Nat.le_trans List.countP_le_length ?_
    simp
  have hrun := Inv.run G hB W t h0 ht.out hck hz fn k ds kind rnd cs A.size tt I0 hcnt
  rw [Array.length_toList] at hrun
  rcases hrun with ⟨pr', l', j', γ', tmps', w', I, hall, g, wk, s⟩ | ⟨x, ch, h2, pr', γ', ch', w', tmps', rs, hd, g, r', p1, p2, p3, hch, wk, s⟩
  · have hdn : F.dd = none := by
      cases hq : F.dd with
      | none => rfl
      | some p =>
        have hal := I.alive p hq
        rw [← t.fin] at hq
        have := ((t.marks h0 (Nat.le_refl _)).1 p hq).1
        rw [hall p.1 (by simpa using this)] at hal; simp at hal
    rw [hdn] at e3
    simp at e3; subst e3
    have hj : j' = F.hs.length := by
      have := I.jk
      rcases Nat.lt_or_ge j' F.hs.length with q | q
      · have hlt : j' < F.hs.reverse.length := by simpa using q
        have hin : F.hs.reverse[j'] ∈ F.hs := by simp
        have hin2 : F.hs.reverse[j'] ∈ (S A.toList.length).hs := by rw [t.fin]; exact hin
        have hlt2 := ((t.marks h0 (Nat.le_refl _)).2 _ hin2).1
        have := (I.ver j' _ (List.getElem?_eq_getElem hlt)).1 (hall _ (by simpa using hlt2))
        omega
      · omega
    obtain ⟨Hj, hHj, rj⟩ := I.rel
    have hVF := t.ver h0 (Nat.le_refl _)
    rw [t.fin, ← hj, hHj] at hVF
    cases hVF
    obtain ⟨_, _, _, i4, i5⟩ := t.inv h0 (Nat.le_refl _)
    have hpd := t.pend W h0 (Nat.le_refl _)
    rw [t.fin] at i4 i5 hpd
    obtain ⟨pr2, r2, q1, q2, q3, _⟩ := promo_ok (m := 2 ^ A.toList.length - 1) i5 (fun i ab hi => ⟨by have := i4 _ hi; simpa using this, fun _ => by
      obtain ⟨⟨p, hp', rfl⟩, hno⟩ := hpd i ab hi
      have hin : i < A.toList.length := by have := i4 _ hi; simpa using this
      exact I.pend i p hin (hall i (by simpa using hin)) hp' fun m y _ hy => hno y (by have := List.mem_of_getElem? hy; simpa using this)⟩) I.dis I.ext rj
    refine ⟨γ', tmps', w', g, r2.weaken (by rw [q1, I.nr]) (fun b v q => by rw [q2]; exact (I.rext b v q).1) q3, ?_, wk, Steps.trans s (.one st_regionEnd)⟩
    refine ⟨I.sl.sz, fun d hd => ?_, fun d hd => ?_⟩
    · by_cases hw : ∃ m om, m < A.toList.length ∧ A.toList[m]? = some om ∧ om.dst = some d
      · obtain ⟨m, om, hmn, hom, hmd⟩ := hw
        exact I.sl.wr m om d hmn hom hmd (hall m (by simpa using hmn))
      · have hno : ∀ m o', m < A.toList.length → A.toList[m]? = some o' → o'.dst ≠ some d := fun m o' h1 h2 h3 => hw ⟨m, o', h1, h2, h3⟩
        have := t.tm (a := 0) (b := A.toList.length) (d := d) (Nat.zero_le _) (Nat.le_refl _) fun m o' _ h2 ho' => hno m o' h2 ho'
        rw [t.fin, t.s0] at this
        rw [this]
        exact I.sl.un d hd fun i o' hi ho' hd' => absurd hd' (hno i o' hi ho')
    · have := t.tm (a := 0) (b := A.toList.length) (d := d) (Nat.zero_le _) (Nat.le_refl _) fun m o' _ (h2 : m < A.toList.length) ho' hd' => absurd (W.lt m o' d h2 ho' hd') (Nat.not_lt.2 hd)
      rw [t.fin, t.s0] at this
      rw [this]; exact ht.out d hd
  · rw [hd] at e3
    simp at e3; subst e3
    exact ⟨γ', tmps', rs, ch', w', g, r'.weaken p1.symm p3 p2, hch, wk, s⟩
end
end Go.Vex
