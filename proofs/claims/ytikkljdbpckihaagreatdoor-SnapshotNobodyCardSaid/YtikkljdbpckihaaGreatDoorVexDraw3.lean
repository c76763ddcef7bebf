/- Part VexDraw3 of a checked interpreter for closed calls: what it answers, the machine of the model answers; its conditions are those of its theorems. -/
import Derived.Test.YtikkljdbpckihaaGreatDoorVexDraw2
set_option linter.unusedSimpArgs false
set_option linter.unusedVariables false
namespace Go.Vex

inductive StepP (Γ : Env) (big : AF → H → E BR) (ops : List Oper) (ms : T Nat) (nt c0 : Nat) (i : Nat) (o : Oper) : PG → PG → Prop
  | dead (s : PG) (hd : dead s.dd (msk ms i) = true) : StepP Γ big ops ms nt c0 i o s s
  | pur (s : PG) (v : AV) (tm' : T AV) (w : Bool) (hd : dead s.dd (msk ms i) = false) (hw : wantedA o ops s.tm = .ok w) (hc : cls o.op = 0)
      (hv : (w = true ∧ ∃ h', opA Γ (restr s.tm (tmpsOf o ops)) s.h o = .ok (.val v h')) ∨ (w = false ∧ v = .tuple [])) (hs : setDst o v nt s.tm = .ok tm') :
      StepP Γ big ops ms nt c0 i o s { s with tm := tm' }
  | read (s : PG) (v : AV) (tm' : T AV) (hd : dead s.dd (msk ms i) = false) (hw : wantedA o ops s.tm = .ok true) (hc : cls o.op = 1)
      (hv : ∃ h', opA Γ (restr s.tm (tmpsOf o ops)) s.h o = .ok (.val v h')) (hs : setDst o v nt s.tm = .ok tm') :
      StepP Γ big ops ms nt c0 i o s { s with tm := tm', rds := (i, o, restr s.tm (tmpsOf o ops), v) :: s.rds }
  | skip (s : PG) (tm' : T AV) (hd : dead s.dd (msk ms i) = false) (hw : wantedA o ops s.tm = .ok false) (hc : cls o.op = 1 ∨ cls o.op = 2) (hs : setDst o (.tuple []) nt s.tm = .ok tm') :
      StepP Γ big ops ms nt c0 i o s { s with tm := tm' }
  | alloc (s : PG) (p : AB × NewV) (tm' : T AV) (hd : dead s.dd (msk ms i) = false) (hw : wantedA o ops s.tm = .ok true) (hc : cls o.op = 2)
      (ha : allocA Γ (restr s.tm (tmpsOf o ops)) o = .ok p) (hs : setDst o (p.2.at (c0 + i)) nt s.tm = .ok tm') :
      StepP Γ big ops ms nt c0 i o s { s with tm := tm', pend := (i, p.1) :: s.pend }
  | heavy (s : PG) (v : AV) (h2 : H) (tm' : T AV) (w : Bool) (hd : dead s.dd (msk ms i) = false) (hw : wantedA o ops s.tm = .ok w) (hc0 : cls o.op ≠ 0) (hc1 : cls o.op ≠ 1) (hc2 : cls o.op ≠ 2)
      (hb : allB (msk ms i) s.hs = true) (hn : s.dd = none)
      (hv : (w = true ∧ heavyA Γ big (restr s.tm (tmpsOf o ops)) (promo (msk ms i) c0 s.pend s.h) o = .ok (.v v h2)) ∨ (w = false ∧ v = .tuple [] ∧ h2 = promo (msk ms i) c0 s.pend s.h))
      (hs : setDst o v nt s.tm = .ok tm') :
      StepP Γ big ops ms nt c0 i o s { s with tm := tm', h := h2, pend := rest (msk ms i) s.pend, hs := i :: s.hs, vs := s.h :: s.vs }
  | panic (s : PG) (ch : List (AV × Bool)) (h2 : H) (hd : dead s.dd (msk ms i) = false) (hw : wantedA o ops s.tm = .ok true) (hc0 : cls o.op ≠ 0) (hc1 : cls o.op ≠ 1) (hc2 : cls o.op ≠ 2)
      (hb : allB (msk ms i) s.hs = true) (hn : s.dd = none)
      (hv : heavyA Γ big (restr s.tm (tmpsOf o ops)) (promo (msk ms i) c0 s.pend s.h) o = .ok (.p ch h2)) :
      StepP Γ big ops ms nt c0 i o s { s with dd := some (i, ch, h2) }

section
variable {Γ : Env} {big : AF → H → E BR} {ops : List Oper} {ms : T Nat} {nt c0 : Nat}

theorem passGo_cons {o : Oper} {os : List Oper} {i : Nat} {s s' : PG} (e : passGo Γ big ops ms nt c0 (o :: os) i s = .ok s') :
    ∃ s1, StepP Γ big ops ms nt c0 i o s s1 ∧ passGo Γ big ops ms nt c0 os (i + 1) s1 = .ok s' := by
  simp only [passGo] at e
  split at e
  · rename_i hd
    exact ⟨s, .dead s hd, e⟩
  · rename_i hd
    obtain ⟨w, hw, e1⟩ := bd_ok e; clear e
    split at e1
    · rename_i hc
      obtain ⟨v, hv, e2⟩ := bd_ok e1; clear e1
      obtain ⟨tm', hs, e3⟩ := bd_ok e2; clear e2
      refine ⟨_, .pur s v tm' w hd hw hc ?_ hs, e3⟩
      cases w with
      | true => exact .inl ⟨rfl, valOf_ok hv⟩
      | false => simp at hv; exact .inr ⟨rfl, hv.symm⟩
    · rename_i hc
      cases w with
      | true =>
        obtain ⟨v, hv, e2⟩ := bd_ok e1; clear e1
        obtain ⟨tm', hs, e3⟩ := bd_ok e2; clear e2
        exact ⟨_, .read s v tm' hd hw hc (valOf_ok hv) hs, e3⟩
      | false =>
        obtain ⟨tm', hs, e3⟩ := bd_ok e1; clear e1
        exact ⟨_, .skip s tm' hd hw (.inl hc) hs, e3⟩
    · rename_i hc
      cases w with
      | true =>
        obtain ⟨p, hp, e2⟩ := bd_ok e1; clear e1
        obtain ⟨tm', hs, e3⟩ := bd_ok e2; clear e2
        exact ⟨_, .alloc s p tm' hd hw hc hp hs, e3⟩
      | false =>
        obtain ⟨tm', hs, e3⟩ := bd_ok e1; clear e1
        exact ⟨_, .skip s tm' hd hw (.inr hc) hs, e3⟩
    · rename_i hc0 hc1 hc2
      obtain ⟨hg, e2⟩ := gd_ok e1; clear e1
      simp only [Bool.and_eq_true, Option.isNone_iff_eq_none] at hg
      obtain ⟨p, hp, e3⟩ := bd_ok e2; clear e2
      split at e3
      · rename_i v h2
        obtain ⟨tm', hs, e4⟩ := bd_ok e3; clear e3
        refine ⟨_, .heavy s v h2 tm' w hd hw hc0 hc1 hc2 hg.1 hg.2 ?_ hs, e4⟩
        cases w with
        | true => exact .inl ⟨rfl, hp⟩
        | false => simp at hp; exact .inr ⟨rfl, hp.1.symm, hp.2.symm⟩
      · rename_i ch h2
        cases w with
        | true => exact ⟨_, .panic s ch h2 hd hw hc0 hc1 hc2 hg.1 hg.2 hp, e3⟩
        | false => simp at hp

theorem passGo_ok : ∀ {os : List Oper} {i : Nat} {s s' : PG}, passGo Γ big ops ms nt c0 os i s = .ok s' → os = ops.drop i → i ≤ ops.length →
    ∃ S : Nat → PG, S i = s ∧ S ops.length = s' ∧ ∀ j o, i ≤ j → ops[j]? = some o → StepP Γ big ops ms nt c0 j o (S j) (S (j + 1))
  | [], i, s, s', e, hos, hi => by
    simp [passGo] at e; subst e
    have : i = ops.length := by have := congrArg List.length hos; simp at this; omega
    refine ⟨fun _ => s, rfl, rfl, fun j o hj ho => ?_⟩
    have : j < ops.length := by
      rcases Nat.lt_or_ge j ops.length with q | q
      · exact q
      · rw [List.getElem?_eq_none q] at ho; simp at ho
    omega
  | o :: os, i, s, s', e, hos, hi => by
    obtain ⟨hlt, hoi, hos'⟩ := drop_cons hos.symm
    obtain ⟨s1, h1, h2⟩ := passGo_cons e
    obtain ⟨S, a, b, c⟩ := passGo_ok h2 hos' (by omega)
    refine ⟨fun k => if k = i then s else S k, by simp, by dsimp only; rw [if_neg (by omega)]; exact b, fun j o' hj ho' => ?_⟩
    by_cases hji : j = i
    · subst hji
      rw [hoi] at ho'; cases ho'
      simp only [if_true, if_neg (show ¬ (j + 1 = j) by omega)]
      rw [a]; exact h1
    · simp only [if_neg hji, if_neg (show ¬ (j + 1 = i) by omega)]
      exact c j o' (by omega) ho'

/-- the pass, told by its states -/
structure Tr (Γ : Env) (big : AF → H → E BR) (ops : List Oper) (ms : T Nat) (nt c0 : Nat) (s0 F : PG) (S : Nat → PG) : Prop where
  s0 : S 0 = s0
  fin : S ops.length = F
  step : ∀ j o, ops[j]? = some o → StepP Γ big ops ms nt c0 j o (S j) (S (j + 1))

theorem up {S : Nat → PG} (R : PG → PG → Prop) (hr : ∀ s, R s s) (ht : ∀ a b c, R a b → R b c → R a c) {n : Nat} (h : ∀ j, j < n → R (S j) (S (j + 1))) : ∀ {a b : Nat}, a ≤ b → b ≤ n → R (S a) (S b) := by
  intro a b hab hb
  induction b with
  | zero => obtain rfl : a = 0 := by omega
            exact hr _
  | succ b ih =>
    by_cases e : a = b + 1
    · subst e; exact hr _
    · exact ht _ _ _ (ih (by omega) (by omega)) (h b (by omega))

variable {s0 F : PG} {S : Nat → PG} (t : Tr Γ big ops ms nt c0 s0 F S)
include t

theorem Tr.stepAt {j : Nat} (hj : j < ops.length) : ∃ o, ops[j]? = some o ∧ StepP Γ big ops ms nt c0 j o (S j) (S (j + 1)) :=
  ⟨ops[j], List.getElem?_eq_getElem hj, t.step j _ (List.getElem?_eq_getElem hj)⟩

theorem Tr.vs {a b : Nat} (hab : a ≤ b) (hb : b ≤ ops.length) : ((S a).h :: (S a).vs).reverse <+: ((S b).h :: (S b).vs).reverse := by
  refine up (fun s s' => (s.h :: s.vs).reverse <+: (s'.h :: s'.vs).reverse) (fun s => List.prefix_rfl) (fun _ _ _ p q => p.trans q) (fun j hj => ?_) hab hb
  obtain ⟨o, _, h⟩ := t.stepAt hj
  generalize S j = s at h ⊢
  generalize S (j + 1) = s' at h ⊢
  cases h <;> first | exact List.prefix_rfl | (simp only [List.reverse_cons]; exact List.prefix_append _ _)

theorem Tr.hs {a b : Nat} (hab : a ≤ b) (hb : b ≤ ops.length) : (S a).hs.reverse <+: (S b).hs.reverse := by
  refine up (fun s s' => s.hs.reverse <+: s'.hs.reverse) (fun s => List.prefix_rfl) (fun _ _ _ p q => p.trans q) (fun j hj => ?_) hab hb
  obtain ⟨o, _, h⟩ := t.stepAt hj
  generalize S j = s at h ⊢
  generalize S (j + 1) = s' at h ⊢
  cases h <;> first | exact List.prefix_rfl | (simp only [List.reverse_cons]; exact List.prefix_append _ _)

theorem Tr.dd {a b : Nat} (hab : a ≤ b) (hb : b ≤ ops.length) {p : Nat × List (AV × Bool) × H} (h : (S a).dd = some p) : (S b).dd = some p := by
  refine up (fun s s' => s.dd = some p → s'.dd = some p) (fun s => id) (fun _ _ _ p q => fun h => q (p h)) (fun j hj => ?_) hab hb h
  obtain ⟨o, _, h⟩ := t.stepAt hj
  generalize S j = s at h ⊢
  generalize S (j + 1) = s' at h ⊢
  cases h <;> first | exact id | (rename_i hn _; intro q; rw [hn] at q; simp at q)

theorem Tr.rds {a b : Nat} (hab : a ≤ b) (hb : b ≤ ops.length) {x : Nat × Oper × T AV × AV} (h : x ∈ (S a).rds) : x ∈ (S b).rds := by
  refine up (fun s s' => x ∈ s.rds → x ∈ s'.rds) (fun s => id) (fun _ _ _ p q => fun h => q (p h)) (fun j hj => ?_) hab hb h
  obtain ⟨o, _, h⟩ := t.stepAt hj
  generalize S j = s at h ⊢
  generalize S (j + 1) = s' at h ⊢
  cases h <;> first | exact id | exact List.mem_cons_of_mem _

/-- facts of each state -/
theorem Tr.inv (h0 : s0.hs = [] ∧ s0.vs = [] ∧ s0.pend = [] ∧ s0.dd = none) {a : Nat} (ha : a ≤ ops.length) :
    (S a).hs.length = (S a).vs.length ∧ (∀ x ∈ (S a).hs, x < a) ∧ (∀ p, (S a).dd = some p → p.1 < a) ∧ (∀ x ∈ (S a).pend, x.1 < a) ∧ ((S a).pend.map (·.1)).Nodup := by
  induction a with
  | zero => rw [t.s0]; obtain ⟨h1, h2, h3, h4⟩ := h0; simp [h1, h2, h3, h4]
  | succ a ih =>
    obtain ⟨i1, i2, i3, i4, i5⟩ := ih (by omega)
    obtain ⟨o, _, h⟩ := t.stepAt (j := a) (by omega)
    generalize S a = s at h i1 i2 i3 i4 i5
    generalize S (a + 1) = s' at h
    have j2 : ∀ x ∈ s.hs, x < a + 1 := fun x hx => by have := i2 x hx; omega
    have j3 : ∀ p, s.dd = some p → p.1 < a + 1 := fun p hp => by have := i3 p hp; omega
    have j4 : ∀ x ∈ s.pend, x.1 < a + 1 := fun x hx => by have := i4 x hx; omega
    cases h with
    | dead => exact ⟨i1, j2, j3, j4, i5⟩
    | pur => exact ⟨i1, j2, j3, j4, i5⟩
    | read => exact ⟨i1, j2, j3, j4, i5⟩
    | skip => exact ⟨i1, j2, j3, j4, i5⟩
    | alloc p =>
      refine ⟨i1, j2, j3, fun x hx => ?_, ?_⟩
      · rcases List.mem_cons.1 hx with rfl | hx
        · simp
        · exact j4 x hx
      · simp only [List.map_cons, List.nodup_cons]
        refine ⟨fun hm => ?_, i5⟩
        obtain ⟨x, hx, he⟩ := List.mem_map.1 hm
        have := i4 x hx; omega
    | heavy =>
      have sub : ∀ (m : Nat) (l : List (Nat × AB)), (rest m l).Sublist l := by
        intro m l
        induction l with
        | nil => exact List.Sublist.refl _
        | cons x xs ih =>
          obtain ⟨i, ab⟩ := x
          simp only [rest]
          split
          · exact ih.cons _
          · exact ih.cons_cons _
      refine ⟨by simp [i1], fun x hx => ?_, j3, fun x hx => j4 x ((sub _ _).mem hx), (List.Sublist.map _ (sub _ _)).nodup i5⟩
      rcases List.mem_cons.1 hx with rfl | hx
      · omega
      · exact j2 x hx
    | panic =>
      refine ⟨i1, j2, fun p hp => ?_, j4, i5⟩
      simp at hp; subst hp; simp
end
end Go.Vex
