/- Part VexDraw5 of a checked interpreter for closed calls: what it answers, the machine of the model answers; its conditions are those of its theorems. -/
import Derived.Test.YtikkljdbpckihaaGreatDoorVexDraw4
set_option linter.unusedSimpArgs false
set_option linter.unusedVariables false
namespace Go.Vex

theorem setDst_get {o : Oper} {v : AV} {nt : Nat} {tm tm' : T AV} (e : setDst o v nt tm = .ok tm') (t : Nat) : tm'.get t = if o.dst = some t then some v else tm.get t := by
  unfold setDst at e
  cases hd : o.dst with
  | none => rw [hd] at e; simp at e; subst e; simp
  | some d =>
    rw [hd] at e
    dsimp only at e
    obtain ⟨_, e2⟩ := gd_ok e
    simp at e2; subst e2
    rw [T.get_set]
    by_cases q : t = d
    · subst q; simp
    · rw [if_neg q, if_neg (by simp; exact fun e => q e.symm)]

section
variable {Γ : Env} {big : AF → H → E BR} {ops : List Oper} {ms : T Nat} {nt c0 : Nat} {s0 F : PG} {S : Nat → PG}
  (W : WF ops ms nt ops.length) (t : Tr Γ big ops ms nt c0 s0 F S)

def AllocAt (Γ : Env) (ops : List Oper) (ms : T Nat) (S : Nat → PG) (i : Nat) (p : AB × NewV) : Prop :=
  ∃ o, ops[i]? = some o ∧ cls o.op = 2 ∧ wantedA o ops (S i).tm = .ok true ∧ allocA Γ (restr (S i).tm (tmpsOf o ops)) o = .ok p

include W in
theorem WF.bit_lt {i k : Nat} (hi : i < ops.length) (h : hasBit (msk ms i) k = true) : k < i := by
  induction i using Nat.strongRecOn generalizing k with
  | _ i ih =>
    obtain ⟨e, he, hb, q⟩ := W.cov i _ hi (List.getElem?_eq_getElem hi) k h
    have h1 := (W.aft i _ hi (List.getElem?_eq_getElem hi) e he hb).1
    rcases q with rfl | q
    · exact h1
    · have := ih e.on h1 (by omega) q; omega

include t in
theorem Tr.tm {a b : Nat} {d : Nat} (hab : a ≤ b) (hb : b ≤ ops.length) (h : ∀ m o, a ≤ m → m < b → ops[m]? = some o → o.dst ≠ some d) : (S b).tm.get d = (S a).tm.get d := by
  induction b with
  | zero => obtain rfl : a = 0 := by omega
            rfl
  | succ b ih =>
    by_cases e : a = b + 1
    · subst e; rfl
    · rw [← ih (by omega) (by omega) fun m o h1 h2 => h m o h1 (by omega)]
      obtain ⟨o, ho, hs⟩ := t.stepAt (j := b) (by omega)
      have hne := h b o (by omega) (by omega) ho
      generalize S b = s at hs ⊢
      generalize S (b + 1) = s' at hs ⊢
      cases hs with
      | dead => rfl
      | panic => rfl
      | pur v tm' w hd hw hc hv hs => show tm'.get d = _; rw [setDst_get hs, if_neg hne]
      | read v tm' hd hw hc hv hs => show tm'.get d = _; rw [setDst_get hs, if_neg hne]
      | skip tm' hd hw hc hs => show tm'.get d = _; rw [setDst_get hs, if_neg hne]
      | alloc p tm' hd hw hc ha hs => show tm'.get d = _; rw [setDst_get hs, if_neg hne]
      | heavy v h2 tm' w hd hw hc0 hc1 hc2 hb hn hv hs => show tm'.get d = _; rw [setDst_get hs, if_neg hne]

include W t in
theorem Tr.written {i : Nat} {o : Oper} {d : Nat} {v : AV} (hi : i < ops.length) (ho : ops[i]? = some o) (hd : o.dst = some d) (hs : setDst o v nt (S i).tm = .ok (S (i + 1)).tm) : F.tm.get d = some v := by
  rw [← t.fin, t.tm (a := i + 1) (by omega) (Nat.le_refl _) (fun m o' h1 h2 ho' e => by have := W.dst m i o' o d h2 hi ho' ho e hd; omega), setDst_get hs, if_pos hd]

include W t in
theorem Tr.pend (h0 : s0.hs = [] ∧ s0.vs = [] ∧ s0.pend = [] ∧ s0.dd = none) {a : Nat} (ha : a ≤ ops.length) :
    ∀ i ab, (i, ab) ∈ (S a).pend → (∃ p, AllocAt Γ ops ms S i p ∧ p.1 = ab) ∧ ∀ y ∈ (S a).hs, hasBit (msk ms y) i = false := by
  induction a with
  | zero => rw [t.s0, h0.2.2.1]; intro i ab h; simp at h
  | succ a ih =>
    have ih := ih (by omega)
    obtain ⟨_, i2, _, _, _⟩ := t.inv h0 (a := a) (by omega)
    obtain ⟨o, ho, hs⟩ := t.stepAt (j := a) (by omega)
    generalize hSa : S a = s at hs ih i2
    generalize S (a + 1) = s' at hs
    have restm : ∀ (m : Nat) (l : List (Nat × AB)) (i : Nat) (ab : AB), (i, ab) ∈ rest m l → (i, ab) ∈ l ∧ hasBit m i = false := by
      intro m l i ab
      induction l with
      | nil => intro h; simp [rest] at h
      | cons x xs ihl =>
        obtain ⟨j, ab'⟩ := x
        intro h
        simp only [rest] at h
        split at h
        · obtain ⟨q1, q2⟩ := ihl h; exact ⟨List.mem_cons_of_mem _ q1, q2⟩
        · rename_i hb
          rcases List.mem_cons.1 h with q | h
          · cases q; exact ⟨by simp, hb⟩
          · obtain ⟨q1, q2⟩ := ihl h; exact ⟨List.mem_cons_of_mem _ q1, q2⟩
    cases hs with
    | dead => exact ih
    | pur => exact ih
    | read => exact ih
    | skip => exact ih
    | panic => exact ih
    | alloc p tm' hd hw hc hal hs =>
      intro i ab h
      rcases List.mem_cons.1 h with q | h
      · cases q
        refine ⟨⟨p, ⟨o, ho, hc, by rw [hSa]; exact hw, by rw [hSa]; exact hal⟩, rfl⟩, fun y hy => ?_⟩
        have hya := i2 y hy
        cases hb : hasBit (msk ms y) a with
        | false => rfl
        | true => have := W.bit_lt (by omega) hb; omega
      · exact ih i ab h
    | heavy v h2 tm' w hd hw hc0 hc1 hc2 hb hn hv hs =>
      intro i ab h
      obtain ⟨q1, q2⟩ := restm _ _ _ _ h
      obtain ⟨k1, k2⟩ := ih i ab q1
      refine ⟨k1, fun y hy => ?_⟩
      rcases List.mem_cons.1 hy with rfl | hy
      · exact q2
      · exact k2 y hy

include t in
/-- where the heap of a state stands among the versions -/
theorem Tr.ver (h0 : s0.hs = [] ∧ s0.vs = [] ∧ s0.pend = [] ∧ s0.dd = none) {a : Nat} (ha : a ≤ ops.length) : (F.h :: F.vs).reverse[(S a).hs.length]? = some (S a).h := by
  obtain ⟨i1, _⟩ := t.inv h0 ha
  have := t.vs ha (Nat.le_refl _)
  rw [t.fin] at this
  obtain ⟨l, hl⟩ := this
  rw [← hl, i1, List.reverse_cons, List.append_assoc, List.getElem?_append_right (by simp)]
  simp

include t in
theorem Tr.hsAt {a m : Nat} (ha : a ≤ ops.length) (hm : m < (S a).hs.length) : ∃ y, F.hs.reverse[m]? = some y ∧ y ∈ (S a).hs := by
  have := t.hs ha (Nat.le_refl _)
  rw [t.fin] at this
  obtain ⟨l, hl⟩ := this
  have hlt : m < (S a).hs.reverse.length := by simpa using hm
  refine ⟨(S a).hs.reverse[m], ?_, ?_⟩
  · rw [← hl, List.getElem?_append_left hlt, List.getElem?_eq_getElem hlt]
  · simp

/-- slots of the machine, in the midst of a region: what has run, has written -/
structure Slots (ops : List Oper) (nt : Nat) (tm0 : T AV) (F : PG) (listed : Array Bool) (γ : Gm) (tmps : Array Value) : Prop where
  sz : tmps.size = nt
  wr : ∀ i o d, i < ops.length → ops[i]? = some o → o.dst = some d → listed.getD i false = true → ∃ v, tmps[d]? = some v ∧ VR γ ((F.tm.get d).getD (.tuple [])) v
  un : ∀ d, d < nt → (∀ i o, i < ops.length → ops[i]? = some o → o.dst = some d → listed.getD i false = false) → ∃ v, tmps[d]? = some v ∧ VR γ ((tm0.get d).getD (.tuple [])) v
end
end Go.Vex
