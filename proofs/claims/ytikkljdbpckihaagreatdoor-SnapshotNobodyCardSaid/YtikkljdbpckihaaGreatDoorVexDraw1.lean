/- Part VexDraw1 of a checked interpreter for closed calls: what it answers, the machine of the model answers; its conditions are those of its theorems. -/
import Derived.Test.YtikkljdbpckihaaGreatDoorVexStep5
import Derived.Orders
set_option linter.unusedSimpArgs false
set_option linter.unusedVariables false
namespace Go.Vex

theorem hasBit_eq (m i : Nat) : hasBit m i = m.testBit i := by
  unfold hasBit
  rw [Nat.testBit_eq_decide_div_mod_eq, Bool.eq_iff_iff]
  have : Nat.land (Nat.shiftRight m i) 1 = m / 2 ^ i % 2 := by
    show (m >>> i) &&& 1 = _
    rw [Nat.and_one_is_mod, Nat.shiftRight_eq_div_pow]
  rw [this]
  simp

theorem bit_or (a b k : Nat) : hasBit (Nat.lor a b) k = (hasBit a k || hasBit b k) := by
  simp only [hasBit_eq]; exact Nat.testBit_or a b k
theorem bit_or' (a b k : Nat) : hasBit (a ||| b) k = (hasBit a k || hasBit b k) := bit_or a b k
theorem bit_pow (i k : Nat) : hasBit (2 ^ i) k = decide (i = k) := by
  rw [hasBit_eq, Nat.testBit_two_pow]
theorem bit_zero (k : Nat) : hasBit 0 k = false := by simp [hasBit_eq]
theorem bit_sub {m r : Nat} (h : (Nat.land m r).beq r = true) {k : Nat} (hk : hasBit r k = true) : hasBit m k = true := by
  have h' : m &&& r = r := by simpa using h
  rw [hasBit_eq] at *
  rw [← h', Nat.testBit_and] at hk
  simp at hk; exact hk.1
theorem bit_all {n i : Nat} (h : i < n) : hasBit (2 ^ n - 1) i = true := by
  rw [hasBit_eq, Nat.testBit_two_pow_sub_one]; simpa using h

def msk (ms : T Nat) (i : Nat) : Nat := (ms.get i).getD 0

theorem maskOf_ok {ms : T Nat} {i : Nat} : ∀ {es : List Edge} {m : Nat}, maskOf ms i es = some m →
    (∀ e ∈ es, Region.binds .any e = true → e.on < i ∧ hasBit m e.on = true ∧ ∀ k, hasBit (msk ms e.on) k = true → hasBit m k = true) ∧
    (∀ k, hasBit m k = true → ∃ e ∈ es, Region.binds .any e = true ∧ (k = e.on ∨ hasBit (msk ms e.on) k = true))
  | [], m, h => by
    simp [maskOf] at h; subst h
    exact ⟨fun e he => by simp at he, fun k hk => by rw [bit_zero] at hk; simp at hk⟩
  | e :: es, m, h => by
    simp only [maskOf] at h
    split at h
    · simp at h
    · rename_i s hs
      obtain ⟨h1, h2⟩ := maskOf_ok hs
      split at h
      · rename_i hb
        split at h
        · rename_i hlt
          have hlt' : e.on < i := by simpa [Nat.blt_eq] using hlt
          simp at h; subst h
          constructor
          · intro e' he' hb'
            rcases List.mem_cons.1 he' with rfl | he'
            · refine ⟨hlt', by rw [bit_or', bit_or', bit_pow]; simp, fun k hk => ?_⟩
              rw [bit_or']; unfold msk at hk; simp [hk]
            · obtain ⟨a, b, c⟩ := h1 e' he' hb'
              exact ⟨a, by rw [bit_or', bit_or', b]; simp, fun k hk => by rw [bit_or', bit_or', c k hk]; simp⟩
          · intro k hk
            rw [bit_or', bit_or', bit_pow] at hk
            simp only [Bool.or_eq_true, decide_eq_true_eq] at hk
            rcases hk with (hk | hk) | hk
            · obtain ⟨e', he', q⟩ := h2 k hk
              exact ⟨e', List.mem_cons_of_mem _ he', q⟩
            · exact ⟨e, by simp, hb, .inl hk.symm⟩
            · exact ⟨e, by simp, hb, .inr hk⟩
        · simp at h
      · rename_i hb
        simp at h; subst h
        constructor
        · intro e' he' hb'
          rcases List.mem_cons.1 he' with rfl | he'
          · rw [hb] at hb'; simp at hb'
          · exact h1 e' he' hb'
        · intro k hk
          obtain ⟨e', he', q⟩ := h2 k hk
          exact ⟨e', List.mem_cons_of_mem _ he', q⟩

structure WF (ops : List Oper) (ms : T Nat) (nt n : Nat) : Prop where
  aft : ∀ i o, i < n → ops[i]? = some o → ∀ e ∈ o.after.toList, Region.binds .any e = true → e.on < i ∧ hasBit (msk ms i) e.on = true ∧ ∀ k, hasBit (msk ms e.on) k = true → hasBit (msk ms i) k = true
  cov : ∀ i o, i < n → ops[i]? = some o → ∀ k, hasBit (msk ms i) k = true → ∃ e ∈ o.after.toList, Region.binds .any e = true ∧ (k = e.on ∨ hasBit (msk ms e.on) k = true)
  dst : ∀ i j oi oj d, i < n → j < n → ops[i]? = some oi → ops[j]? = some oj → oi.dst = some d → oj.dst = some d → i = j
  lt : ∀ i o d, i < n → ops[i]? = some o → o.dst = some d → d < nt
  use : ∀ i j oi oj t, i < n → j < n → ops[i]? = some oi → ops[j]? = some oj → t ∈ tmpsOf oi ops → oj.dst = some t → j = i ∨ hasBit (msk ms i) j = true ∨ hasBit (msk ms j) i = true

theorem allR_ok {w : T Nat} {m : Nat} : ∀ {ts : List Nat}, allR w m ts = true → ∀ t ∈ ts, ∀ k, w.get t = some k → hasBit m k = true
  | [], _, t, ht, _, _ => by simp at ht
  | t :: ts, h, t', ht', k, hk => by
    simp only [allR] at h
    split at h
    · rename_i hn
      rcases List.mem_cons.1 ht' with rfl | ht'
      · rw [hn] at hk; simp at hk
      · exact allR_ok h t' ht' k hk
    · rename_i k' hn
      split at h
      · rename_i hb
        rcases List.mem_cons.1 ht' with rfl | ht'
        · rw [hn] at hk; simp at hk; subst hk; exact hb
        · exact allR_ok h t' ht' k hk
      · simp at h

theorem addR_mono {i : Nat} : ∀ {ts : List Nat} {rd : T Nat} {t k : Nat}, hasBit ((rd.get t).getD 0) k = true → hasBit (((addR i ts rd).get t).getD 0) k = true
  | [], _, _, _, h => h
  | t' :: ts, rd, t, k, h => by
    simp only [addR]
    apply addR_mono
    rw [T.get_set]
    split
    · rename_i e; subst e; simp only [Option.getD_some]; rw [bit_or, h]; rfl
    · exact h
theorem addR_self {i : Nat} : ∀ {ts : List Nat} {rd : T Nat} {t : Nat}, t ∈ ts → hasBit (((addR i ts rd).get t).getD 0) i = true
  | t' :: ts, rd, t, h => by
    simp only [addR]
    rcases List.mem_cons.1 h with rfl | h
    · apply addR_mono
      rw [T.get_set_same]; simp only [Option.getD_some]; rw [bit_or, bit_pow]; simp
    · exact addR_self h

theorem msk_set {ms : T Nat} {i j m : Nat} : msk (ms.set i m) j = if j = i then m else msk ms j := by
  unfold msk; rw [T.get_set]; split <;> rfl

theorem wfGo_ok {ops : List Oper} {nt : Nat} : ∀ {os : List Oper} {i : Nat} {ms w rd ms' : T Nat}, wfGo ops nt os i ms w rd = some ms' → os = ops.drop i → i ≤ ops.length →
    WF ops ms nt i → (∀ t k, w.get t = some k → k < i) → (∀ j o d, j < i → ops[j]? = some o → o.dst = some d → w.get d = some j) →
    (∀ j o t, j < i → ops[j]? = some o → t ∈ tmpsOf o ops → hasBit ((rd.get t).getD 0) j = true) → WF ops ms' nt ops.length
  | [], i, ms, w, rd, ms', h, hos, hi, hw, _, _, _ => by
    simp [wfGo] at h; subst h
    have : i = ops.length := by have := congrArg List.length hos; simp at this; omega
    subst this; exact hw
  | o :: os, i, ms, w, rd, ms', h, hos, hi, hw, h1, h2, h3 => by
    have hlt : i < ops.length := by
      rcases Nat.lt_or_ge i ops.length with q | q
      · exact q
      · rw [List.drop_eq_nil_of_le q] at hos; simp at hos
    have hoi : ops[i]? = some o := by
      rw [List.drop_eq_getElem_cons hlt] at hos
      obtain ⟨e1, _⟩ := List.cons.inj hos
      rw [List.getElem?_eq_getElem hlt, e1]
    have hos' : os = ops.drop (i + 1) := by
      rw [List.drop_eq_getElem_cons hlt] at hos
      exact (List.cons.inj hos).2
    simp only [wfGo] at h
    split at h
    · simp at h
    · rename_i m hm
      obtain ⟨m1, m2⟩ := maskOf_ok hm
      split at h
      · simp at h
      · rename_i har
        have har' := allR_ok har
        have hmk : ∀ j, j < i → msk (ms.set i m) j = msk ms j := fun j hj => by rw [msk_set, if_neg (by omega)]
        have hmi : msk (ms.set i m) i = m := by rw [msk_set, if_pos rfl]
        -- what holds for any way of going on
        have haft : ∀ j o', j < i + 1 → ops[j]? = some o' → ∀ e ∈ o'.after.toList, Region.binds .any e = true → e.on < j ∧ hasBit (msk (ms.set i m) j) e.on = true ∧ ∀ k, hasBit (msk (ms.set i m) e.on) k = true → hasBit (msk (ms.set i m) j) k = true := by
          intro j o' hj ho' e he hb
          by_cases hji : j = i
          · subst hji
            rw [hoi] at ho'; cases ho'
            obtain ⟨a, b, c⟩ := m1 e he hb
            rw [hmi, hmk e.on a]; exact ⟨a, b, c⟩
          · have hj' : j < i := by omega
            obtain ⟨a, b, c⟩ := hw.aft j o' hj' ho' e he hb
            rw [hmk j hj', hmk e.on (by omega)]; exact ⟨a, b, c⟩
        have hcov : ∀ j o', j < i + 1 → ops[j]? = some o' → ∀ k, hasBit (msk (ms.set i m) j) k = true → ∃ e ∈ o'.after.toList, Region.binds .any e = true ∧ (k = e.on ∨ hasBit (msk (ms.set i m) e.on) k = true) := by
          intro j o' hj ho' k hk
          by_cases hji : j = i
          · subst hji
            rw [hoi] at ho'; cases ho'
            rw [hmi] at hk
            obtain ⟨e, he, hb, q⟩ := m2 k hk
            refine ⟨e, he, hb, ?_⟩
            rw [hmk e.on (m1 e he hb).1]; exact q
          · have hj' : j < i := by omega
            rw [hmk j hj'] at hk
            obtain ⟨e, he, hb, q⟩ := hw.cov j o' hj' ho' k hk
            refine ⟨e, he, hb, ?_⟩
            have := (hw.aft j o' hj' ho' e he hb).1
            rw [hmk e.on (by omega)]; exact q
        have hr3 : ∀ j o' t, j < i + 1 → ops[j]? = some o' → t ∈ tmpsOf o' ops → hasBit (((addR i (tmpsOf o ops) rd).get t).getD 0) j = true := by
          intro j o' t hj ho' ht
          by_cases hji : j = i
          · subst hji; rw [hoi] at ho'; cases ho'; exact addR_self ht
          · exact addR_mono (h3 j o' t (by omega) ho' ht)
        split at h
        · rename_i hd
          refine wfGo_ok h hos' (by omega) ⟨haft, hcov, ?_, ?_, ?_⟩ (fun t k hk => by have := h1 t k hk; omega) ?_ hr3
          · intro a b oa ob d ha hb hoa hob hda hdb
            by_cases hai : a = i
            · subst hai; rw [hoi] at hoa; cases hoa; rw [hd] at hda; simp at hda
            · by_cases hbi : b = i
              · subst hbi; rw [hoi] at hob; cases hob; rw [hd] at hdb; simp at hdb
              · exact hw.dst a b oa ob d (by omega) (by omega) hoa hob hda hdb
          · intro a oa d ha hoa hda
            by_cases hai : a = i
            · subst hai; rw [hoi] at hoa; cases hoa; rw [hd] at hda; simp at hda
            · exact hw.lt a oa d (by omega) hoa hda
          · intro a b oa ob t ha hb hoa hob hta hdb
            by_cases hbi : b = i
            · subst hbi; rw [hoi] at hob; cases hob; rw [hd] at hdb; simp at hdb
            · by_cases hai : a = i
              · subst hai; rw [hoi] at hoa; cases hoa
                rw [hmi]
                exact .inr (.inl (har' t hta b (h2 b ob t (by omega) hob hdb)))
              · rw [hmk a (by omega), hmk b (by omega)]
                exact hw.use a b oa ob t (by omega) (by omega) hoa hob hta hdb
          · intro a oa d ha hoa hda
            by_cases hai : a = i
            · subst hai; rw [hoi] at hoa; cases hoa; rw [hd] at hda; simp at hda
            · exact h2 a oa d (by omega) hoa hda
        · rename_i d hd
          split at h
          · rename_i hwd hrd hdn
            have hdn' : d < nt := by simpa [Nat.blt_eq] using hdn
            refine wfGo_ok h hos' (by omega) ⟨haft, hcov, ?_, ?_, ?_⟩ ?_ ?_ hr3
            · intro a b oa ob d' ha hb hoa hob hda hdb
              by_cases hai : a = i
              · by_cases hbi : b = i
                · omega
                · subst hai; rw [hoi] at hoa; cases hoa; rw [hd] at hda; cases hda
                  have := h2 b ob d (by omega) hob hdb
                  rw [hwd] at this; simp at this
              · by_cases hbi : b = i
                · subst hbi; rw [hoi] at hob; cases hob; rw [hd] at hdb; cases hdb
                  have := h2 a oa d (by omega) hoa hda
                  rw [hwd] at this; simp at this
                · exact hw.dst a b oa ob d' (by omega) (by omega) hoa hob hda hdb
            · intro a oa d' ha hoa hda
              by_cases hai : a = i
              · subst hai; rw [hoi] at hoa; cases hoa; rw [hd] at hda; cases hda; exact hdn'
              · exact hw.lt a oa d' (by omega) hoa hda
            · intro a b oa ob t ha hb hoa hob hta hdb
              by_cases hbi : b = i
              · by_cases hai : a = i
                · exact .inl (by omega)
                · subst hbi; rw [hoi] at hob; cases hob; rw [hd] at hdb; cases hdb
                  rw [hmi]
                  exact .inr (.inr (bit_sub hrd (h3 a oa d (by omega) hoa hta)))
              · by_cases hai : a = i
                · subst hai; rw [hoi] at hoa; cases hoa
                  rw [hmi]
                  exact .inr (.inl (har' t hta b (h2 b ob t (by omega) hob hdb)))
                · rw [hmk a (by omega), hmk b (by omega)]
                  exact hw.use a b oa ob t (by omega) (by omega) hoa hob hta hdb
            · intro t k hk
              rw [T.get_set] at hk
              split at hk
              · simp at hk; omega
              · have := h1 t k hk; omega
            · intro a oa d' ha hoa hda
              rw [T.get_set]
              by_cases hai : a = i
              · subst hai; rw [hoi] at hoa; cases hoa; rw [hd] at hda; cases hda; simp
              · have := h2 a oa d' (by omega) hoa hda
                split
                · rename_i e; subst e; rw [hwd] at this; simp at this
                · exact this
          · simp at h

theorem wf_ok {ops : List Oper} {nt : Nat} {ms : T Nat} (h : wfGo ops nt ops 0 .lf .lf .lf = some ms) : WF ops ms nt ops.length :=
  wfGo_ok h (by simp) (Nat.zero_le _) ⟨by intros; omega, by intros; omega, by intros; omega, by intros; omega, by intros; omega⟩ (fun t k hk => by simp [T.get] at hk) (by intros; omega) (by intros; omega)

/-! slots cut down to those that are looked at -/

theorem restr_get (tm : T AV) : ∀ (ts : List Nat) (t : Nat), (restr tm ts).get t = if t ∈ ts then tm.get t else none
  | [], t => by simp [restr, T.get]
  | k :: ks, t => by
    simp only [restr]
    split
    · rename_i hn
      rw [restr_get tm ks t]
      by_cases e : t = k
      · subst e; simp [hn]
      · simp [e]
    · rename_i v hv
      rw [T.get_set, restr_get tm ks t]
      by_cases e : t = k
      · subst e; simp [hv]
      · simp [e]

theorem mem_tmpsOp {t : Nat} : ∀ {xs : List Operand}, Operand.tmp t ∈ xs → t ∈ tmpsOp xs
  | x :: xs, h => by
    rcases List.mem_cons.1 h with rfl | h
    · simp [tmpsOp]
    · have := mem_tmpsOp h
      cases x <;> simp [tmpsOp, this]

theorem mem_tmpsOf {o : Oper} {ops : List Oper} {t : Nat} (h : Operand.tmp t ∈ o.op.operands.toList) : t ∈ tmpsOf o ops := by
  unfold tmpsOf
  have := mem_tmpsOp h
  split
  · split
    · exact List.mem_cons_of_mem _ this
    · exact this
  · exact this

theorem guard_tmpsOf {o : Oper} {ops : List Oper} {t g : Nat} {b : Bool} {og : Oper} (hg : o.guard = some (g, b)) (ho : ops[g]? = some og) (ht : og.dst = some t) : t ∈ tmpsOf o ops := by
  unfold tmpsOf
  rw [hg]
  simp [ho, ht]

/-- the slots that are looked at stand; the others are taken for undef -/
theorem fake {γ : Gm} {nt : Nat} {tm : T AV} {tmps : Array Value} {ts : List Nat} (hs : tmps.size = nt) (ho : ∀ t, nt ≤ t → tm.get t = none)
    (h : ∀ t ∈ ts, t < nt → ∃ v, tmps[t]? = some v ∧ VR γ ((tm.get t).getD (.tuple [])) v) :
    ∃ tmps' : Array Value, TR γ nt (restr tm ts) tmps' ∧ ∀ t ∈ ts, tmps'[t]? = tmps[t]? := by
  refine ⟨(Array.range nt).map fun t => if t ∈ ts then tmps.getD t undef else undef, ⟨by simp, fun t ht => ?_, fun t ht => ?_⟩, fun t ht => ?_⟩
  · rw [restr_get]
    by_cases e : t ∈ ts
    · obtain ⟨v, hv, hr⟩ := h t e ht
      refine ⟨v, ?_, by rw [if_pos e]; exact hr⟩
      simp [ht, e, Array.getD_eq_getD_getElem?, hv]
    · refine ⟨undef, by simp [ht, e], by rw [if_neg e]; exact VR.undef γ⟩
  · rw [restr_get]
    split
    · exact ho t ht
    · rfl
  · by_cases hlt : t < nt
    · obtain ⟨v, hv, _⟩ := h t ht hlt
      simp [hlt, ht, Array.getD_eq_getD_getElem?, hv]
    · rw [Array.getElem?_eq_none (by simp; omega), Array.getElem?_eq_none (by omega)]
end Go.Vex
