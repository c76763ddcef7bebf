/- Part VexRel of a checked interpreter for closed calls: what it answers, the machine of the model answers; its conditions are those of its theorems. -/
import Derived.Test.YtikkljdbpckihaaGreatDoorVexDefs
import Derived.Calls
import Derived.Below
set_option linter.unusedSimpArgs false
set_option linter.unusedVariables false
namespace Go.Vex

/-! finite maps -/

theorem T.setF_nd {α : Type} (f : Nat) (ih : ∀ (t : T α) (n m : Nat) (x : α), n < f → (T.setF f t n x).get m = if m = n then some x else t.get m)
    (l : T α) (v : Option α) (r : T α) (n m : Nat) (x : α) (h : n < f + 1) : (T.setF (f + 1) (.nd l v r) n x).get m = if m = n then some x else (T.nd l v r).get m := by
  have e0 : n.beq 0 = decide (n = 0) := by rw [Bool.eq_iff_iff]; simp
  have e1 : (n % 2).beq 1 = decide (n % 2 = 1) := by rw [Bool.eq_iff_iff]; simp
  have m0 : m.beq 0 = decide (m = 0) := by rw [Bool.eq_iff_iff]; simp
  have m1 : (m % 2).beq 1 = decide (m % 2 = 1) := by rw [Bool.eq_iff_iff]; simp
  simp only [T.setF]
  by_cases h0 : n = 0
  · subst h0
    by_cases hm : m = 0
    · subst hm; simp [T.get]
    · simp [T.get, m0, hm]
  · by_cases h1 : n % 2 = 1
    · simp only [e0, e1, h0, h1, decide_true, decide_false]
      by_cases hm : m = 0
      · subst hm; simp [T.get, Ne.symm h0]
      · by_cases hm1 : m % 2 = 1
        · simp only [T.get, m0, m1, hm, hm1, decide_true, decide_false]
          rw [ih l (n / 2) (m / 2) x (by omega)]
          by_cases e : m = n
          · simp [e]
          · rw [if_neg e, if_neg (by omega)]
        · simp only [T.get, m0, m1, hm, hm1, decide_false]
          rw [if_neg (by omega)]
    · simp only [e0, e1, h0, h1, decide_false]
      by_cases hm : m = 0
      · subst hm; simp [T.get, Ne.symm h0]
      · by_cases hm1 : m % 2 = 1
        · simp only [T.get, m0, m1, hm, hm1, decide_true, decide_false]
          rw [if_neg (by omega)]
        · simp only [T.get, m0, m1, hm, hm1, decide_false]
          rw [ih r (n / 2 - 1) (m / 2 - 1) x (by omega)]
          by_cases e : m = n
          · simp [e]
          · rw [if_neg e, if_neg (by omega)]

theorem T.setF_get {α : Type} (f : Nat) : ∀ (t : T α) (n m : Nat) (x : α), n < f → (T.setF f t n x).get m = if m = n then some x else t.get m := by
  induction f with
  | zero => intro t n m x h; omega
  | succ f ih =>
    intro t n m x h
    cases t with
    | lf =>
      have h1 : T.setF (f + 1) (.lf : T α) n x = T.setF (f + 1) (.nd .lf none .lf) n x := rfl
      have h2 : (T.nd .lf none .lf : T α).get m = none := by simp only [T.get]; split <;> (try rfl); split <;> rfl
      rw [h1, T.setF_nd f ih _ _ _ _ _ _ h, h2]; rfl
    | nd l v r => exact T.setF_nd f ih _ _ _ _ _ _ h

theorem T.get_set {α : Type} (t : T α) (n m : Nat) (x : α) : (t.set n x).get m = if m = n then some x else t.get m := T.setF_get _ _ _ _ _ (by omega)
theorem T.get_set_same {α : Type} (t : T α) (n : Nat) (x : α) : (t.set n x).get n = some x := by rw [T.get_set, if_pos rfl]
theorem T.get_set_ne {α : Type} (t : T α) {n m : Nat} (x : α) (h : m ≠ n) : (t.set n x).get m = t.get m := by rw [T.get_set, if_neg h]

theorem T.get_ofL {α : Type} (vs : List α) : ∀ (t : T α) (o m : Nat), (T.ofL t o vs).get m = if o ≤ m ∧ m < o + vs.length then vs[m - o]? else t.get m := by
  induction vs with
  | nil => intro t o m; simp only [T.ofL, List.length_nil]; rw [if_neg (by omega)]
  | cons v vs ih =>
    intro t o m
    simp only [T.ofL, ih, List.length_cons]
    by_cases h : o + 1 ≤ m ∧ m < o + 1 + vs.length
    · rw [if_pos h, if_pos (by omega), show m - o = (m - (o + 1)) + 1 from by omega]; simp
    · rw [if_neg h, T.get_set]
      by_cases e : m = o
      · subst e; rw [if_pos rfl, if_pos (by omega)]; simp
      · rw [if_neg e, if_neg (by omega)]

theorem cellsFrom_spec {cs : T AV} : ∀ {k o : Nat} {vs : List AV}, cellsFrom cs o k = some vs → vs.length = k ∧ ∀ j, j < k → cs.get (o + j) = vs[j]? := by
  intro k
  induction k with
  | zero => intro o vs h; simp [cellsFrom] at h; subst h; simp
  | succ k ih =>
    intro o vs h
    simp only [cellsFrom] at h
    cases hv : cs.get o with
    | none => simp [hv] at h
    | some v =>
      simp only [hv] at h
      cases hr : cellsFrom cs (o + 1) k with
      | none => simp [hr] at h
      | some vs' =>
        simp only [hr, Option.some.injEq] at h
        subst h
        obtain ⟨h1, h2⟩ := ih hr
        refine ⟨by simp [h1], fun j hj => ?_⟩
        cases j with
        | zero => simp [hv]
        | succ j => rw [show o + (j + 1) = o + 1 + j from by omega, h2 j (by omega)]; simp

/-! results -/

theorem bd_ok {α β : Type} {x : E α} {f : α → E β} {b : β} (h : bd x f = .ok b) : ∃ a, x = .ok a ∧ f a = .ok b := by
  cases x with
  | ok a => exact ⟨a, rfl, h⟩
  | no k => simp [bd] at h
theorem og_ok {α : Type} {k : Nat} {x : Option α} {a : α} (h : og k x = .ok a) : x = some a := by
  cases x with
  | none => simp [og] at h
  | some b => simp [og] at h; rw [h]
theorem gd_ok {β : Type} {k : Nat} {c : Bool} {x : E β} {b : β} (h : gd k c x = .ok b) : c = true ∧ x = .ok b := by
  cases c with
  | true => exact ⟨rfl, h⟩
  | false => simp [gd] at h

/-! what an abstract value stands for -/

structure Bl where
  blk : Nat
  sh : Nat
  sz : Nat

abbrev Gm := Nat → Option Bl

def Gm.le (γ γ' : Gm) : Prop := ∀ b x, γ b = some x → γ' b = some x
theorem Gm.le_refl (γ : Gm) : γ.le γ := fun _ _ h => h
theorem Gm.le_trans {a b c : Gm} (h : a.le b) (k : b.le c) : a.le c := fun _ _ e => k _ _ (h _ _ e)

mutual
inductive VR (γ : Gm) : AV → Value → Prop
  | bool (b : Bool) : VR γ (.bool b) (.bool b)
  | int (k : IntKind) (n : Int) : VR γ (.int k n) (.int k n)
  | str (s : ByteArray) : VR γ (.str (s.data.toList.map (·.toNat))) (.string s)
  | ptr {b : Nat} {x : Bl} (o : Nat) (h : γ b = some x) : VR γ (.ptr b o) (.pointer (some ⟨x.blk, x.sh + o, none⟩))
  | nilptr : VR γ .nilptr (.pointer none)
  | sliceK {b : Nat} {x : Bl} {o' : Nat} (o len c : Nat) (h : γ b = some x) (hl : len ≤ c) (ho : 0 < c → o' = x.sh + o) : VR γ (.slice b o len (.k c)) (.slice (some ⟨x.blk, o', none⟩) len c)
  | sliceU {b : Nat} {x : Bl} {o' c : Nat} (o len e : Nat) (h : γ b = some x) (hl : len ≤ c) (ho : 0 < c → o' = x.sh + o ∧ x.sh + o + c * e ≤ x.sz) :
      VR γ (.slice b o len (.u e)) (.slice (some ⟨x.blk, o', none⟩) len c)
  | nilslice : VR γ .nilslice (.slice none 0 0)
  | map {b : Nat} {x : Bl} (h : γ b = some x) : VR γ (.map b) (.map (some x.blk))
  | nilmap : VR γ .nilmap (.map none)
  | func {f : FuncId} {a c : List AV} {a' c' : Array Value} (ha : VRL γ a a'.toList) (hc : VRL γ c c'.toList) : VR γ (.func f a c) (.func (.func f) a' c')
  | nilFunc : VR γ .nilFunc .nilFunc
  | yieldv {l : Nat} {x : Bl} (h : γ l = some x) : VR γ (.yieldv l) (.func (.yield x.blk) #[] #[])
  | iface {v : AV} {v' : Value} (t : TypeId) (h : VR γ v v') : VR γ (.iface t v) (.iface t v')
  | nilIface : VR γ .nilIface .nilIface
  | agg {cs : List AV} {cs' : Array Value} (h : VRL γ cs cs'.toList) : VR γ (.agg cs) (.agg cs')
  | tuple {cs : List AV} {cs' : Array Value} (h : VRL γ cs cs'.toList) : VR γ (.tuple cs) (.tuple cs')
inductive VRL (γ : Gm) : List AV → List Value → Prop
  | nil : VRL γ [] []
  | cons {a : AV} {v : Value} {as : List AV} {vs : List Value} (h : VR γ a v) (t : VRL γ as vs) : VRL γ (a :: as) (v :: vs)
end

mutual
theorem VR.mono {γ γ' : Gm} (g : γ.le γ') : ∀ {a : AV} {v : Value}, VR γ a v → VR γ' a v
  | _, _, .bool b => .bool b
  | _, _, .int k n => .int k n
  | _, _, .str s => .str s
  | _, _, .ptr o h => .ptr o (g _ _ h)
  | _, _, .nilptr => .nilptr
  | _, _, .sliceK o len c h hl ho => .sliceK o len c (g _ _ h) hl ho
  | _, _, .sliceU o len e h hl ho => .sliceU o len e (g _ _ h) hl ho
  | _, _, .nilslice => .nilslice
  | _, _, .map h => .map (g _ _ h)
  | _, _, .nilmap => .nilmap
  | _, _, .func ha hc => .func (VRL.mono g ha) (VRL.mono g hc)
  | _, _, .nilFunc => .nilFunc
  | _, _, .yieldv h => .yieldv (g _ _ h)
  | _, _, .iface t h => .iface t (VR.mono g h)
  | _, _, .nilIface => .nilIface
  | _, _, .agg h => .agg (VRL.mono g h)
  | _, _, .tuple h => .tuple (VRL.mono g h)
theorem VRL.mono {γ γ' : Gm} (g : γ.le γ') : ∀ {a : List AV} {v : List Value}, VRL γ a v → VRL γ' a v
  | _, _, .nil => .nil
  | _, _, .cons h t => .cons (VR.mono g h) (VRL.mono g t)
end

theorem VRL.length {γ : Gm} : ∀ {a : List AV} {v : List Value}, VRL γ a v → a.length = v.length
  | _, _, .nil => rfl
  | _, _, .cons _ t => by simp [VRL.length t]
theorem VRL.get {γ : Gm} : ∀ {a : List AV} {v : List Value}, VRL γ a v → ∀ {i : Nat} {x : AV}, a[i]? = some x → ∃ y, v[i]? = some y ∧ VR γ x y
  | _, _, .nil, i, x, h => by simp at h
  | _, _, .cons h t, 0, x, e => by simp at e; subst e; exact ⟨_, rfl, h⟩
  | _, _, .cons h t, i + 1, x, e => by simp at e; simpa using VRL.get t e
theorem VRL.of_get {γ : Gm} : ∀ {a : List AV} {v : List Value}, a.length = v.length → (∀ (i : Nat) (x : AV) (y : Value), a[i]? = some x → v[i]? = some y → VR γ x y) → VRL γ a v
  | [], [], _, _ => .nil
  | [], _ :: _, h, _ => by simp at h
  | _ :: _, [], h, _ => by simp at h
  | a :: as, v :: vs, h, k => .cons (k 0 a v rfl rfl) (VRL.of_get (by simpa using h) fun i x y hx hy => k (i + 1) x y (by simpa using hx) (by simpa using hy))
theorem VRL.append {γ : Gm} : ∀ {a b : List AV} {v u : List Value}, VRL γ a v → VRL γ b u → VRL γ (a ++ b) (v ++ u)
  | _, _, _, _, .nil, h => h
  | _, _, _, _, .cons h t, k => .cons h (VRL.append t k)
theorem VRL.take {γ : Gm} : ∀ (n : Nat) {a : List AV} {v : List Value}, VRL γ a v → VRL γ (a.take n) (v.take n)
  | 0, _, _, _ => by simp; exact .nil
  | n + 1, _, _, .nil => by simp; exact .nil
  | n + 1, _, _, .cons h t => by simp; exact .cons h (VRL.take n t)
theorem VRL.drop {γ : Gm} : ∀ (n : Nat) {a : List AV} {v : List Value}, VRL γ a v → VRL γ (a.drop n) (v.drop n)
  | 0, _, _, h => by simpa using h
  | n + 1, _, _, .nil => by simp; exact .nil
  | n + 1, _, _, .cons _ t => by simpa using VRL.drop n t

theorem VR.undef (γ : Gm) : VR γ (.tuple []) Go.undef := .tuple .nil

theorem VR.cells {γ : Gm} {a : AV} {v : Value} (h : VR γ a v) : VRL γ a.cells v.cells.toList := by
  cases h with
  | agg h => exact h
  | _ => exact .cons (by constructor <;> assumption) .nil

theorem absS_ok (γ : Gm) {v : Value} {a : AV} (h : absS v = some a) : VR γ a v := by
  unfold absS at h
  split at h <;> simp at h <;> subst h <;> constructor
theorem absL_ok (γ : Gm) : ∀ {vs : List Value} {as : List AV}, absL vs = some as → VRL γ as vs
  | [], _, h => by simp [absL] at h; subst h; exact .nil
  | v :: vs, _, h => by
    simp only [absL] at h
    split at h
    · simp at h
    · rename_i a ha
      split at h
      · simp at h
      · rename_i as has
        simp at h; subst h
        exact .cons (absS_ok γ ha) (absL_ok γ has)
theorem absC_ok (γ : Gm) {v : Value} {a : AV} (h : absC v = some a) : VR γ a v := by
  unfold absC at h
  split at h
  · simp at h; obtain ⟨l, hl, rfl⟩ := h; exact .agg (absL_ok γ hl)
  · simp at h; obtain ⟨l, hl, rfl⟩ := h; exact .tuple (absL_ok γ hl)
  · exact absS_ok γ h

end Go.Vex
