/- Part VexHeap of a checked interpreter for closed calls: what it answers, the machine of the model answers; its conditions are those of its theorems. -/
import Derived.Test.YtikkljdbpckihaaGreatDoorVexRel
set_option linter.unusedSimpArgs false
set_option linter.unusedVariables false
namespace Go.Vex

def ER (γ : Gm) : List (AV × AV × Nat) → List MapEntry → Prop
  | [], [] => True
  | (k, v, n) :: es, e :: es' => VR γ k e.key ∧ VR γ v e.val ∧ e.born = n ∧ ER γ es es'
  | _, _ => False

theorem ER.mono {γ γ' : Gm} (g : γ.le γ') : ∀ {a : List (AV × AV × Nat)} {b : List MapEntry}, ER γ a b → ER γ' a b
  | [], [], _ => trivial
  | (_, _, _) :: _, _ :: _, ⟨h1, h2, h3, h4⟩ => ⟨h1.mono g, h2.mono g, h3, ER.mono g h4⟩

/-- temporaries: what the tree holds stands in the slots; what it does not hold is 'undef' there -/
structure TR (γ : Gm) (nt : Nat) (tm : T AV) (tmps : Array Value) : Prop where
  size : tmps.size = nt
  get : ∀ t, t < nt → ∃ v, tmps[t]? = some v ∧ VR γ ((tm.get t).getD (.tuple [])) v
  out : ∀ t, nt ≤ t → tm.get t = none

theorem TR.mono {γ γ' : Gm} (g : γ.le γ') {nt : Nat} {tm : T AV} {tmps : Array Value} (h : TR γ nt tm tmps) : TR γ' nt tm tmps :=
  ⟨h.size, fun t ht => let ⟨v, hv, hr⟩ := h.get t ht; ⟨v, hv, hr.mono g⟩, h.out⟩

def LoopR (γ : Gm) (st : LoopState) (pend : Option Code) (fn : FuncId) (tm : T AV) (nt : Nat) (params : List Nat) (assign body : Code) (defers : Nat) (l : Loop) : Prop :=
  l.state = st ∧ l.pending = pend ∧ l.fn = fn ∧ TR γ nt tm l.tmps ∧ l.params.toList = params ∧ l.assign = assign ∧ l.body = body ∧ ∃ x, γ defers = some x ∧ l.defers = x.blk

/-- blocks that stay as they are; and the blocks that were there ahead of the program are those below 'nr' -/
structure Pr where
  f : Nat → Option Obj
  nr : Nat
  /-- block numbers that are spoken for, and what they stand for so far -/
  rv : Nat → Option (Option Bl)
instance : CoeFun Pr (fun _ => Nat → Option Obj) := ⟨Pr.f⟩

def BRel (pr : Pr) (γ : Gm) (w : World) (x : Bl) : AB → Prop
  | .cells n cs fz => (fz = false → x.sh = 0) ∧ ∃ cc t fr, w.heap[x.blk]? = some (.cells cc t fr) ∧ cc.size = x.sz ∧ x.sh + n ≤ cc.size ∧
      (∀ o a, cs.get o = some a → ∃ v, cc[x.sh + o]? = some v ∧ VR γ a v) ∧ (fz = false → fr = (0, 0) ∧ pr x.blk = none) ∧ (fz = true → x.blk < pr.nr)
  | .row n cs _ _ => ∃ cc t, w.heap[x.blk]? = some (.cells cc t (0, 0)) ∧ cc.size = x.sz ∧ x.sh + n ≤ cc.size ∧
      (∀ o a, o < n → cs.get o = some a → ∃ v, cc[x.sh + o]? = some v ∧ VR γ a v) ∧ pr x.blk = none
  | .map es clk => ∃ es', w.heap[x.blk]? = some (.map es' clk) ∧ ER γ es es'.toList ∧ pr x.blk = none
  | .loop st pend fn tm nt params assign body defers => ∃ l, w.heap[x.blk]? = some (.loop l) ∧ LoopR γ st pend fn tm nt params assign body defers l ∧ pr x.blk = none
  | .defr e => w.heap[x.blk]? = some (.deferred (if e then some [] else none)) ∧ pr x.blk = none

def AB.ro : AB → Bool
  | .cells _ _ fz => fz
  | _ => false

theorem BRel.mono {pr : Pr} {γ γ' : Gm} (g : γ.le γ') {w : World} {x : Bl} {ab : AB} (h : BRel pr γ w x ab) : BRel pr γ' w x ab := by
  cases ab with
  | cells n cs fz => obtain ⟨h0, cc, t, fr, h1, h2, h3, h4, h5⟩ := h; exact ⟨h0, cc, t, fr, h1, h2, h3, fun o a e => let ⟨v, hv, hr⟩ := h4 o a e; ⟨v, hv, hr.mono g⟩, h5⟩
  | row n cs gg s => obtain ⟨cc, t, h1, h2, h3, h4, h5⟩ := h; exact ⟨cc, t, h1, h2, h3, fun o a l e => let ⟨v, hv, hr⟩ := h4 o a l e; ⟨v, hv, hr.mono g⟩, h5⟩
  | map es clk => obtain ⟨es', h1, h2, h3⟩ := h; exact ⟨es', h1, h2.mono g, h3⟩
  | loop st pend fn tm nt params assign body defers =>
    obtain ⟨l, h1, ⟨a1, a2, a3, a4, a5, a6, a7, x', a8, a9⟩, h3⟩ := h
    exact ⟨l, h1, ⟨a1, a2, a3, a4.mono g, a5, a6, a7, x', g _ _ a8, a9⟩, h3⟩
  | defr e => exact h

/-- a block relation hangs on that block alone -/
theorem BRel.of_block {pr : Pr} {γ : Gm} {w w' : World} {x : Bl} {ab : AB} (h : BRel pr γ w x ab) (e : w'.heap[x.blk]? = w.heap[x.blk]?) : BRel pr γ w' x ab := by
  cases ab <;> simp only [BRel] at h ⊢ <;> rw [e] <;> exact h

structure Rel (pr : Pr) (ng : Nat) (γ : Gm) (h : H) (w : World) : Prop where
  prot : ∀ b o, pr b = some o → w.heap[b]? = some o
  fresh : ∀ i, h.c ≤ i → γ i = none
  glob : ∀ g, g < ng → ∃ sz, γ g = some ⟨g, 0, sz⟩
  blk : ∀ i ab, h.m.get i = some ab → ∃ x, γ i = some x ∧ BRel pr γ w x ab
  sep : ∀ i j ab ab' x y, i ≠ j → h.m.get i = some ab → h.m.get j = some ab' → γ i = some x → γ j = some y → x.blk = y.blk →
    (ab.ro = true ∧ ab'.ro = true) ∨ (∃ n cs g s n' cs' s', ab = .row n cs g s ∧ ab' = .row n' cs' g s' ∧ x.sh + s' = y.sh + s)
  grp : ∀ i n cs g s, h.m.get i = some (.row n cs g s) → g < h.c ∧ (n = 0 ∨ ∃ n', n ≤ n' ∧ (i, s, n') ∈ (h.g.get g).getD [])
  srt : ∀ g L, h.g.get g = some L → L.Pairwise (fun a b => b.2.1 + b.2.2 ≤ a.2.1 + a.2.2)
  res : ∀ b v, pr.rv b = some v → b < h.c ∧ γ b = v

theorem Gm.put_res {pr : Pr} {γ : Gm} {c : Nat} {x : Bl} (h : ∀ b v, pr.rv b = some v → b < c ∧ γ b = v) : ∀ b v, pr.rv b = some v → b < c + 1 ∧ (fun b' => if b' = c then some x else γ b') b = v := by
  intro b v hb
  obtain ⟨h1, h2⟩ := h b v hb
  refine ⟨by omega, ?_⟩
  show (if b = c then some x else γ b) = v
  rw [if_neg (by omega)]; exact h2

/-- the world's other parts, and that no block goes -/
structure WK (w w' : World) : Prop where
  os : w'.os = w.os
  tape : w'.tape = w.tape
  output : w'.output = w.output
  size : w.heap.size ≤ w'.heap.size

theorem WK.refl (w : World) : WK w w := ⟨rfl, rfl, rfl, Nat.le_refl _⟩
theorem WK.trans {a b c : World} (h : WK a b) (k : WK b c) : WK a c :=
  ⟨k.os.trans h.os, k.tape.trans h.tape, k.output.trans h.output, Nat.le_trans h.size k.size⟩

theorem lt_of_get {α : Type} {a : Array α} {i : Nat} {x : α} (h : a[i]? = some x) : i < a.size := by
  obtain ⟨h1, _⟩ := Array.getElem?_eq_some_iff.1 h; exact h1

theorem cell_of {w : World} {b : Nat} {cc : Array Value} {t : TypeId} {fr : Nat × Nat} (h : w.heap[b]? = some (.cells cc t fr)) (o : Nat) : w.cell? ⟨b, o, none⟩ = cc[o]? := by
  simp [World.cell?, h]
theorem frozen_of {w : World} {b : Nat} {cc : Array Value} {t : TypeId} (h : w.heap[b]? = some (.cells cc t (0, 0))) (o : Nat) : w.frozen? ⟨b, o, none⟩ = false := by
  simp [World.frozen?, h]

theorem Rel.drew {pr : Pr} {ng : Nat} {γ : Gm} {h : H} {w : World} (r : Rel pr ng γ h w) {w' : World} (e : w'.heap = w.heap) : Rel pr ng γ h w' where
  prot := by rw [e]; exact r.prot
  fresh := r.fresh
  glob := r.glob
  blk := fun i ab hi => let ⟨x, hx, hb⟩ := r.blk i ab hi; ⟨x, hx, hb.of_block (by rw [e])⟩
  sep := r.sep
  grp := r.grp
  srt := r.srt
  res := r.res

/-! reading -/
section
variable {pr : Pr} {ng : Nat} {γ : Gm} {h : H} {w : World} (r : Rel pr ng γ h w)
include r

theorem Rel.cellGet {b o : Nat} {a : AV} {x : Bl} (e : cellGet h b o = .ok a) (hx : γ b = some x) : ∃ v, w.cell? ⟨x.blk, x.sh + o, none⟩ = some v ∧ VR γ a v := by
  unfold Vex.cellGet at e
  split at e
  · rename_i n cs fz hb
    obtain ⟨y, hy, h0, cc, t, fr, h1, h2, h3, h4, _⟩ := r.blk _ _ hb
    obtain rfl : y = x := by rw [hx] at hy; exact (Option.some.inj hy).symm
    obtain ⟨v, hv, hr⟩ := h4 _ _ (og_ok e)
    exact ⟨v, by rw [cell_of h1]; exact hv, hr⟩
  · rename_i n cs g s hb
    obtain ⟨y, hy, cc, t, h1, h2, h3, h4, _⟩ := r.blk _ _ hb
    obtain rfl : y = x := by rw [hx] at hy; exact (Option.some.inj hy).symm
    obtain ⟨hlt, e'⟩ := gd_ok e
    obtain ⟨v, hv, hr⟩ := h4 o a (by simpa using hlt) (og_ok e')
    exact ⟨v, by rw [cell_of h1]; exact hv, hr⟩
  · simp at e

theorem Rel.cellsGet {b o k : Nat} {as : List AV} {x : Bl} (e : cellsGet h b o k = .ok as) (hx : γ b = some x) :
    as.length = k ∧ ∃ vs : List Value, VRL γ as vs ∧ ∀ j, j < k → ∃ v, vs[j]? = some v ∧ w.cell? ⟨x.blk, x.sh + o + j, none⟩ = some v := by
  unfold Vex.cellsGet at e
  split at e
  · rename_i hk
    simp at e hk; subst e; subst hk
    exact ⟨rfl, [], .nil, fun j hj => by omega⟩
  · split at e
    · rename_i n cs fz hb
      obtain ⟨y, hy, h0, cc, t, fr, h1, h2, h3, h4, _⟩ := r.blk _ _ hb
      obtain rfl : y = x := by rw [hx] at hy; exact (Option.some.inj hy).symm
      obtain ⟨hl, hg⟩ := cellsFrom_spec (og_ok e)
      have hv : ∀ j, j < k → ∃ a v, as[j]? = some a ∧ cc[y.sh + o + j]? = some v ∧ VR γ a v := by
        intro j hj
        obtain ⟨a, ha⟩ : ∃ a, as[j]? = some a := ⟨as[j]'(by omega), List.getElem?_eq_getElem (by omega)⟩
        obtain ⟨v, hv, hr⟩ := h4 (o + j) a (by rw [hg j hj]; exact ha)
        exact ⟨a, v, ha, by rw [Nat.add_assoc]; exact hv, hr⟩
      refine ⟨hl, (List.range k).map fun j => (cc[y.sh + o + j]?).getD Go.undef, ?_, ?_⟩
      · refine VRL.of_get (by simp [hl]) fun i a v ha hv' => ?_
        have hi : i < k := by have := (List.getElem?_eq_some_iff.1 ha).1; omega
        obtain ⟨a', v', ha', hv'', hr⟩ := hv i hi
        rw [ha'] at ha; cases ha
        simp [List.getElem?_map, List.getElem?_range hi, hv''] at hv'
        subst hv'; exact hr
      · intro j hj
        obtain ⟨a', v', ha', hv'', hr⟩ := hv j hj
        refine ⟨v', by simp [List.getElem?_map, List.getElem?_range hj, hv''], ?_⟩
        rw [cell_of h1]; exact hv''
    · rename_i n cs g s hb
      obtain ⟨y, hy, cc, t, h1, h2, h3, h4, _⟩ := r.blk _ _ hb
      obtain rfl : y = x := by rw [hx] at hy; exact (Option.some.inj hy).symm
      obtain ⟨hlt, e'⟩ := gd_ok e
      have hlt' : o + k ≤ n := by simpa using hlt
      obtain ⟨hl, hg⟩ := cellsFrom_spec (og_ok e')
      have hv : ∀ j, j < k → ∃ a v, as[j]? = some a ∧ cc[y.sh + o + j]? = some v ∧ VR γ a v := by
        intro j hj
        obtain ⟨a, ha⟩ : ∃ a, as[j]? = some a := ⟨as[j]'(by omega), List.getElem?_eq_getElem (by omega)⟩
        obtain ⟨v, hv, hr⟩ := h4 (o + j) a (by omega) (by rw [hg j hj]; exact ha)
        exact ⟨a, v, ha, by rw [Nat.add_assoc]; exact hv, hr⟩
      refine ⟨hl, (List.range k).map fun j => (cc[y.sh + o + j]?).getD Go.undef, ?_, ?_⟩
      · refine VRL.of_get (by simp [hl]) fun i a v ha hv' => ?_
        have hi : i < k := by have := (List.getElem?_eq_some_iff.1 ha).1; omega
        obtain ⟨a', v', ha', hv'', hr⟩ := hv i hi
        rw [ha'] at ha; cases ha
        simp [List.getElem?_map, List.getElem?_range hi, hv''] at hv'
        subst hv'; exact hr
      · intro j hj
        obtain ⟨a', v', ha', hv'', hr⟩ := hv j hj
        refine ⟨v', by simp [List.getElem?_map, List.getElem?_range hj, hv''], ?_⟩
        rw [cell_of h1]; exact hv''
    · simp at e

/-! a new block -/

def Gm.put (γ : Gm) (i : Nat) (x : Bl) : Gm := fun j => if j = i then some x else γ j

omit r in
theorem Gm.le_put {γ : Gm} {i : Nat} {x : Bl} (e : γ i = none) : γ.le (γ.put i x) := by
  intro b y hb
  unfold Gm.put
  split
  · rename_i hi; subst hi; rw [e] at hb; simp at hb
  · exact hb

/-- a new block, not a row -/
theorem Rel.new (o : Obj) (ab : AB) (sz : Nat) (hnr : ∀ n cs g s, ab ≠ .row n cs g s)
    (hb : ∀ γ', γ.le γ' → ∀ w' : World, w'.heap[w.heap.size]? = some o → pr w.heap.size = none → BRel pr γ' w' ⟨w.heap.size, 0, sz⟩ ab) :
    Rel pr ng (γ.put h.c ⟨w.heap.size, 0, sz⟩) { h with m := h.m.set h.c ab, c := h.c + 1 } { w with heap := w.heap.push o } := by
  have hc : γ h.c = none := r.fresh _ (Nat.le_refl _)
  have hle := Gm.le_put (x := ⟨w.heap.size, 0, sz⟩) hc
  have hpr : pr w.heap.size = none := by
    cases e : pr w.heap.size with
    | none => rfl
    | some o' => have := lt_of_get (r.prot _ _ e); omega
  have old : ∀ b, b < w.heap.size → (w.heap.push o)[b]? = w.heap[b]? := fun b hb => by rw [Array.getElem?_push, if_neg (by omega)]
  have hlt : ∀ i ab x, h.m.get i = some ab → γ i = some x → x.blk < w.heap.size := by
    intro i ab x hi hx
    obtain ⟨y, hy, hbr⟩ := r.blk i ab hi
    obtain rfl : y = x := by rw [hx] at hy; exact (Option.some.inj hy).symm
    cases ab with
    | cells n cs fz => obtain ⟨_, cc, t, fr, h1, _⟩ := hbr; exact lt_of_get h1
    | row n cs gg s => obtain ⟨cc, t, h1, _⟩ := hbr; exact lt_of_get h1
    | map es clk => obtain ⟨es', h1, _⟩ := hbr; exact lt_of_get h1
    | loop => obtain ⟨l, h1, _⟩ := hbr; exact lt_of_get h1
    | defr e => exact lt_of_get hbr.1
  have hmc : h.m.get h.c = none := by
    cases e : h.m.get h.c with
    | none => rfl
    | some ab' => obtain ⟨x, hx, _⟩ := r.blk _ _ e; rw [hc] at hx; simp at hx
  refine ⟨?_, ?_, ?_, ?_, ?_, ?_, ?_, Gm.put_res r.res⟩
  · intro b o' e
    have := r.prot b o' e
    show (w.heap.push o)[b]? = _
    rw [old b (lt_of_get this)]; exact this
  · intro i hi
    simp only [Gm.put]
    rw [if_neg (by simp at hi; omega)]
    exact r.fresh i (by simp at hi; omega)
  · intro g hg
    obtain ⟨s, hs⟩ := r.glob g hg
    exact ⟨s, hle _ _ hs⟩
  · intro i ab' hi
    rw [T.get_set] at hi
    by_cases e : i = h.c
    · rw [if_pos e] at hi; cases hi; subst e
      exact ⟨_, by simp [Gm.put], hb _ hle _ (by simp) hpr⟩
    · rw [if_neg e] at hi
      obtain ⟨x, hx, hbr⟩ := r.blk i ab' hi
      exact ⟨x, hle _ _ hx, (hbr.mono hle).of_block (old _ (hlt i ab' x hi hx))⟩
  · intro i j ab1 ab2 x y hij hi hj hx hy hxy
    rw [T.get_set] at hi hj
    simp only [Gm.put] at hx hy
    by_cases e : i = h.c
    · have hj' : j ≠ h.c := by omega
      rw [if_pos e] at hx; rw [if_neg hj'] at hj hy
      have := hlt j ab2 y hj hy
      cases hx; simp at hxy; omega
    · rw [if_neg e] at hi hx
      by_cases e' : j = h.c
      · rw [if_pos e'] at hy
        have := hlt i ab1 x hi hx
        cases hy; simp at hxy; omega
      · rw [if_neg e'] at hj hy
        exact r.sep i j ab1 ab2 x y hij hi hj hx hy hxy
  · intro i n cs g s hi
    rw [T.get_set] at hi
    by_cases e : i = h.c
    · rw [if_pos e] at hi; cases hi; exact absurd rfl (hnr _ _ _ _)
    · rw [if_neg e] at hi
      obtain ⟨h1, h2⟩ := r.grp i n cs g s hi
      exact ⟨by simp; omega, h2⟩
  · exact r.srt
end

theorem wk_push (w : World) (o : Obj) : WK w { w with heap := w.heap.push o } := ⟨rfl, rfl, rfl, by simp⟩

/-- the cells of a new block, related -/
theorem cells_new {γ : Gm} {as : List AV} {vs : List Value} (h : VRL γ as vs) (o : Nat) (a : AV) (e : (T.ofL .lf 0 as).get o = some a) : ∃ v, vs.toArray[o]? = some v ∧ VR γ a v := by
  rw [T.get_ofL] at e
  simp only [Nat.zero_le, true_and, Nat.zero_add, Nat.sub_zero] at e
  split at e
  · obtain ⟨v, hv, hr⟩ := h.get e; exact ⟨v, by simpa using hv, hr⟩
  · simp [T.get] at e

theorem Rel.newExact {pr : Pr} {ng : Nat} {γ : Gm} {h : H} {w : World} (r : Rel pr ng γ h w) {as : List AV} {vs : List Value} (hv : VRL γ as vs) (t : TypeId) :
    Rel pr ng (γ.put h.c ⟨w.heap.size, 0, vs.length⟩) (newExact h as).2 { w with heap := w.heap.push (.cells vs.toArray t) } := by
  refine r.new (.cells vs.toArray t) (.cells as.length (T.ofL .lf 0 as) false) vs.length (by intros; simp) ?_
  intro γ' g w' hw hp
  refine ⟨fun _ => rfl, vs.toArray, t, (0, 0), hw, by simp, by simp [hv.length], fun o a e => ?_, ⟨fun _ => ⟨rfl, hp⟩, by simp⟩⟩
  obtain ⟨v, hv', hr⟩ := cells_new hv o a e
  exact ⟨v, by rw [Nat.zero_add]; exact hv', hr.mono g⟩

end Go.Vex
