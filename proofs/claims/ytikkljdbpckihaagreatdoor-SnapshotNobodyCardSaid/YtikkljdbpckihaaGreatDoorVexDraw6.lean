/- Part VexDraw6 of a checked interpreter for closed calls: what it answers, the machine of the model answers; its conditions are those of its theorems. -/
import Derived.Test.YtikkljdbpckihaaGreatDoorVexDraw5
set_option linter.unusedSimpArgs false
set_option linter.unusedVariables false
namespace Go.Vex

theorem set_getD {l : Array Bool} {x i : Nat} (hx : x < l.size) : (l.setIfInBounds x true).getD i false = if i = x then true else l.getD i false := by
  simp only [Array.getD_eq_getD_getElem?]
  by_cases e : i = x
  · subst e; simp [hx]
  · rw [if_neg e, Array.getElem?_setIfInBounds_ne (Ne.symm e)]

/-- a new block that has been made, and waits -/
def Waits (pr0 pr : Pr) (c0 : Nat) (γ : Gm) (i : Nat) (ab : AB) : Prop :=
  ∃ blk sz obj, pr.rv (c0 + i) = some (some ⟨blk, 0, sz⟩) ∧ pr blk = some obj ∧ pr0 blk = none ∧ pr.nr ≤ blk ∧ NewOk γ blk sz obj ab ∧ ab.ro = false ∧ (∀ n cs g s, ab ≠ .row n cs g s)

theorem Waits.mono {pr0 pr : Pr} {c0 : Nat} {γ γ' : Gm} {i : Nat} {ab : AB} (g : γ.le γ') (h : Waits pr0 pr c0 γ i ab) : Waits pr0 pr c0 γ' i ab := by
  obtain ⟨blk, sz, obj, h1, h2, h3, h4, h5, h6⟩ := h
  exact ⟨blk, sz, obj, h1, h2, h3, h4, h5.mono g, h6⟩

def Dis (pr : Pr) (c0 n : Nat) : Prop := ∀ i i' x x', i ≠ i' → i < n → i' < n → pr.rv (c0 + i) = some (some x) → pr.rv (c0 + i') = some (some x') → x.blk ≠ x'.blk

theorem promo_ok {pr0 : Pr} {c0 n m ng : Nat} {γ : Gm} {w : World} : ∀ {L : List (Nat × AB)} {pr : Pr} {h : H}, (L.map (·.1)).Nodup → (∀ i ab, (i, ab) ∈ L → i < n ∧ (hasBit m i = true → Waits pr0 pr c0 γ i ab)) → Dis pr c0 n →
    (∀ b o, pr0 b = some o → pr b = some o) → Rel pr ng γ h w →
    ∃ pr' : Pr, Rel pr' ng γ (promo m c0 L h) w ∧ pr'.nr = pr.nr ∧ pr'.rv = pr.rv ∧ (∀ b o, pr0 b = some o → pr' b = some o) ∧
      ∀ i ab, i < n → (∀ ab', (i, ab') ∈ L → hasBit m i = false) → Waits pr0 pr c0 γ i ab → Waits pr0 pr' c0 γ i ab
  | [], pr, h, _, _, _, he, r => ⟨pr, r, rfl, rfl, he, fun _ _ _ _ q => q⟩
  | (j, aj) :: L, pr, h, hnd, hw, hd, he, r => by
    simp only [List.map_cons, List.nodup_cons] at hnd
    simp only [promo]
    split
    · rename_i hb
      obtain ⟨hjn, hwj⟩ := hw j aj (by simp)
      obtain ⟨blk, sz, obj, k1, k2, k3, k4, k5, k6, k7⟩ := hwj hb
      have hγ := (r.res _ _ k1).2
      have r' := r.promote hγ k2 k4 k5 k6 k7
      have keep : ∀ i ab, i ≠ j → i < n → Waits pr0 pr c0 γ i ab → Waits pr0 (pr.del blk) c0 γ i ab := by
        intro i ab hij hi q
        obtain ⟨b', sz', obj', q1, q2, q3⟩ := q
        refine ⟨b', sz', obj', q1, ?_, q3⟩
        have := hd i j _ _ hij hi hjn q1 k1
        show (if b' = blk then none else pr b') = _
        rw [if_neg this]; exact q2
      obtain ⟨pr', p1, p2, p3, p4, p5⟩ := promo_ok (L := L) (pr := pr.del blk) hnd.2
        (fun i ab hi => ⟨(hw i ab (List.mem_cons_of_mem _ hi)).1, fun hbi => keep i ab (fun e => hnd.1 (by rw [← e]; exact List.mem_map.2 ⟨(i, ab), hi, rfl⟩)) (hw i ab (List.mem_cons_of_mem _ hi)).1 ((hw i ab (List.mem_cons_of_mem _ hi)).2 hbi)⟩)
        hd (fun b o e => by
          show (if b = blk then none else pr b) = _
          rw [if_neg (fun q => by subst q; rw [k3] at e; simp at e)]; exact he b o e) r'
      refine ⟨pr', p1, p2, p3, p4, fun i ab hi hn q => p5 i ab hi (fun ab' h' => hn ab' (List.mem_cons_of_mem _ h')) (keep i ab (fun e => ?_) hi q)⟩
      subst e
      have := hn aj (by simp)
      rw [hb] at this; simp at this
    · rename_i hb
      obtain ⟨pr', p1, p2, p3, p4, p5⟩ := promo_ok (L := L) hnd.2 (fun i ab hi => hw i ab (List.mem_cons_of_mem _ hi)) hd he r
      exact ⟨pr', p1, p2, p3, p4, fun i ab hi hn q => p5 i ab hi (fun ab' h' => hn ab' (List.mem_cons_of_mem _ h')) q⟩

section
variable {Γ : Env} {big : AF → H → E BR} {ops : List Oper} {ms : T Nat} {nt c0 : Nat} {s0 F : PG} {S : Nat → PG}

structure Inv (P : Program) (Γ : Env) (ops : List Oper) (ms : T Nat) (nt c0 : Nat) (tm0 : T AV) (F : PG) (S : Nat → PG) (pr0 : Pr) (listed : Array Bool) (j : Nat) (pr : Pr) (γ : Gm) (tmps : Array Value) (w : World) : Prop where
  lsz : listed.size = ops.length
  down : ∀ i, i < ops.length → listed.getD i false = true → ∀ k, hasBit (msk ms i) k = true → listed.getD k false = true
  alive : ∀ p, F.dd = some p → listed.getD p.1 false = false
  jk : j ≤ F.hs.length
  ver : ∀ m x, F.hs.reverse[m]? = some x → (listed.getD x false = true ↔ m < j)
  rel : ∃ Hj, (F.h :: F.vs).reverse[j]? = some Hj ∧ Rel pr Γ.ng γ Hj w
  nr : pr.nr = pr0.nr
  ext : ∀ b o, pr0 b = some o → pr b = some o
  rext : ∀ b v, pr0.rv b = some v → pr.rv b = some v ∧ b < c0
  sl : Slots ops nt tm0 F listed γ tmps
  hn : pr0.nr ≤ w.heap.size
  un : ∀ i, i < ops.length → listed.getD i false = false → pr.rv (c0 + i) = some none
  pend : ∀ i p, i < ops.length → listed.getD i false = true → AllocAt Γ ops ms S i p → (∀ m x, m < j → F.hs.reverse[m]? = some x → hasBit (msk ms x) i = false) → Waits pr0 pr c0 γ i p.1
  dis : Dis pr c0 ops.length
  dlt : ∀ i x, i < ops.length → pr.rv (c0 + i) = some (some x) → x.blk < w.heap.size

theorem Slots.put {W : WF ops ms nt ops.length} {tm0 : T AV} {listed : Array Bool} {γ γ' : Gm} {tmps : Array Value} (h : Slots ops nt tm0 F listed γ tmps) (g : γ.le γ') {x : Nat} {o : Oper} (hx : x < ops.length) (hls : listed.size = ops.length)
    (ho : ops[x]? = some o) {v : AV} {v' : Value} (hv : VR γ' v v') (hF : ∀ d, o.dst = some d → F.tm.get d = some v) :
    Slots ops nt tm0 F (listed.setIfInBounds x true) γ' (match o.dst with | some d => tmps.setIfInBounds d v' | none => tmps) := by
  have hg := fun i => set_getD (l := listed) (x := x) (i := i) (by omega)
  cases hd : o.dst with
  | none =>
    refine ⟨h.sz, fun i o' d hi ho' hd' hl => ?_, fun d hdn hun => ?_⟩
    · rw [hg] at hl
      by_cases e : i = x
      · subst e; rw [ho] at ho'; cases ho'; rw [hd] at hd'; simp at hd'
      · rw [if_neg e] at hl
        obtain ⟨u, h1, h2⟩ := h.wr i o' d hi ho' hd' hl
        exact ⟨u, h1, h2.mono g⟩
    · obtain ⟨u, h1, h2⟩ := h.un d hdn fun i o' hi ho' hd' => by
        have := hun i o' hi ho' hd'
        rw [hg] at this
        split at this
        · simp at this
        · exact this
      exact ⟨u, h1, h2.mono g⟩
  | some d =>
    have hdn := W.lt x o d hx ho hd
    refine ⟨by simp [h.sz], fun i o' d' hi ho' hd' hl => ?_, fun d' hdn' hun => ?_⟩
    · rw [hg] at hl
      by_cases e : i = x
      · subst e; rw [ho] at ho'; cases ho'; rw [hd] at hd'; cases hd'
        exact ⟨v', by simp [h.sz, hdn], by rw [hF d hd]; exact hv⟩
      · rw [if_neg e] at hl
        have hne : d' ≠ d := fun q => e (by subst q; exact W.dst i x o' o d' hi hx ho' ho hd' hd)
        obtain ⟨u, h1, h2⟩ := h.wr i o' d' hi ho' hd' hl
        exact ⟨u, by simp only []; rw [Array.getElem?_setIfInBounds_ne (Ne.symm hne)]; exact h1, h2.mono g⟩
    · have hne : d' ≠ d := fun q => by
        have := hun x o hx ho (by rw [q]; exact hd)
        rw [hg, if_pos rfl] at this; simp at this
      obtain ⟨u, h1, h2⟩ := h.un d' hdn' fun i o' hi ho' hd' => by
        have := hun i o' hi ho' hd'
        rw [hg] at this
        split at this
        · simp at this
        · exact this
      exact ⟨u, by simp only []; rw [Array.getElem?_setIfInBounds_ne (Ne.symm hne)]; exact h1, h2.mono g⟩

/-- what an operation looks at, as it is about to run -/
theorem Slots.look (W : WF ops ms nt ops.length) (t : Tr Γ big ops ms nt c0 s0 F S) (hout : ∀ d, nt ≤ d → s0.tm.get d = none) {listed : Array Bool} {γ : Gm} {tmps : Array Value} (h : Slots ops nt s0.tm F listed γ tmps)
    (hdown : ∀ i, i < ops.length → listed.getD i false = true → ∀ k, hasBit (msk ms i) k = true → listed.getD k false = true)
    {x : Nat} {o : Oper} (hx : x < ops.length) (ho : ops[x]? = some o) (hu : listed.getD x false = false) (hm : ∀ k, hasBit (msk ms x) k = true → listed.getD k false = true) :
    ∃ tmps' : Array Value, TR γ nt (restr (S x).tm (tmpsOf o ops)) tmps' ∧ ∀ d ∈ tmpsOf o ops, tmps'[d]? = tmps[d]? := by
  refine fake h.sz (fun d hd => ?_) fun d hd hdn => ?_
  · rw [t.tm (a := 0) (b := x) (Nat.zero_le _) (Nat.le_of_lt hx) fun m o' _ (h2 : m < x) ho' e => absurd (W.lt m o' d (Nat.lt_trans h2 hx) ho' e) (Nat.not_lt.2 hd), t.s0]
    exact hout d hd
  · by_cases hw : ∃ m om, m < ops.length ∧ ops[m]? = some om ∧ om.dst = some d
    · obtain ⟨m, om, hmn, hom, hmd⟩ := hw
      rcases W.use x m o om d hx hmn ho hom hd hmd with q | q | q
      · subst q
        rw [t.tm (a := 0) (b := m) (Nat.zero_le _) (Nat.le_of_lt hx) fun m' o' _ h2 ho' e => by have := W.dst m' m o' om d (by omega) hmn ho' hom e hmd; omega, t.s0]
        exact h.un d hdn fun i o' hi ho' hd' => by rw [W.dst i m o' om d hi hmn ho' hom hd' hmd]; exact hu
      · have hmx := W.bit_lt hx q
        have e1 : (S x).tm.get d = F.tm.get d := by
          have q2 := t.tm (a := x) (b := ops.length) (d := d) (Nat.le_of_lt hx) (Nat.le_refl _) (fun m' o' h1 h2 ho' e => by
            have := W.dst m' m o' om d h2 hmn ho' hom e hmd
            omega)
          rw [← q2, t.fin]
        rw [e1]
        exact h.wr m om d hmn hom hmd (hm m q)
      · have hmx := W.bit_lt hmn q
        rw [t.tm (a := 0) (b := x) (Nat.zero_le _) (Nat.le_of_lt hx) fun m' o' _ h2 ho' e => by have := W.dst m' m o' om d (by omega) hmn ho' hom e hmd; omega, t.s0]
        refine h.un d hdn fun i o' hi ho' hd' => ?_
        rw [W.dst i m o' om d hi hmn ho' hom hd' hmd]
        cases hl : listed.getD m false with
        | false => rfl
        | true => rw [hdown m hmn hl x q] at hu; simp at hu
    · have hno : ∀ m o', m < ops.length → ops[m]? = some o' → o'.dst ≠ some d := fun m o' h1 h2 h3 => hw ⟨m, o', h1, h2, h3⟩
      rw [t.tm (a := 0) (b := x) (Nat.zero_le _) (Nat.le_of_lt hx) fun m' o' _ h2 ho' => hno m' o' (by omega) ho', t.s0]
      exact h.un d hdn fun i o' hi ho' hd' => absurd hd' (hno i o' hi ho')
end
end Go.Vex
