/- Part VexDraw2 of a checked interpreter for closed calls: what it answers, the machine of the model answers; its conditions are those of its theorems. -/
import Derived.Test.YtikkljdbpckihaaGreatDoorVexDraw1
set_option linter.unusedSimpArgs false
set_option linter.unusedVariables false
namespace Go.Vex

/-! values that are the same -/
theorem kbeq_ok {a b : IntKind} (h : kbeq a b = true) : a = b := by cases a <;> cases b <;> first | rfl | simp [kbeq] at h
theorem ieq_ok' {a b : Int} (h : ieq a b = true) : a = b := by
  cases a <;> cases b <;> simp [ieq] at h <;> subst h <;> rfl
theorem beqL_ok' : ∀ {a b : List Nat}, beqL a b = true → a = b
  | [], [], _ => rfl
  | [], _ :: _, h => by simp [beqL] at h
  | _ :: _, [], h => by simp [beqL] at h
  | x :: a, y :: b, h => by
    simp only [beqL] at h
    split at h
    · rename_i hx
      have : x = y := by simpa using hx
      rw [this, beqL_ok' h]
    · simp at h
mutual
theorem avEq_ok : ∀ {a b : AV}, avEq a b = true → a = b
  | .bool a, .bool b, h => by cases a <;> cases b <;> first | rfl | simp [avEq] at h
  | .int k a, .int k' b, h => by simp [avEq] at h; rw [kbeq_ok h.1, ieq_ok' h.2]
  | .str a, .str b, h => by simp [avEq] at h; rw [beqL_ok' h]
  | .ptr b o, .ptr b' o', h => by simp [avEq] at h; rw [h.1, h.2]
  | .nilptr, .nilptr, _ => rfl
  | .slice b o l (.u c), .slice b' o' l' (.u c'), h => by simp [avEq] at h; obtain ⟨rfl, rfl, rfl, rfl⟩ := h; rfl
  | .slice b o l (.k c), .slice b' o' l' (.k c'), h => by simp [avEq] at h; obtain ⟨rfl, rfl, rfl, rfl⟩ := h; rfl
  | .nilslice, .nilslice, _ => rfl
  | .map b, .map b', h => by simp [avEq] at h; rw [h]
  | .nilmap, .nilmap, _ => rfl
  | .func f a c, .func f' a' c', h => by simp [avEq] at h; rw [h.1, avEqL_ok h.2.1, avEqL_ok h.2.2]
  | .nilFunc, .nilFunc, _ => rfl
  | .yieldv l, .yieldv l', h => by simp [avEq] at h; rw [h]
  | .iface t v, .iface t' v', h => by simp [avEq] at h; rw [h.1, avEq_ok h.2]
  | .nilIface, .nilIface, _ => rfl
  | .agg a, .agg b, h => by simp [avEq] at h; rw [avEqL_ok h]
  | .tuple a, .tuple b, h => by simp [avEq] at h; rw [avEqL_ok h]
theorem avEqL_ok : ∀ {a b : List AV}, avEqL a b = true → a = b
  | [], [], _ => rfl
  | x :: a, y :: b, h => by simp [avEqL] at h; rw [avEq_ok h.1, avEqL_ok h.2]
end

/-! operations that leave the heap -/

/-- the heap is not looked at -/
def Pur (F : H → E R) : Prop := ∀ h r, F h = .ok r → ∃ v, r = .val v h ∧ ∀ h2, F h2 = .ok (.val v h2)
theorem Pur.val (v : AV) : Pur fun h => .ok (.val v h) := fun h r e => by simp at e; exact ⟨v, e.symm, fun _ => rfl⟩
theorem Pur.no (k : Nat) : Pur fun _ => .no k := fun h r e => by simp at e
theorem Pur.bd {α : Type} {x : E α} {f : α → H → E R} (h : ∀ a, Pur (f a)) : Pur fun hh => bd x fun a => f a hh := by
  intro hh r e
  obtain ⟨a, ha, e1⟩ := bd_ok e
  obtain ⟨v, h1, h2⟩ := h a hh r e1
  exact ⟨v, h1, fun h3 => by rw [ha]; exact h2 h3⟩
theorem Pur.gd {k : Nat} {c : Bool} {f : H → E R} (h : Pur f) : Pur fun hh => gd k c (f hh) := by
  cases c
  · exact Pur.no k
  · exact h

theorem conv_pur (Γ : Env) (s d : TypeId) (x : AV) : Pur fun h => Vex.bd (convA Γ s d h x) fun (v, h') => .ok (.val v h') := by
  intro h r e
  obtain ⟨p, h1, e1⟩ := bd_ok e
  simp at e1; subst e1
  unfold convA at h1
  obtain ⟨i, hi, e2⟩ := bd_ok h1; clear h1
  obtain ⟨j, hj, e3⟩ := bd_ok e2; clear e2
  split at e3
  · simp at e3; subst e3
    refine ⟨_, rfl, fun h2 => ?_⟩
    rename_i hd
    unfold convA; rw [hi, hj]; simp only [Vex.bd]; rw [hd]
  · simp at e3; subst e3
    refine ⟨_, rfl, fun h2 => ?_⟩
    rename_i hd
    unfold convA; rw [hi, hj]; simp only [Vex.bd]; rw [hd]
  · simp at e3

theorem opA_pur {Γ : Env} {tm : T AV} {o : Oper} (hc : cls o.op = 0) : Pur fun h => opA Γ tm h o := by
  obtain ⟨dst, op, type, pos, after, guard⟩ := o
  cases op <;> (try (simp [cls] at hc; done)) <;> simp only [opA]
  case move => exact .bd fun v => .val v
  case assign => exact .bd fun v => .val v
  case pick => exact .bd fun v => by split <;> first | exact .bd fun v => .val v | exact .no _
  case build =>
    refine .bd fun i => .bd fun z => ?_
    split
    · exact .bd fun _ => .bd fun _ => .val _
    · exact .bd fun _ => .bd fun _ => .val _
    · exact .no _
  case nilCheck => exact .bd fun v => by split <;> first | exact .val _ | exact .no _
  case binOp => exact .bd fun a => .bd fun b => .bd fun v => .val v
  case unOp => exact .bd fun a => .bd fun v => .val v
  case convert => exact .bd fun a => conv_pur _ _ _ _
  case makeInterface => exact .bd fun a => .bd fun i => by split <;> first | exact .val _ | exact .no _
  case makeFunc fn _ _ =>
    cases fn <;> first | exact .bd fun a => .bd fun b => .val _ | exact .no _
  case slice => exact .bd fun a => .bd fun v => .val v
  case fieldAddr => exact .bd fun a => .bd fun v => .val v
  case field => exact .bd fun a => .bd fun v => .val v
  case indexAddr => exact .bd fun a => .bd fun k => .bd fun v => .val v
  case index => exact .bd fun a => .bd fun k => .bd fun v => .val v
  case typeAssert => exact .bd fun a => .bd fun v => .val v
  case extract =>
    refine .bd fun a => ?_
    split
    · exact .bd fun v => .val v
    · exact .no _
  case call c =>
    obtain ⟨callee, args, argTypes⟩ := c
    cases callee with
    | builtin b =>
      cases b <;> simp [cls] at hc
      all_goals
        simp only [callA]
        refine .bd fun as => ?_
        unfold biA
        split <;> first | exact .bd fun v => .val v | exact .no _ | (exfalso; simp_all; done)
    | _ => simp [cls] at hc

theorem opA_read {Γ : Env} {tm : T AV} {o : Oper} {h : H} {r : R} (hc : cls o.op = 1) (e : opA Γ tm h o = .ok r) : ∃ v, r = .val v h := by
  obtain ⟨dst, op, type, pos, after, guard⟩ := o
  cases op <;> (try (simp [cls] at hc; done)) <;> simp only [opA] at e
  case load =>
    obtain ⟨a, _, e1⟩ := bd_ok e; clear e
    split at e1
    · obtain ⟨v, _, e2⟩ := bd_ok e1; simp at e2; exact ⟨v, e2.symm⟩
    · simp at e1
  case lookup =>
    obtain ⟨a, _, e1⟩ := bd_ok e; clear e
    obtain ⟨k, _, e2⟩ := bd_ok e1; clear e1
    obtain ⟨v, _, e3⟩ := bd_ok e2; simp at e3; exact ⟨v, e3.symm⟩
  case call c =>
    obtain ⟨callee, args, argTypes⟩ := c
    cases callee with
    | builtin b =>
      cases b <;> simp [cls] at hc
      simp only [callA] at e
      obtain ⟨as, _, e1⟩ := bd_ok e; clear e
      unfold biA at e1
      split at e1
      · obtain ⟨v, _, e2⟩ := bd_ok e1; simp at e2; exact ⟨v, e2.symm⟩
      all_goals first | (simp at e1; done) | (exfalso; simp_all; done)
    | _ => simp [cls] at hc

theorem valOf_ok {x : E R} {v : AV} (e : bd x valOf = .ok v) : ∃ h', x = .ok (.val v h') := by
  obtain ⟨r, hr, e1⟩ := bd_ok e
  unfold valOf at e1
  split at e1
  · simp at e1; subst e1; exact ⟨_, hr⟩
  · simp at e1

/-! new blocks that wait -/

/-- at a block of which this is known, the abstract block stands -/
def NewOk (γ : Gm) (blk sz : Nat) (obj : Obj) (ab : AB) : Prop :=
  ∀ (pr' : Pr) (γ' : Gm) (w' : World), γ.le γ' → w'.heap[blk]? = some obj → pr' blk = none → BRel pr' γ' w' ⟨blk, 0, sz⟩ ab

theorem NewOk.mono {γ γ' : Gm} {blk sz : Nat} {obj : Obj} {ab : AB} (g : γ.le γ') (h : NewOk γ blk sz obj ab) : NewOk γ' blk sz obj ab :=
  fun pr' γ'' w' g' => h pr' γ'' w' (Gm.le_trans g g')

theorem exact_ok {γ : Gm} {as : List AV} {vs : List Value} (hv : VRL γ as vs) (t : TypeId) (blk : Nat) : NewOk γ blk vs.length (.cells vs.toArray t) (exact as) := by
  intro pr' γ' w' g hw hp
  refine ⟨fun _ => rfl, vs.toArray, t, (0, 0), hw, by simp, by simp [hv.length], fun o a e => ?_, ⟨fun _ => ⟨rfl, hp⟩, by simp⟩⟩
  obtain ⟨v, hv', hr⟩ := cells_new hv o a e
  exact ⟨v, by rw [Nat.zero_add]; exact hv', hr.mono g⟩

section
variable {P : Program} {Γ : Env} (G : EnvOk P Γ) {pr : Pr} {γ : Gm} {h : H} {w : World} (r : Rel pr Γ.ng γ h w)

/-- what a class 2 operation does -/
def AllocR (γ : Gm) (w : World) (res : Result Next) (ab : AB) (nv : NewV) : Prop :=
  ∃ obj sz v', res = .ok (.value v') (w.alloc obj) ∧ NewOk γ w.heap.size sz obj ab ∧ ab.ro = false ∧ (∀ n cs g s, ab ≠ .row n cs g s) ∧
    ∀ (γ' : Gm) (id : Nat), γ' id = some ⟨w.heap.size, 0, sz⟩ → VR γ' (nv.at id) v'

theorem allocR_exact {as : List AV} {vs : List Value} (hv : VRL γ as vs) (t : TypeId) {s : Sem Value} {nv : NewV} {v' : Value}
    (hs : s.run P w = .ok v' { w with heap := w.heap.push (.cells vs.toArray t) }) (hn : ∀ (γ' : Gm) (id : Nat), γ' id = some ⟨w.heap.size, 0, vs.length⟩ → VR γ' (nv.at id) v') :
    AllocR γ w ((do pure (.value (← s)) : Sem Next).run P w) (exact as) nv :=
  ⟨.cells vs.toArray t, vs.length, v', by simp [hs] <;> rfl, exact_ok hv t _, rfl, by intros; simp [exact], hn⟩

set_option maxHeartbeats 1000000 in
include G r in
theorem allocA_ok {tm : T AV} {nt : Nat} {act : Act} (ht : TR γ nt tm act.tmps) {o : Oper} {p : AB × NewV} (e : allocA Γ tm o = .ok p) :
    AllocR γ w ((execOp act.eval o).run P w) p.1 p.2 := by
  obtain ⟨dst, op, type, pos, after, guard⟩ := o
  unfold allocA at e
  dsimp only at e
  split at e
  · rename_i t
    obtain ⟨i, hi, e1⟩ := bd_ok e; clear e
    obtain ⟨z, hz, e2⟩ := bd_ok e1; clear e1
    simp at e2; subst e2
    obtain ⟨inf, k⟩ := G.tt _ _ (og_ok hi)
    obtain ⟨zv, _, q2, q3⟩ := k.run_zero w (og_ok hz) γ
    refine allocR_exact (v' := .pointer (some ⟨w.heap.size, 0, none⟩)) q3.cells t ?_ ?_
    · simp [Instr.alloc, q2, newVar, newRow]
    · intro γ' id hid
      have := VR.ptr (γ := γ') 0 hid
      simpa [NewV.at] using this
  · rename_i t x
    obtain ⟨v, hv, e1⟩ := bd_ok e; clear e
    simp at e1; subst e1
    refine allocR_exact (v' := .pointer (some ⟨w.heap.size, 0, none⟩)) (ev_ok r ht hv).cells t ?_ ?_
    · simp [Instr.box, newVar, newRow]
    · intro γ' id hid
      have := VR.ptr (γ := γ') 0 hid
      simpa [NewV.at] using this
  · rename_i t len parts
    obtain ⟨i, hi, e1⟩ := bd_ok e; clear e
    obtain ⟨inf, k⟩ := G.tt _ _ (og_ok hi)
    have hu := k.run_und w
    split at e1
    · rename_i elem hd
      obtain ⟨ei, he, e2⟩ := bd_ok e1; clear e1
      obtain ⟨z, hz, e3⟩ := bd_ok e2; clear e2
      obtain ⟨hck, e4⟩ := gd_ok e3; clear e3
      have hck' : len * ei.size ≤ 16777216 ∧ z.cells.length = ei.size := by simpa using hck
      obtain ⟨cs, hcs, e5⟩ := bd_ok e4; clear e4
      simp at e5; subst e5
      obtain ⟨inf2, k2⟩ := G.tt _ _ (og_ok he)
      have hs := k2.run_size w
      obtain ⟨zv, _, q2, q3⟩ := k2.run_zero w (og_ok hz) γ
      rw [hd] at hu
      have hzs : zv.cells.size = ei.size := by rw [← hck'.2, q3.cells.length]; simp
      have hz0 := zero_cells q3.cells len
      rw [← hzs] at hs
      obtain ⟨ds', s1, s2, _⟩ := fillA_ok r ht hcs hz0
      refine allocR_exact (v' := .slice (some ⟨w.heap.size, 0, none⟩) len len) s2 elem ?_ ?_
      · have hno : ¬ (len * zv.cells.size > 2 ^ 24) := by rw [hzs]; omega
        rw [hzs] at s1
        simp only [← hzs] at s1
        simp only [Instr.buildSlice, Sem.run_bind, hu, hs, Result.andThen_ok]
        rw [if_neg hno]
        by_cases h0 : len * zv.cells.size = 0
        · rw [if_pos h0]
          have hr0 : Array.range (len * zv.cells.size) = #[] := by rw [h0]; rfl
          rw [hr0] at s1 ⊢
          simp only [Array.map_empty] at s1
          simp [parts_map, s1, newRow]
        · rw [if_neg h0]
          simp [parts_map, s1, newRow, q2]
      · intro γ' id hid
        exact .sliceK (x := ⟨w.heap.size, 0, _⟩) 0 len len hid (Nat.le_refl _) (fun _ => rfl)
    · simp at e1
  · rename_i t
    simp at e; subst e
    refine ⟨.map #[] 0, 0, .map (some w.heap.size), by simp [execOp, Instr.makeMap] <;> rfl, fun pr' γ' w' g hw hp => ⟨#[], hw, trivial, hp⟩, rfl, by intros; simp, fun γ' id hid => ?_⟩
    exact .map (x := ⟨w.heap.size, 0, 0⟩) hid
  · simp at e
end

section
variable {pr : Pr} {ng : Nat} {γ : Gm} {h : H} {w : World} (r : Rel pr ng γ h w)

theorem BRel.weaken {pr pr' : Pr} (hn : pr'.nr = pr.nr) (hp : ∀ b, pr b = none → pr' b = none) {γ : Gm} {w : World} {x : Bl} {ab : AB} (h : BRel pr γ w x ab) : BRel pr' γ w x ab := by
  cases ab with
  | cells n cs fz => obtain ⟨h0, cc, t, fr, h1, h2, h3, h4, h5, h6⟩ := h; exact ⟨h0, cc, t, fr, h1, h2, h3, h4, fun e => ⟨(h5 e).1, hp _ (h5 e).2⟩, fun e => by rw [hn]; exact h6 e⟩
  | row n cs gg s => obtain ⟨cc, t, h1, h2, h3, h4, h5⟩ := h; exact ⟨cc, t, h1, h2, h3, h4, hp _ h5⟩
  | map es clk => obtain ⟨es', h1, h2, h3⟩ := h; exact ⟨es', h1, h2, hp _ h3⟩
  | loop st pend fn tm nt params assign body defers => obtain ⟨l, h1, h2, h3⟩ := h; exact ⟨l, h1, h2, hp _ h3⟩
  | defr e => exact ⟨h.1, hp _ h.2⟩

include r in
theorem Rel.weaken {pr' : Pr} (hn : pr'.nr = pr.nr) (hr : ∀ b v, pr'.rv b = some v → pr.rv b = some v) (hp : ∀ b o, pr' b = some o → pr b = some o) : Rel pr' ng γ h w where
  prot := fun b o e => r.prot b o (hp b o e)
  fresh := r.fresh
  glob := r.glob
  blk := fun i ab hi => by
    obtain ⟨x, hx, hb⟩ := r.blk i ab hi
    refine ⟨x, hx, hb.weaken hn fun b e => ?_⟩
    cases q : pr' b with
    | none => rfl
    | some o => rw [hp b o q] at e; simp at e
  sep := r.sep
  grp := r.grp
  srt := r.srt
  res := fun b v e => r.res b v (hr b v e)

include r in
/-- block numbers are spoken for -/
theorem Rel.bump {c : Nat} (hc : h.c ≤ c) : Rel ⟨pr.f, pr.nr, fun b => if h.c ≤ b ∧ b < c then some none else pr.rv b⟩ ng γ { h with c := c } w where
  prot := r.prot
  fresh := fun i hi => r.fresh i (by simp at hi; omega)
  glob := r.glob
  blk := r.blk
  sep := r.sep
  grp := fun i n cs g s hi => ⟨by have := (r.grp i n cs g s hi).1; simp; omega, (r.grp i n cs g s hi).2⟩
  srt := r.srt
  res := fun b v e => by
    have e' : (if h.c ≤ b ∧ b < c then some none else pr.rv b) = some v := e
    split at e'
    · rename_i hb
      simp at e'; subst e'
      exact ⟨hb.2, r.fresh b hb.1⟩
    · obtain ⟨h1, h2⟩ := r.res b v e'
      exact ⟨by simp; omega, h2⟩

/-- one more block is kept -/
def Pr.add (pr : Pr) (b : Nat) (o : Obj) (id : Nat) (x : Bl) : Pr := ⟨fun k => if k = b then some o else pr k, pr.nr, fun k => if k = id then some (some x) else pr.rv k⟩
/-- a block is let go -/
def Pr.del (pr : Pr) (b : Nat) : Pr := ⟨fun k => if k = b then none else pr k, pr.nr, pr.rv⟩

theorem brel_lt {x : Bl} {ab : AB} (h : BRel pr γ w x ab) : x.blk < w.heap.size := by
  cases ab with
  | cells n cs fz => obtain ⟨_, cc, t, fr, h1, _⟩ := h; exact lt_of_get h1
  | row n cs gg s => obtain ⟨cc, t, h1, _⟩ := h; exact lt_of_get h1
  | map es clk => obtain ⟨es', h1, _⟩ := h; exact lt_of_get h1
  | loop => obtain ⟨l, h1, _⟩ := h; exact lt_of_get h1
  | defr e => exact lt_of_get h.1

include r in
/-- a new block, that waits -/
theorem Rel.wait {id : Nat} (hid : id < h.c) (hγ : γ id = none) (obj : Obj) (sz : Nat) :
    Rel (pr.add w.heap.size obj id ⟨w.heap.size, 0, sz⟩) ng (γ.put id ⟨w.heap.size, 0, sz⟩) h (w.alloc obj) := by
  have hle := Gm.le_put (x := ⟨w.heap.size, 0, sz⟩) hγ
  have old : ∀ b, b < w.heap.size → (w.heap.push obj)[b]? = w.heap[b]? := fun b hb => by rw [Array.getElem?_push, if_neg (by omega)]
  have hne : ∀ i ab, h.m.get i = some ab → i ≠ id := fun i ab hi e => by
    obtain ⟨x, hx, _⟩ := r.blk i ab hi
    rw [e, hγ] at hx; simp at hx
  have hget : ∀ i, i ≠ id → (γ.put id ⟨w.heap.size, 0, sz⟩) i = γ i := fun i hi => by simp [Gm.put, hi]
  refine ⟨?_, ?_, ?_, ?_, ?_, ?_, r.srt, ?_⟩
  · intro b o e
    show (w.heap.push obj)[b]? = some o
    by_cases hb : b = w.heap.size
    · subst hb
      have : obj = o := by simpa [Pr.add] using e
      subst this; simp
    · have e' : pr b = some o := by simpa [Pr.add, hb] using e
      have := r.prot b o e'
      rw [old b (lt_of_get this)]; exact this
  · intro i hi
    rw [hget i (by omega)]; exact r.fresh i hi
  · intro g hg
    obtain ⟨s, hs⟩ := r.glob g hg
    exact ⟨s, hle _ _ hs⟩
  · intro i ab hi
    obtain ⟨x, hx, hb⟩ := r.blk i ab hi
    have hlt := brel_lt hb
    refine ⟨x, hle _ _ hx, ?_⟩
    have h1 : BRel pr (γ.put id ⟨w.heap.size, 0, sz⟩) (w.alloc obj) x ab := (hb.mono hle).of_block (old _ hlt)
    cases ab with
    | cells n cs fz => obtain ⟨h0, cc, t, fr, h1, h2, h3, h4, h5, h6⟩ := h1; exact ⟨h0, cc, t, fr, h1, h2, h3, h4, fun e => ⟨(h5 e).1, by simp [Pr.add, Nat.ne_of_lt hlt]; exact (h5 e).2⟩, h6⟩
    | row n cs gg s => obtain ⟨cc, t, h1, h2, h3, h4, h5⟩ := h1; exact ⟨cc, t, h1, h2, h3, h4, by simp [Pr.add, Nat.ne_of_lt hlt]; exact h5⟩
    | map es clk => obtain ⟨es', h1, h2, h3⟩ := h1; exact ⟨es', h1, h2, by simp [Pr.add, Nat.ne_of_lt hlt]; exact h3⟩
    | loop st pend fn tm nt params assign body defers => obtain ⟨l, h1, h2, h3⟩ := h1; exact ⟨l, h1, h2, by simp [Pr.add, Nat.ne_of_lt hlt]; exact h3⟩
    | defr e => exact ⟨h1.1, by simp [Pr.add, Nat.ne_of_lt hlt]; exact h1.2⟩
  · intro i j ab ab' x y hij hi hj hx hy hxy
    rw [hget i (hne i ab hi)] at hx
    rw [hget j (hne j ab' hj)] at hy
    exact r.sep i j ab ab' x y hij hi hj hx hy hxy
  · exact r.grp
  · intro b v e
    have e' : (if b = id then some (some ⟨w.heap.size, 0, sz⟩) else pr.rv b) = some v := e
    split at e'
    · rename_i hb; subst hb
      simp at e'; subst e'
      exact ⟨hid, by simp [Gm.put]⟩
    · rename_i hb
      obtain ⟨h1, h2⟩ := r.res b v e'
      exact ⟨h1, by rw [hget b hb]; exact h2⟩

include r in
/-- a block that waited goes into the abstract heap -/
theorem Rel.promote {id blk sz : Nat} {obj : Obj} {ab : AB} (hγ : γ id = some ⟨blk, 0, sz⟩) (hp : pr blk = some obj) (hn : pr.nr ≤ blk) (hb : NewOk γ blk sz obj ab)
    (hro : ab.ro = false) (hnr : ∀ n cs g s, ab ≠ .row n cs g s) : Rel (pr.del blk) ng γ { h with m := h.m.set id ab } w := by
  have hdel : ∀ b, pr b = none → (pr.del blk) b = none := fun b e => by
    show (if b = blk then none else pr b) = none
    split
    · rfl
    · exact e
  have other : ∀ i ab' x, h.m.get i = some ab' → γ i = some x → x.blk ≠ blk := by
    intro i ab' x hi hx e
    obtain ⟨y, hy, hbr⟩ := r.blk i ab' hi
    obtain rfl : y = x := by rw [hx] at hy; exact (Option.some.inj hy).symm
    cases ab' with
    | cells n cs fz =>
      obtain ⟨h0, cc, t, fr, h1, h2, h3, h4, h5, h6⟩ := hbr
      cases fz with
      | true => have := h6 rfl; omega
      | false => have := (h5 rfl).2; rw [e, hp] at this; simp at this
    | row n cs gg s => obtain ⟨cc, t, h1, h2, h3, h4, h5⟩ := hbr; rw [e, hp] at h5; simp at h5
    | map es clk => obtain ⟨es', h1, h2, h3⟩ := hbr; rw [e, hp] at h3; simp at h3
    | loop st pend fn tm nt params assign body defers => obtain ⟨l, h1, h2, h3⟩ := hbr; rw [e, hp] at h3; simp at h3
    | defr q => have := hbr.2; rw [e, hp] at this; simp at this
  refine ⟨?_, r.fresh, r.glob, ?_, ?_, ?_, r.srt, r.res⟩
  · intro b o e
    have : pr b = some o := by
      have e' : (if b = blk then none else pr b) = some o := e
      split at e'
      · simp at e'
      · exact e'
    exact r.prot b o this
  · intro i ab' hi
    have hi' : (h.m.set id ab).get i = some ab' := hi
    rw [T.get_set] at hi'
    split at hi'
    · rename_i e; subst e; simp at hi'; subst hi'
      exact ⟨_, hγ, hb _ γ w (Gm.le_refl _) (r.prot _ _ hp) (by show (if blk = blk then none else pr blk) = none; simp)⟩
    · obtain ⟨x, hx, hbr⟩ := r.blk i ab' hi'
      exact ⟨x, hx, BRel.weaken (pr := pr) (pr' := pr.del blk) rfl hdel hbr⟩
  · intro i j a1 a2 x y hij hi hj hx hy hxy
    have hi' : (h.m.set id ab).get i = some a1 := hi
    have hj' : (h.m.set id ab).get j = some a2 := hj
    rw [T.get_set] at hi' hj'
    split at hi'
    · rename_i e; subst e
      rw [if_neg (Ne.symm hij)] at hj'
      rw [hγ] at hx; cases hx
      exact absurd hxy.symm (other j a2 y hj' hy)
    · split at hj'
      · rename_i e; subst e
        rw [hγ] at hy; cases hy
        exact absurd hxy (other i a1 x hi' hx)
      · exact r.sep i j a1 a2 x y hij hi' hj' hx hy hxy
  · intro i n cs g s hi
    have hi' : (h.m.set id ab).get i = some (.row n cs g s) := hi
    rw [T.get_set] at hi'
    split at hi'
    · simp at hi'; exact absurd hi' (hnr _ _ _ _)
    · exact r.grp i n cs g s hi'
end
end Go.Vex
