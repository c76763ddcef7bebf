/- Part VexMach of a checked interpreter for closed calls: what it answers, the machine of the model answers; its conditions are those of its theorems. -/
import Derived.Test.YtikkljdbpckihaaGreatDoorVexOps7
import Derived.Recover
set_option linter.unusedSimpArgs false
set_option linter.unusedVariables false
namespace Go.Vex

/-! the machine's frames, related -/

inductive All2 {α β : Type} (R : α → β → Prop) : List α → List β → Prop
  | nil : All2 R [] []
  | cons {a : α} {b : β} {as : List α} {bs : List β} (h : R a b) (t : All2 R as bs) : All2 R (a :: as) (b :: bs)

theorem All2.imp {α β : Type} {R S : α → β → Prop} (h : ∀ a b, R a b → S a b) : ∀ {as : List α} {bs : List β}, All2 R as bs → All2 S as bs
  | _, _, .nil => .nil
  | _, _, .cons k t => .cons (h _ _ k) (All2.imp h t)
theorem All2.append {α β : Type} {R : α → β → Prop} : ∀ {as cs : List α} {bs ds : List β}, All2 R as bs → All2 R cs ds → All2 R (as ++ cs) (bs ++ ds)
  | _, _, _, _, .nil, h => h
  | _, _, _, _, .cons k t, h => .cons k (All2.append t h)

inductive IR (γ : Gm) : AItem → Item → Prop
  | code (c : Code) : IR γ (.code c) (.code c)
  | inBlock (id : Nat) : IR γ (.inBlock id) (.inBlock id)
  | inLoop (c : Code) : IR γ (.inLoop c) (.inLoop c)
  | inScope (c : Code) : IR γ (.inScope c) (.inScope c)
  | ops (A : Array Oper) (i : Nat) : IR γ (.ops A.toList (A.toList.drop i)) (.inRegion A (List.range' i (A.size - i)))
  | inRF {l : Nat} {x : Bl} (h : γ l = some x) : IR γ (.inRF l) (.inRangeFunc x.blk)
  | endRF {l : Nat} {x : Bl} (h : γ l = some x) : IR γ (.endRF l) (.endRangeFunc x.blk)
  | beginRound : IR γ .beginRound .beginRound

def PR (γ : Gm) (p : AV × Bool) (e : PanicEntry) : Prop := VR γ p.1 e.v ∧ e.recovered = p.2 ∧ e.goexit = false

inductive MR (γ : Gm) : AM → FrameMode → Prop
  | run : MR γ .run .run
  | returning : MR γ .returning .returning
  | pan {ch : List (AV × Bool)} {ch' : List PanicEntry} (h : All2 (PR γ) ch ch') : MR γ (.pan ch) (.panicking ch')

structure FR (γ : Gm) (f : AF) (fr : Frame) : Prop where
  fn : fr.fn = f.fn
  tm : TR γ f.nt f.tm fr.tmps
  todo : All2 (IR γ) f.todo fr.todo
  defers : All2 (DfR γ) f.defers fr.defers
  mode : MR γ f.mode fr.mode
  kind : fr.kind = if f.dfr then .deferred else .normal
  rnd : match f.rnd with
    | none => fr.roundOf = none
    | some l => ∃ x, γ l = some x ∧ fr.roundOf = some x.blk

theorem DfR.mono {γ γ' : Gm} (g : γ.le γ') {a : AD} {d : Deferred} (h : DfR γ a d) : DfR γ' a d := by
  cases a with
  | fn f args => obtain ⟨c, h1, h2⟩ := h; exact ⟨c, h1, h2.mono g⟩
  | coll b => obtain ⟨x, h1, h2⟩ := h; exact ⟨x, g _ _ h1, h2⟩
theorem IR.mono {γ γ' : Gm} (g : γ.le γ') {a : AItem} {d : Item} (h : IR γ a d) : IR γ' a d := by
  cases h with
  | code c => exact .code c
  | inBlock id => exact .inBlock id
  | inLoop c => exact .inLoop c
  | inScope c => exact .inScope c
  | ops A i => exact .ops A i
  | inRF h => exact .inRF (g _ _ h)
  | endRF h => exact .endRF (g _ _ h)
  | beginRound => exact .beginRound
theorem PR.mono {γ γ' : Gm} (g : γ.le γ') {a : AV × Bool} {d : PanicEntry} (h : PR γ a d) : PR γ' a d := ⟨h.1.mono g, h.2⟩
theorem MR.mono {γ γ' : Gm} (g : γ.le γ') {a : AM} {d : FrameMode} (h : MR γ a d) : MR γ' a d := by
  cases h with
  | run => exact .run
  | returning => exact .returning
  | pan h => exact .pan (h.imp fun _ _ k => k.mono g)
theorem FR.mono {γ γ' : Gm} (g : γ.le γ') {f : AF} {fr : Frame} (h : FR γ f fr) : FR γ' f fr where
  fn := h.fn
  tm := h.tm.mono g
  todo := h.todo.imp fun _ _ k => k.mono g
  defers := h.defers.imp fun _ _ k => k.mono g
  mode := h.mode.mono g
  kind := h.kind
  rnd := by
    have := h.rnd
    split at this
    · exact this
    · obtain ⟨x, h1, h2⟩ := this; exact ⟨x, g _ _ h1, h2⟩

/-! temporaries are written -/

theorem TR.put {γ : Gm} {nt : Nat} {tm tm' : T AV} {tmps : Array Value} (h : TR γ nt tm tmps) {o : Oper} {a : AV} {v : Value} (hv : VR γ a v) (e : setDst o a nt tm = .ok tm') :
    TR γ nt tm' (match o.dst with | some d => tmps.setIfInBounds d v | none => tmps) := by
  unfold setDst at e
  cases hd : o.dst with
  | none => rw [hd] at e; simp at e; subst e; exact h
  | some d =>
    rw [hd] at e
    dsimp only at e
    obtain ⟨hlt, e2⟩ := gd_ok e
    have hlt' : d < nt := by simpa [Nat.blt_eq] using hlt
    simp at e2; subst e2
    refine ⟨by simp [h.size], fun t ht => ?_, fun t ht => ?_⟩
    · by_cases e : t = d
      · subst e
        exact ⟨v, by simp [h.size, hlt'], by rw [T.get_set_same]; exact hv⟩
      · obtain ⟨u, h1, h2⟩ := h.get t ht
        exact ⟨u, by simp [Array.getElem?_setIfInBounds_ne (Ne.symm e), h1], by rw [T.get_set_ne _ _ e]; exact h2⟩
    · have hne : t ≠ d := by intro e; subst e; exact absurd hlt' (Nat.not_lt.2 ht)
      rw [T.get_set_ne _ _ hne]; exact h.out t ht

theorem wanted_ok {γ : Gm} {nt : Nat} {tm : T AV} {tmps : Array Value} (h : TR γ nt tm tmps) {o : Oper} {A : Array Oper} {b : Bool} (e : wantedA o A.toList tm = .ok b) :
    Region.wanted o (yielded A tmps) = b := by
  unfold wantedA at e
  unfold Region.wanted
  split at e
  · rename_i hg; rw [hg]; simp at e; subst e; rfl
  · rename_i j want hg
    rw [hg]
    dsimp only
    obtain ⟨oj, hj, e2⟩ := bd_ok e; clear e
    have hj' : A[j]? = some oj := by have := og_ok hj; simpa using this
    unfold yielded
    rw [hj']
    simp only [Option.bind_some]
    split at e2
    · simp at e2
    · rename_i t ht
      rw [ht]
      simp only [Option.bind_some]
      by_cases hlt : t < nt
      · obtain ⟨v, h1, h2⟩ := h.get t hlt
        rw [h1]
        split at e2
        · rename_i q hq
          rw [hq] at h2
          simp at e2; subst e2
          simp at h2
          cases h2
          cases q <;> cases want <;> rfl
        · rename_i hq
          simp at e2; subst e2
          cases hq' : tm.get t with
          | none =>
            rw [hq'] at h2
            simp at h2
            cases h2
            cases want <;> rfl
          | some a =>
            rw [hq'] at h2
            simp at h2
            cases h2 <;> first | (exact absurd hq' (hq _)) | (cases want <;> rfl)
      · have hge : nt ≤ t := Nat.le_of_not_lt hlt
        rw [Array.getElem?_eq_none (by rw [h.size]; exact hge)]
        rw [h.out t hge] at e2
        simp at e2; subst e2
        cases want <;> rfl

/-! the machine's steps, one goroutine -/
section
variable {P : Program} {fn : FuncId} {tmps : Array Value} {k : List Item} {defers : List Deferred} {kind : CallKind} {rnd : Option Nat} {cs : List Frame} {w : World}

theorem st_skip : step P (lone ⟨fn, tmps, .code .skip :: k, defers, .run, kind, rnd⟩ cs w) = .next (lone ⟨fn, tmps, k, defers, .run, kind, rnd⟩ cs w) := step_lone_go (by simp [stepG, stepG.exec])
theorem st_label {l : Nat} : step P (lone ⟨fn, tmps, .code (.label l) :: k, defers, .run, kind, rnd⟩ cs w) = .next (lone ⟨fn, tmps, k, defers, .run, kind, rnd⟩ cs w) := step_lone_go (by simp [stepG, stepG.exec])
theorem st_inBlock {l : Nat} : step P (lone ⟨fn, tmps, .inBlock l :: k, defers, .run, kind, rnd⟩ cs w) = .next (lone ⟨fn, tmps, k, defers, .run, kind, rnd⟩ cs w) := step_lone_go (by simp [stepG, stepG.exec])
theorem st_inScope {l : Code} : step P (lone ⟨fn, tmps, .inScope l :: k, defers, .run, kind, rnd⟩ cs w) = .next (lone ⟨fn, tmps, k, defers, .run, kind, rnd⟩ cs w) := step_lone_go (by simp [stepG, stepG.exec])
theorem st_inLoop {c : Code} : step P (lone ⟨fn, tmps, .inLoop c :: k, defers, .run, kind, rnd⟩ cs w) = .next (lone ⟨fn, tmps, .code c :: .inLoop c :: k, defers, .run, kind, rnd⟩ cs w) := step_lone_go (by simp [stepG, stepG.exec])
theorem st_loop {c : Code} : step P (lone ⟨fn, tmps, .code (.loop c) :: k, defers, .run, kind, rnd⟩ cs w) = .next (lone ⟨fn, tmps, .code c :: .inLoop c :: k, defers, .run, kind, rnd⟩ cs w) := step_lone_go (by simp [stepG, stepG.exec])
theorem st_seq {a b : Code} : step P (lone ⟨fn, tmps, .code (.seq a b) :: k, defers, .run, kind, rnd⟩ cs w) = .next (lone ⟨fn, tmps, .code a :: .code b :: k, defers, .run, kind, rnd⟩ cs w) := step_lone_go (by simp [stepG, stepG.exec])
theorem st_block {id : Nat} {c : Code} : step P (lone ⟨fn, tmps, .code (.block id c) :: k, defers, .run, kind, rnd⟩ cs w) = .next (lone ⟨fn, tmps, .code c :: .inBlock id :: k, defers, .run, kind, rnd⟩ cs w) := step_lone_go (by simp [stepG, stepG.exec])
theorem st_scope {c : Code} : step P (lone ⟨fn, tmps, .code (.scope c) :: k, defers, .run, kind, rnd⟩ cs w) = .next (lone ⟨fn, tmps, .code c :: .inScope c :: k, defers, .run, kind, rnd⟩ cs w) := step_lone_go (by simp [stepG, stepG.exec])
theorem st_region {id : Nat} {A : Array Oper} : step P (lone ⟨fn, tmps, .code (.region id A false) :: k, defers, .run, kind, rnd⟩ cs w) = .next (lone ⟨fn, tmps, .inRegion A (List.range A.size) :: k, defers, .run, kind, rnd⟩ cs w) := step_lone_go (by simp [stepG, stepG.exec])
theorem st_regionEnd {A : Array Oper} : step P (lone ⟨fn, tmps, .inRegion A [] :: k, defers, .run, kind, rnd⟩ cs w) = .next (lone ⟨fn, tmps, k, defers, .run, kind, rnd⟩ cs w) := step_lone_go (by simp [stepG, stepG.exec])
theorem st_cond {c : Operand} {x y : Code} {t : Bool} (h : (Act.mk tmps defers).eval c = .bool t) :
    step P (lone ⟨fn, tmps, .code (.cond c x y) :: k, defers, .run, kind, rnd⟩ cs w) = .next (lone ⟨fn, tmps, .code (if t then x else y) :: k, defers, .run, kind, rnd⟩ cs w) := by
  have he : (⟨fn, tmps, .code (.cond c x y) :: k, defers, .run, kind, rnd⟩ : Frame).eval c = .bool t := by rw [← h]; cases c <;> rfl
  exact step_lone_go (by simp [stepG, stepG.exec, he])
theorem st_exit {id : Nat} {k' : List Item} (h : exitTo id k = some k') : step P (lone ⟨fn, tmps, .code (.exit id) :: k, defers, .run, kind, rnd⟩ cs w) = .next (lone ⟨fn, tmps, k', defers, .run, kind, rnd⟩ cs w) := step_lone_go (by simp [stepG, stepG.exec, h])
theorem st_goto {l : Nat} {k' : List Item} (h : gotoIn l k = some k') : step P (lone ⟨fn, tmps, .code (.goto l) :: k, defers, .run, kind, rnd⟩ cs w) = .next (lone ⟨fn, tmps, k', defers, .run, kind, rnd⟩ cs w) := step_lone_go (by simp [stepG, stepG.exec, h])
theorem st_ret : step P (lone ⟨fn, tmps, .code .ret :: k, defers, .run, kind, none⟩ cs w) = .next (lone ⟨fn, tmps, .code .ret :: k, defers, .returning, kind, none⟩ cs w) := step_lone_go (by simp [stepG, stepG.exec])
theorem st_end : step P (lone ⟨fn, tmps, [], defers, .run, kind, none⟩ cs w) = .next (lone ⟨fn, tmps, [], defers, .returning, kind, none⟩ cs w) := step_lone_go (by simp [stepG, stepG.exec])

theorem eval_frame (todo : List Item) (x : Operand) : (⟨fn, tmps, todo, defers, .run, kind, rnd⟩ : Frame).eval x = (Act.mk tmps defers).eval x := by cases x <;> rfl
theorem eval_frame' (todo : List Item) : (⟨fn, tmps, todo, defers, .run, kind, rnd⟩ : Frame).eval = (Act.mk tmps defers).eval := funext (eval_frame todo)

/-- the frame at an operation -/
abbrev atOp (fn : FuncId) (tmps : Array Value) (A : Array Oper) (i : Nat) (rest : List Nat) (k : List Item) (defers : List Deferred) (kind : CallKind) (rnd : Option Nat) : Frame := ⟨fn, tmps, .inRegion A (i :: rest) :: k, defers, .run, kind, rnd⟩

theorem finish_op {A : Array Oper} {i : Nat} {rest : List Nat} {o : Oper} (ho : A[i]? = some o) (m : FrameMode) (ds : List Deferred) (v : Value) :
    (⟨fn, tmps, .inRegion A (i :: rest) :: k, ds, m, kind, rnd⟩ : Frame).finish v = ⟨fn, (match o.dst with | some d => tmps.setIfInBounds d v | none => tmps), .inRegion A rest :: k, ds, m, kind, rnd⟩ := by
  cases hd : o.dst <;> simp [Frame.finish, ho, hd]

variable {A : Array Oper} {i : Nat} {rest : List Nat} {o : Oper}

theorem st_opSkip (ho : A[i]? = some o) (hw : Region.wanted o (yielded A tmps) = false) :
    step P (lone (atOp fn tmps A i rest k defers kind rnd) cs w) = .next (lone ((atOp fn tmps A i rest k defers kind rnd).finish undef) cs w) :=
  step_lone_go (by simp [stepG, stepG.exec, ho, hw, Frame.finish])

theorem stepG_opG (ho : A[i]? = some o) (hw : Region.wanted o (yielded A tmps) = true) (hd : rnd = none ∨ ∀ c, o.op ≠ .defer c) :
    stepG P true { frame := atOp fn tmps A i rest k defers kind rnd, callers := cs, status := .running, dying := none } w =
      stepG.apply P true (atOp fn tmps A i rest k defers kind rnd) cs none (execOp (Act.mk tmps defers).eval o) w := by
  have he := eval_frame' (fn := fn) (tmps := tmps) (defers := defers) (kind := kind) (rnd := rnd) (.inRegion A (i :: rest) :: k)
  rcases hd with rfl | hd
  · simp [stepG, stepG.exec, stepG.oper, Frame.oper?, ho, hw, he]
  · cases rnd with
    | none => simp [stepG, stepG.exec, stepG.oper, Frame.oper?, ho, hw, he]
    | some l =>
      have : ∀ c, o.op ≠ .defer c := hd
      obtain ⟨dst, op, ty, pos, after, guard⟩ := o
      cases op <;> first | exact absurd rfl (this _) | simp [stepG, stepG.exec, stepG.oper, Frame.oper?, ho, hw, he]

theorem st_val {v : Value} {w' : World} (ho : A[i]? = some o) (hw : Region.wanted o (yielded A tmps) = true) (hd : rnd = none ∨ ∀ c, o.op ≠ .defer c) (hr : (execOp (Act.mk tmps defers).eval o).run P w = .ok (.value v) w') :
    step P (lone (atOp fn tmps A i rest k defers kind rnd) cs w) = .next (lone ((atOp fn tmps A i rest k defers kind rnd).finish v) cs w') :=
  step_lone_go (by rw [stepG_opG ho hw hd]; simp [stepG.apply, hr])
theorem st_skipV {w' : World} (ho : A[i]? = some o) (hw : Region.wanted o (yielded A tmps) = true) (hd : rnd = none ∨ ∀ c, o.op ≠ .defer c) (hr : (execOp (Act.mk tmps defers).eval o).run P w = .ok .skip w') :
    step P (lone (atOp fn tmps A i rest k defers kind rnd) cs w) = .next (lone ((atOp fn tmps A i rest k defers kind rnd).finish undef) cs w') :=
  step_lone_go (by rw [stepG_opG ho hw hd]; simp [stepG.apply, hr])
theorem st_enter {f : FuncId} {args : Array Value} {w' : World} (ho : A[i]? = some o) (hw : Region.wanted o (yielded A tmps) = true) (hd : rnd = none ∨ ∀ c, o.op ≠ .defer c) (hr : (execOp (Act.mk tmps defers).eval o).run P w = .ok (.enter f args) w') :
    step P (lone (atOp fn tmps A i rest k defers kind rnd) cs w) = .next (lone (Frame.enter P f args .normal) (atOp fn tmps A i rest k defers kind rnd :: cs) w') :=
  step_lone_go (by rw [stepG_opG ho hw hd]; simp [stepG.apply, hr])
theorem st_round {l : Nat} {f : FuncId} {tm : Array Value} {as body : Code} {w' : World} (ho : A[i]? = some o) (hw : Region.wanted o (yielded A tmps) = true) (hd : rnd = none ∨ ∀ c, o.op ≠ .defer c)
    (hr : (execOp (Act.mk tmps defers).eval o).run P w = .ok (.round l f tm as body) w') :
    step P (lone (atOp fn tmps A i rest k defers kind rnd) cs w) = .next (lone (Frame.round l f tm as body .normal) (atOp fn tmps A i rest k defers kind rnd :: cs) w') :=
  step_lone_go (by rw [stepG_opG ho hw hd]; simp [stepG.apply, hr])
theorem st_panic {v : Value} {w' : World} (ho : A[i]? = some o) (hw : Region.wanted o (yielded A tmps) = true) (hd : rnd = none ∨ ∀ c, o.op ≠ .defer c) (hr : (execOp (Act.mk tmps defers).eval o).run P w = .halt (.panic v) w') :
    step P (lone (atOp fn tmps A i rest k defers kind rnd) cs w) = .next (lone ((atOp fn tmps A i rest k defers kind rnd).raise [{ v, recovered := false }]) cs w') :=
  step_lone_go (by rw [stepG_opG ho hw hd]; simp [stepG.apply, hr])
theorem st_defer {d : Deferred} {w' : World} (ho : A[i]? = some o) (hw : Region.wanted o (yielded A tmps) = true) (hd : rnd = none) (hr : (execOp (Act.mk tmps defers).eval o).run P w = .ok (.defer d) w') :
    step P (lone (atOp fn tmps A i rest k defers kind rnd) cs w) = .next (lone ((atOp fn tmps A i rest k (d :: defers) kind rnd).finish undef) cs w') :=
  step_lone_go (by rw [stepG_opG ho hw (.inl hd)]; simp [stepG.apply, hr])
theorem st_recover {w' : World} (ho : A[i]? = some o) (hw : Region.wanted o (yielded A tmps) = true) (hr : (execOp (Act.mk tmps defers).eval o).run P w = .ok .recover w') (hrn : rnd = none) (hk : kind = .deferred) :
    step P (lone (atOp fn tmps A i rest k defers kind rnd) cs w) = match recoverD cs with
      | some (v, cs') => .next (lone ((atOp fn tmps A i rest k defers kind rnd).finish v) cs' w')
      | none => .next (lone ((atOp fn tmps A i rest k defers kind rnd).finish .nilIface) cs w') := by
  subst hrn
  have ht := tryRecover_deferred (fr := atOp fn tmps A i rest k defers kind none) hk cs
  cases hc : recoverD cs with
  | none => exact step_lone_go (by rw [stepG_opG ho hw (.inl rfl)]; simp [stepG.apply, hr, ht, hc])
  | some p =>
    obtain ⟨v, cs'⟩ := p
    exact step_lone_go (by rw [stepG_opG ho hw (.inl rfl)]; simp [stepG.apply, hr, ht, hc])

theorem enter_ok {f : FuncId} {fnc : Func} {c : Code} (hf : P.funcs[f]? = some fnc) (hb : fnc.body = some c) (hn : (fnc.name == "runtime.NumGoroutine") = false) (args : Array Value) (w : World) :
    (callFunc f args).run P w = .ok (.enter f args) w := by
  have hn' : fnc.name ≠ "runtime.NumGoroutine" := by intro e; rw [e] at hn; simp at hn
  simp [callFunc, hf, hb, hn']
end
end Go.Vex
