/- Part VexDraw4 of a checked interpreter for closed calls: what it answers, the machine of the model answers; its conditions are those of its theorems. -/
import Derived.Test.YtikkljdbpckihaaGreatDoorVexDraw3
set_option linter.unusedSimpArgs false
set_option linter.unusedVariables false
namespace Go.Vex

/-- a whole run of the abstract machine, told -/
def NB (P : Program) (Γ : Env) (pr : Pr) (γ : Gm) (w : World) (m : Machine) (base : List Frame) : BR → Prop
  | .ret fn v h => Nxt P Γ pr γ w m base (.done fn v h)
  | .retR v h => Nxt P Γ pr γ w m base (.doneR v h)
  | .pan ch h => Nxt P Γ pr γ w m base (.dead ch h)

def BigOk (P : Program) (Γ : Env) (Z : Nat × Obj) (big : AF → H → E BR) : Prop :=
  ∀ {pr : Pr} {γ : Gm} {h : H} {w : World} {f : AF} {fr : Frame}, pr.nr ≤ w.heap.size → pr Z.1 = some Z.2 → Rel pr Γ.ng γ h w → FR γ f fr → ∀ {res : BR}, big f h = .ok res → ∀ base, NB P Γ pr γ w (lone fr base w) base res

theorem step_dead {P : Program} {fr c : Frame} {cs : List Frame} {w : World} {ch : List PanicEntry} (hm : fr.mode = .panicking ch) (hd : fr.defers = []) (hc : fr.catches P = false) :
    step P (lone fr (c :: cs) w) = .next (lone (c.raise ch) cs w) :=
  step_lone_go (by rw [stepG_unwind (by rw [hm]; simp)]; simp [unwind, hd, hm, hc])

def HVOk (P : Program) (Γ : Env) (pr : Pr) (γ : Gm) (w : World) (fr : Frame) (cs : List Frame) : HV → Prop
  | .v v h2 => ∃ γ' v' w', γ.le γ' ∧ Rel pr Γ.ng γ' h2 w' ∧ VR γ' v v' ∧ WK w w' ∧ Steps P (lone fr cs w) (lone (fr.finish v') cs w')
  | .p ch h2 => ∃ γ' ch' w', γ.le γ' ∧ Rel pr Γ.ng γ' h2 w' ∧ All2 (PR γ') ch ch' ∧ WK w w' ∧ Steps P (lone fr cs w) (lone (fr.raise ch') cs w')

section
variable {P : Program} {Γ : Env} (G : EnvOk P Γ) {pr : Pr} {γ : Gm} {h : H} {w : World} (r : Rel pr Γ.ng γ h w)

include G r in
theorem heavyA_ok {big : AF → H → E BR} {Z : Nat × Obj} (hB : BigOk P Γ Z big) (hn : pr.nr ≤ w.heap.size) (hz : pr Z.1 = some Z.2) {tm : T AV} {nt : Nat} {act : Act} (ht : TR γ nt tm act.tmps) {o : Oper} {q : HV} (e : heavyA Γ big tm h o = .ok q)
    {A : Array Oper} {i : Nat} {fn : FuncId} {tmps : Array Value} {rs : List Nat} {k : List Item} {ds : List Deferred} {kind : CallKind} {rnd : Option Nat} {cs : List Frame}
    (ho : A[i]? = some o) (hw : Region.wanted o (yielded A tmps) = true) (hE : execOp (Act.mk tmps ds).eval o = execOp act.eval o) :
    HVOk P Γ pr γ w (atOp fn tmps A i rs k ds kind rnd) cs q := by
  unfold heavyA at e
  obtain ⟨x, hx, e1⟩ := bd_ok e; clear e
  have hO := opA_ok (P := P) G r ht hx
  rw [← hE] at hO
  have hdf : rnd = none ∨ ∀ c, o.op ≠ .defer c := by
    refine .inr fun c hc => ?_
    obtain ⟨g, args, rfl⟩ := opA_defer hx hc
    simp at e1
  split at e1
  · simp at e1; subst e1
    obtain ⟨γ', v', w', g, hr, hv, r', wk⟩ := hO
    exact ⟨γ', v', w', g, r', hv, wk, .one (st_val ho hw hdf hr)⟩
  · simp at e1; subst e1
    obtain ⟨γ', w', g, hr, r', wk⟩ := hO
    exact ⟨γ', undef, w', g, r', VR.undef _, wk, .one (st_skipV ho hw hdf hr)⟩
  · rename_i f args h'
    obtain ⟨c, hc, e2⟩ := bd_ok e1; clear e1
    obtain ⟨b, hb, e3⟩ := bd_ok e2; clear e2
    obtain ⟨rfl, args', hv, hr⟩ := hO
    obtain ⟨h2, h3, _⟩ := enterA_ok G hc hv
    rw [h3] at hr
    have s1 := st_enter (cs := cs) (k := k) (rest := rs) (fn := fn) (kind := kind) ho hw hdf hr
    have hN := hB hn hz r h2 hb (atOp fn tmps A i rs k ds kind rnd :: cs)
    split at e3
    · simp at e3; subst e3
      obtain ⟨γ', fr', v', w', g, r', hv', wk, hs, _, hl⟩ := hN
      exact ⟨γ', v', w', g, r', hv', wk, Steps.trans (.one s1) (Steps.trans hs (.one (step_leave_returned hl)))⟩
    · simp at e3; subst e3
      obtain ⟨γ', fr', ch', w', g, r', hch, wk, hs, hm, hd, hcc⟩ := hN
      exact ⟨γ', ch', w', g, r', hch, wk, Steps.trans (.one s1) (Steps.trans hs (.one (step_dead hm hd hcc)))⟩
    · simp at e3
  · rename_i l args
    obtain ⟨c, hc, e2⟩ := bd_ok e1; clear e1
    obtain ⟨b, hb, e3⟩ := bd_ok e2; clear e2
    obtain ⟨x, args', hl, hv, hr⟩ := hO
    obtain ⟨fn', tm', as, body, h2, h3, _⟩ := roundA_ok (P := P) r hc hl hv
    rw [h2] at hr
    have s1 := st_round (cs := cs) (k := k) (rest := rs) (fn := fn) (kind := kind) ho hw hdf hr
    have hN := hB hn hz r h3 hb (atOp fn tmps A i rs k ds kind rnd :: cs)
    split at e3
    · simp at e3; subst e3
      obtain ⟨γ', v', w', g, r', hv', wk, hs⟩ := hN
      exact ⟨γ', v', w', g, r', hv', wk, Steps.trans (.one s1) (hs _ _ rfl)⟩
    · simp at e3; subst e3
      obtain ⟨γ', fr', ch', w', g, r', hch, wk, hs, hm, hd, hcc⟩ := hN
      exact ⟨γ', ch', w', g, r', hch, wk, Steps.trans (.one s1) (Steps.trans hs (.one (step_dead hm hd hcc)))⟩
    · simp at e3
  · simp at e1
end

theorem wanted_restr (o : Oper) (ops : List Oper) (tm : T AV) : wantedA o ops (restr tm (tmpsOf o ops)) = wantedA o ops tm := by
  unfold wantedA
  split
  · rfl
  · rename_i g b hg
    cases ho : ops[g]? with
    | none => rfl
    | some og' =>
      simp only [og, bd]
      split
      · rfl
      · rename_i t ht
        rw [restr_get, if_pos (guard_tmpsOf hg ho ht)]

theorem wanted_slots {o : Oper} {A : Array Oper} {tmps tmps' : Array Value} (h : ∀ t ∈ tmpsOf o A.toList, tmps'[t]? = tmps[t]?) : Region.wanted o (yielded A tmps') = Region.wanted o (yielded A tmps) := by
  unfold Region.wanted
  split
  · rfl
  · rename_i g b hg
    have : yielded A tmps' g = yielded A tmps g := by
      unfold yielded
      cases ho : A[g]? with
      | none => rfl
      | some og' =>
        simp only [Option.bind_some]
        cases ht : og'.dst with
        | none => rfl
        | some t =>
          simp only [Option.bind_some]
          rw [h t (guard_tmpsOf hg (by simpa using ho) ht)]
    simp only [this]

theorem exec_slots {o : Oper} {ops : List Oper} {tmps tmps' : Array Value} {ds : List Deferred} (hs : ∀ cs b, o.op ≠ .select cs b) (h : ∀ t ∈ tmpsOf o ops, tmps'[t]? = tmps[t]?) :
    execOp (Act.mk tmps ds).eval o = execOp (Act.mk tmps' ds).eval o := by
  refine execOp_congr o hs fun x hx => ?_
  cases x with
  | tmp t =>
    have := h t (mem_tmpsOf (by simpa using hx))
    simp only [Act.eval, Array.getD_eq_getD_getElem?, this]
  | _ => rfl

theorem noneB_ok {m : Nat} : ∀ {l : List Nat}, noneB m l = true ↔ ∀ x ∈ l, hasBit m x = false
  | [] => by simp [noneB]
  | p :: ps => by
    simp only [noneB]
    split
    · rename_i hb; simp [hb]
    · rename_i hb; rw [noneB_ok]; simp [hb]
theorem allB_ok {m : Nat} : ∀ {l : List Nat}, allB m l = true ↔ ∀ x ∈ l, hasBit m x = true
  | [] => by simp [allB]
  | p :: ps => by
    simp only [allB]
    split
    · rename_i hb; rw [allB_ok]; simp [hb]
    · rename_i hb; simp [hb]

theorem chkV_ok {Γ : Env} {ms : T Nat} {tr : T AV} {i mi : Nat} {o : Oper} {v : AV} : ∀ {hs : List Nat} {vs : List H} {j : Nat}, chkV Γ ms tr i mi o v hs vs = true → j ≤ hs.length →
    (∀ m x, m < j → hs[m]? = some x → hasBit (msk ms x) i = false) → (∀ m x, j ≤ m → hs[m]? = some x → hasBit mi x = false) → ∀ {Hj : H}, vs[j]? = some Hj → ∃ h', opA Γ tr Hj o = .ok (.val v h')
  | hs, [], j, e, _, _, _, _, hv => by simp at hv
  | hs, h :: vs, 0, e, _, _, h2, Hj, hv => by
    simp at hv; subst hv
    have hnb : noneB mi hs = true := noneB_ok.2 fun x hx => by
      obtain ⟨m, hm⟩ := List.getElem?_of_mem hx
      exact h2 m x (Nat.zero_le _) hm
    unfold chkV at e
    rw [hnb] at e
    dsimp only at e
    split at e
    · simp at e
    · rename_i he
      split at he
      · rename_i v' hv'
        obtain ⟨h', hh⟩ := valOf_ok hv'
        rw [avEq_ok he]; exact ⟨h', hh⟩
      · simp at he
  | hs, h :: vs, j + 1, e, hj, h1, h2, Hj, hv => by
    cases hs with
    | nil => simp at hj
    | cons p ps =>
      unfold chkV at e
      split at e
      · simp at e
      · dsimp only at e
        have hp : hasBit ((ms.get p).getD 0) i = false := h1 0 p (by omega) rfl
        rw [hp] at e
        dsimp only at e
        exact chkV_ok (j := j) e (by simpa using hj) (fun m x hm hx => h1 (m + 1) x (by omega) (by simpa using hx)) (fun m x hm hx => h2 (m + 1) x (by omega) (by simpa using hx)) (by simpa using hv)

theorem chkGo_ok {Γ : Env} {ms : T Nat} {hs : List Nat} {vs : List H} : ∀ {rs : List (Nat × Oper × T AV × AV)}, chkGo Γ ms hs vs rs = true → ∀ i o tr v, (i, o, tr, v) ∈ rs → chkV Γ ms tr i (msk ms i) o v hs vs = true
  | [], _, _, _, _, _, h => by simp at h
  | (i', o', tr', v') :: rs, e, i, o, tr, v, h => by
    simp only [chkGo] at e
    split at e
    · rename_i hc
      rcases List.mem_cons.1 h with q | h
      · cases q; exact hc
      · exact chkGo_ok e i o tr v h
    · simp at e
end Go.Vex
