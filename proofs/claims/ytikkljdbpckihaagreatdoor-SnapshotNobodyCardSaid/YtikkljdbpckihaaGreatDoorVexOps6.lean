/- Part VexOps6 of a checked interpreter for closed calls: what it answers, the machine of the model answers; its conditions are those of its theorems. -/
import Derived.Test.YtikkljdbpckihaaGreatDoorVexOps5
set_option linter.unusedSimpArgs false
set_option linter.unusedVariables false
namespace Go.Vex

def DfR (γ : Gm) : AD → Deferred → Prop
  | .fn f args, d => ∃ captured, d.target = .fn (.func f) captured ∧ VRL γ args (d.args ++ captured).toList
  | .coll b, d => ∃ x, γ b = some x ∧ d = { target := .collected x.blk, args := #[] }

/-- what an operation comes to, and what its abstract twin says -/
def OpOk (P : Program) (Γ : Env) (pr : Pr) (γ : Gm) (h : H) (w : World) (res : Result Next) : R → Prop
  | .val v h' => ∃ γ' v' w', γ.le γ' ∧ res = .ok (.value v') w' ∧ VR γ' v v' ∧ Rel pr Γ.ng γ' h' w' ∧ WK w w'
  | .skip h' => ∃ γ' w', γ.le γ' ∧ res = .ok .skip w' ∧ Rel pr Γ.ng γ' h' w' ∧ WK w w'
  | .enter f args h' => h' = h ∧ ∃ args' : Array Value, VRL γ args args'.toList ∧ res = (callFunc f args').run P w
  | .fields s h' => h' = h ∧ ∃ bs : ByteArray, s = nums bs ∧ res = (callFunc Γ.fields #[.string bs]).run P w
  | .defer f args => ∃ d, DfR γ (.fn f args) d ∧ res = .ok (.defer d) w
  | .recov => res = .ok .recover w
  | .panic v => ∃ v', VR γ v v' ∧ res = .halt (.panic v') w
  | .yield l args => ∃ (x : Bl) (args' : Array Value), γ l = some x ∧ VRL γ args args'.toList ∧ res = (Instr.yield x.blk args').run P w

section
variable {P : Program} {Γ : Env} (G : EnvOk P Γ) {pr : Pr} {γ : Gm} {h : H} {w : World} (r : Rel pr Γ.ng γ h w)

theorem val_ok {s : Sem Value} {v : AV} (e : ∃ v', s.run P w = .ok v' w ∧ VR γ v v') (r : Rel pr Γ.ng γ h w) : OpOk P Γ pr γ h w ((do pure (.value (← s)) : Sem Next).run P w) (.val v h) := by
  obtain ⟨v', h1, h2⟩ := e
  exact ⟨γ, v', w, Gm.le_refl _, by simp [h1], h2, r, WK.refl w⟩

theorem val_ok' {s : Sem Value} {v : AV} {h' : H} (e : ∃ γ' v' w', γ.le γ' ∧ s.run P w = .ok v' w' ∧ VR γ' v v' ∧ Rel pr Γ.ng γ' h' w' ∧ WK w w') : OpOk P Γ pr γ h w ((do pure (.value (← s)) : Sem Next).run P w) (.val v h') := by
  obtain ⟨γ', v', w', h1, h2, h3, h4, h5⟩ := e
  exact ⟨γ', v', w', h1, by simp [h2], h3, h4, h5⟩

theorem skip_ok {s : Sem Unit} {h' : H} (e : ∃ w', s.run P w = .ok () w' ∧ Rel pr Γ.ng γ h' w' ∧ WK w w') : OpOk P Γ pr γ h w ((do s; pure .skip : Sem Next).run P w) (.skip h') := by
  obtain ⟨w', h2, h4, h5⟩ := e
  exact ⟨γ, w', Gm.le_refl _, by simp [h2], h4, h5⟩

include r in
theorem new_ok {as : List AV} {vs : List Value} (hv : VRL γ as vs) (t : TypeId) {s : Sem Value} (hs : s.run P w = .ok (.pointer (some ⟨w.heap.size, 0, none⟩)) { w with heap := w.heap.push (.cells vs.toArray t) }) :
    ∃ γ' v' w', γ.le γ' ∧ s.run P w = .ok v' w' ∧ VR γ' (.ptr (newExact h as).1 0) v' ∧ Rel pr Γ.ng γ' (newExact h as).2 w' ∧ WK w w' := by
  refine ⟨_, _, _, Gm.le_put (r.fresh _ (Nat.le_refl _)), hs, ?_, r.newExact hv t, wk_push _ _⟩
  have : (γ.put h.c ⟨w.heap.size, 0, vs.length⟩) h.c = some ⟨w.heap.size, 0, vs.length⟩ := by simp [Gm.put]
  have := VR.ptr (γ := γ.put h.c ⟨w.heap.size, 0, vs.length⟩) 0 this
  simpa [newExact] using this

include r in
theorem newS_ok {as : List AV} {vs : List Value} (hv : VRL γ as vs) (t : TypeId) {s : Sem Value} {l c : Nat} (hlc : l ≤ c) (hs : s.run P w = .ok (.slice (some ⟨w.heap.size, 0, none⟩) l c) { w with heap := w.heap.push (.cells vs.toArray t) }) :
    ∃ γ' v' w', γ.le γ' ∧ s.run P w = .ok v' w' ∧ VR γ' (.slice (newExact h as).1 0 l (.k c)) v' ∧ Rel pr Γ.ng γ' (newExact h as).2 w' ∧ WK w w' := by
  refine ⟨_, _, _, Gm.le_put (r.fresh _ (Nat.le_refl _)), hs, ?_, r.newExact hv t, wk_push _ _⟩
  have : (γ.put h.c ⟨w.heap.size, 0, vs.length⟩) h.c = some ⟨w.heap.size, 0, vs.length⟩ := by simp [Gm.put]
  exact .sliceK (x := ⟨w.heap.size, 0, vs.length⟩) 0 l c this hlc (fun _ => rfl)

theorem zero_cells {za : List AV} {zv : Array Value} (h : VRL γ za zv.toList) (n : Nat) : VRL γ (repl za n) ((Array.range (n * zv.size)).map (zv[· % zv.size]!)).toList := repl_zero h n

include G r in
theorem biA_ok {b : Builtin} {ts : Array TypeId} {ty : TypeId} {cn : Array Bool} {args : List AV} {vs : Array Value} {q : R} (e : biA Γ b ts.toList args h = .ok q) (hv : VRL γ args vs.toList) :
    OpOk P Γ pr γ h w ((builtin b ts ty cn vs).run P w) q := by
  unfold biA at e
  split at e
  · rename_i t _ x ht
    obtain ⟨v, h1, e1⟩ := bd_ok e
    simp at e1; subst e1
    have ht0 : ts[0]? = some t := by rw [← Array.getElem?_toList, ht]; rfl
    obtain ⟨vl⟩ := vs
    cases hv with
    | cons hx t => cases t with
      | nil => exact val_ok (lenA_ok (ty := ty) G r h1 hx ts ht0) r
  · rename_i t t2 _ s x ht
    obtain ⟨p, h1, e1⟩ := bd_ok e
    simp at e1; subst e1
    have ht0 : ts[0]? = some t := by rw [← Array.getElem?_toList, ht]; rfl
    have ht1 : ts[1]? = some t2 := by rw [← Array.getElem?_toList, ht]; rfl
    obtain ⟨vl⟩ := vs
    cases hv with
    | cons hs t => cases t with
      | cons hx t => cases t with
        | nil => exact val_ok' (appA_ok (ty := ty) G r h1 hs hx ht0 ht1)
  · rename_i t _ d s ht
    obtain ⟨p, h1, e1⟩ := bd_ok e
    simp at e1; subst e1
    have ht0 : ts[0]? = some t := by rw [← Array.getElem?_toList, ht]; rfl
    obtain ⟨vl⟩ := vs
    cases hv with
    | cons hs t => cases t with
      | cons hx t => cases t with
        | nil =>
          obtain ⟨v', w', c1, c2, c3, c4⟩ := copyA_ok (ty := ty) G r h1 hs hx ht0
          exact val_ok' ⟨γ, v', w', Gm.le_refl _, c1, c2, c3, c4⟩
  · rename_i x xs
    obtain ⟨v, h1, e1⟩ := bd_ok e
    simp at e1; subst e1
    obtain ⟨vl⟩ := vs
    cases hv with
    | cons hx t =>
      refine val_ok ?_ r
      simp only [Builtin.max_]
      exact foldE_ok (mx := true) h1 hx t
  · rename_i x xs
    obtain ⟨v, h1, e1⟩ := bd_ok e
    simp at e1; subst e1
    obtain ⟨vl⟩ := vs
    cases hv with
    | cons hx t =>
      refine val_ok ?_ r
      simp only [Builtin.min_]
      exact foldE_ok (mx := false) h1 hx t
  · simp at e; subst e
    rfl
  · simp at e

theorem callF_ok {f : FuncId} {args : List AV} {vs : Array Value} {q : R} (e : callF Γ f args h = .ok q) (hv : VRL γ args vs.toList) : OpOk P Γ pr γ h w ((callFunc f vs).run P w) q := by
  unfold callF at e
  split at e
  · rename_i hf
    have hf' : f = Γ.fields := by simpa using hf
    subst hf'
    split at e
    · rename_i s
      simp at e; subst e
      obtain ⟨vl⟩ := vs
      cases hv with
      | cons hx t => cases t with
        | nil =>
          cases hx
          exact ⟨rfl, _, rfl, rfl⟩
    · simp at e
  · simp at e; subst e
    exact ⟨rfl, vs, hv, rfl⟩

theorem args_eq (ρ : Operand → Value) (c : Array Operand) : (c.map ρ).toList = c.toList.map ρ := by simp

include G r in
theorem callA_ok {tm : T AV} {nt : Nat} {act : Act} (ht : TR γ nt tm act.tmps) {c : Call} {ty : TypeId} {q : R} (e : callA Γ tm c h = .ok q) :
    OpOk P Γ pr γ h w ((do let d ← resolve act.eval c ty; invoke d.target d.args : Sem Next).run P w) q := by
  unfold callA at e
  obtain ⟨args, ha, e1⟩ := bd_ok e; clear e
  have hargs : VRL γ args (c.args.map act.eval).toList := by rw [args_eq]; exact evs_ok r ht ha
  split at e1
  · rename_i b hc
    have := biA_ok (ty := ty) (cn := c.args.map fun | .const _ => true | _ => false) G r e1 hargs
    simp only [resolve, hc, Sem.run_bind, Sem.run_pure, Result.andThen_ok, invoke]
    exact this
  · rename_i f hc
    have := callF_ok (P := P) (pr := pr) (w := w) e1 hargs
    simp only [resolve, hc, Act.eval, Deferred.ofValue, Sem.run_bind, Sem.run_pure, Result.andThen_ok, invoke, Array.empty_append, Array.append_empty]
    simpa using this
  · rename_i o hno hc
    obtain ⟨v, hv, e2⟩ := bd_ok e1; clear e1
    have hvr := ev_ok r ht hv
    split at e2
    · rename_i f first captured
      generalize hvo : act.eval o = vo at hvr
      cases hvr with
      | func hf hcp =>
        rename_i a' c'
        have : VRL γ (first ++ (args ++ captured)) (a' ++ c.args.map act.eval ++ c').toList := by
          simp only [Array.toList_append, List.append_assoc]
          exact hf.append (hargs.append hcp)
        have := callF_ok (P := P) (pr := pr) (w := w) e2 this
        simp only [resolve, hc, hvo, Deferred.ofValue, Sem.run_bind, Sem.run_pure, Result.andThen_ok, invoke]
        exact this
    · rename_i l
      generalize hvo : act.eval o = vo at hvr
      cases hvr with
      | yieldv hl =>
        rename_i x
        simp at e2; subst e2
        refine ⟨x, c.args.map act.eval, hl, hargs, ?_⟩
        simp only [resolve, hc, hvo, Deferred.ofValue, Sem.run_bind, Sem.run_pure, Result.andThen_ok, invoke, Array.empty_append]
    · simp at e2
  · rename_i o name hc
    obtain ⟨v, hv, e2⟩ := bd_ok e1; clear e1
    have hvr := ev_ok r ht hv
    split at e2
    · rename_i t x
      obtain ⟨f, hf, e3⟩ := bd_ok e2; clear e2
      generalize hvo : act.eval o = vo at hvr
      cases hvr with
      | iface t hx =>
        rename_i x'
        have hm := G.mt t name f hf x' w
        have : VRL γ (x :: args) (#[x'] ++ c.args.map act.eval).toList := by
          simp only [Array.toList_append]
          exact .cons hx hargs
        have := callF_ok (P := P) (pr := pr) (w := w) e3 this
        have hex : (#[Value.iface t x'] ++ c.args.map act.eval).extract 1 (#[Value.iface t x'] ++ c.args.map act.eval).size = c.args.map act.eval := by
          apply Array.ext'; simp; exact List.take_of_length_le (by simp)
        simp only [resolve, hc, hvo, Sem.run_bind, Sem.run_pure, Result.andThen_ok, invoke]
        have h0 : (#[Value.iface t x'] ++ c.args.map act.eval)[0]? = some (.iface t x') := by rw [← Array.getElem?_toList, Array.toList_append]; rfl
        split
        · rename_i recv hrecv
          have hrr := h0.symm.trans hrecv
          cases hrr
          simp only [callMethod, Sem.run_bind, run_program, Result.andThen_ok, hm]
          rw [hex]
          exact this
        · rename_i hn
          exact absurd h0 (hn _)
    · simp at e2
end
end Go.Vex
