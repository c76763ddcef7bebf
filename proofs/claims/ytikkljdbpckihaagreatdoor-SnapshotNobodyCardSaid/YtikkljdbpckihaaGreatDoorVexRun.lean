/- Part VexRun of a checked interpreter for closed calls: what it answers, the machine of the model answers; its conditions are those of its theorems. -/
import Derived.Test.YtikkljdbpckihaaGreatDoorVexRow
import Derived.Laws.Entries
import Derived.Laws.StructEq
import Derived.Laws.Append
import Derived.Laws.AppendOwn
import Derived.Laws.Slices
set_option linter.unusedSimpArgs false
set_option linter.unusedVariables false
namespace Go.Vex

structure TIOk (P : Program) (t : TypeId) (i : TI) (inf : TypeInfo) : Prop where
  info : P.info? t = some inf
  und : P.underlying t = some i.u
  size : inf.size = i.size
  bytes : inf.bytes = i.bytes
  agg : i.agg = isAggD i.u
  cmp : inf.comparable = i.cmp
  zero : ∀ z, i.zero = some z → ∃ v, inf.zero = some v ∧ absC v = some z
  pl : ∀ fs pl, i.u = .struct fs → i.pl = some pl → ∀ (w : World), (fs.mapM fun f => do pure (f.offset, ← sizeOf f.type) : Sem (Array (Nat × Nat))).run P w = .ok pl.toArray w
  st : i.st = P.stoodInHeld t
  eg : i.eg = P.eqGuardType P.depth t

structure EnvOk (P : Program) (Γ : Env) : Prop where
  tt : ∀ t i, Γ.tt.get t = some i → ∃ info, TIOk P t i info
  ft : ∀ f fn, Γ.ft.get f = some fn → P.funcs[f]? = some fn
  nm : ∀ (f : Nat) (fn : Func), P.funcs[f]? = some fn → (fn.name == "runtime.NumGoroutine") = false
  mt : ∀ (t : TypeId) (name : String) (f : FuncId), lookM t name Γ.mt = .ok f → ∀ (v : Value) (w : World), (method (P.types.size + Made.depth) t v name).run P w = .ok (f, v) w

section
variable {P : Program} {t : TypeId} {i : TI} {info : TypeInfo} (k : TIOk P t i info) (w : World)
include k
theorem TIOk.run_und : (underlying t).run P w = .ok i.u w := run_underlying k.und w
theorem TIOk.run_ti : (typeInfo t).run P w = .ok info w := by simp [typeInfo, k.info]
theorem TIOk.run_size : (sizeOf t).run P w = .ok i.size w := by simp [sizeOf, k.run_ti, k.size]
theorem TIOk.run_zero {z : AV} (hz : i.zero = some z) (γ : Gm) : ∃ v, info.zero = some v ∧ (zeroValue t).run P w = .ok v w ∧ VR γ z v := by
  obtain ⟨v, h1, h2⟩ := k.zero z hz
  exact ⟨v, h1, by simp [zeroValue, k.run_ti, h1], absC_ok γ h2⟩
theorem TIOk.run_isAgg : (isAgg t).run P w = .ok i.agg w := by
  simp only [isAgg, Sem.run_bind, k.run_und, Result.andThen_ok, k.agg]
  cases i.u <;> rfl
end

theorem addr_add (b o n : Nat) : Addr.add ⟨b, o, none⟩ n = ⟨b, o + n, none⟩ := by
  unfold Addr.add; split
  · rename_i h; subst h; rfl
  · rfl

theorem arr_eq {α : Type} {a : Array α} {l : List α} (h : a.toList = l) : a = l.toArray := by rw [← h]

section
variable {P : Program} {Γ : Env} (G : EnvOk P Γ) {pr : Pr} {γ : Gm} {h : H} {w : World} (r : Rel pr Γ.ng γ h w)

include r in
theorem ev_ok {tm : T AV} {nt : Nat} {act : Act} (ht : TR γ nt tm act.tmps) {x : Operand} {a : AV} (e : ev Γ tm x = .ok a) : VR γ a (act.eval x) := by
  cases x with
  | tmp t =>
    simp only [ev, E.ok.injEq] at e
    simp only [Act.eval]
    by_cases hlt : t < nt
    · obtain ⟨v, hv, hr⟩ := ht.get t hlt
      rw [Array.getD_eq_getD_getElem?, hv]
      subst e
      cases hg : tm.get t with
      | none => rw [hg] at hr; exact hr
      | some y => rw [hg] at hr; exact hr
    · have hge : nt ≤ t := Nat.le_of_not_lt hlt
      rw [ht.out t hge] at e
      subst e
      rw [Array.getD_eq_getD_getElem?, Array.getElem?_eq_none (by rw [ht.size]; exact hge)]
      exact VR.undef γ
  | const v => exact absC_ok γ (og_ok e)
  | global g =>
    obtain ⟨hg, e⟩ := gd_ok e
    simp at e; subst e
    obtain ⟨sz, hs⟩ := r.glob g (by simpa using hg)
    have := VR.ptr (γ := γ) 0 hs
    simpa [Act.eval] using this
  | func f => simp [ev] at e; subst e; exact .func .nil .nil

include r in
theorem evs_ok {tm : T AV} {nt : Nat} {act : Act} (ht : TR γ nt tm act.tmps) : ∀ {xs : List Operand} {as : List AV}, evs Γ tm xs = .ok as → VRL γ as (xs.map act.eval)
  | [], _, e => by simp [evs] at e; subst e; exact .nil
  | x :: xs, _, e => by
    simp only [evs] at e
    obtain ⟨a, h1, e⟩ := bd_ok e
    obtain ⟨as, h2, e⟩ := bd_ok e
    simp at e; subst e
    exact .cons (ev_ok r ht h1) (evs_ok ht h2)

include G r in
theorem loadA_ok {t : TypeId} {b o : Nat} {a : AV} {x : Bl} (e : loadA Γ h t b o = .ok a) (hx : γ b = some x) : ∃ v, (loadVar t ⟨x.blk, x.sh + o, none⟩).run P w = .ok v w ∧ VR γ a v := by
  unfold loadA at e
  obtain ⟨i, hi, e⟩ := bd_ok e
  obtain ⟨info, k⟩ := G.tt _ _ (og_ok hi)
  split at e
  · rename_i hag
    obtain ⟨as, has, e⟩ := bd_ok e
    simp at e; subst e
    obtain ⟨hl, vs, hv, hg⟩ := r.cellsGet has hx
    have hvl := hv.length
    refine ⟨.agg vs.toArray, ?_, .agg (by simpa using hv)⟩
    have hld : (loadCells ⟨x.blk, x.sh + o, none⟩ i.size).run P w = .ok vs.toArray w := by
      rw [show i.size = vs.length from by omega]
      refine run_loadCells_list w _ vs fun j v hj => ?_
      have hlt : j < vs.length := (List.getElem?_eq_some_iff.1 hj).1
      obtain ⟨v', h1, h2⟩ := hg j (by omega)
      rw [h1] at hj; cases hj
      rw [addr_add]; exact h2
    simp only [loadVar, Sem.run_bind, k.run_isAgg, Result.andThen_ok, hag, if_true, k.run_size, hld, Sem.run_pure]
  · rename_i hag
    obtain ⟨v, h1, h2⟩ := r.cellGet e hx
    refine ⟨v, ?_, h2⟩
    simp [loadVar, Sem.run_bind, k.run_isAgg, hag, run_load, h1]

include G r in
theorem storeA_ok {t : TypeId} {b o : Nat} {a : AV} {v : Value} {x : Bl} {h' : H} (e : storeA Γ h t b o a = .ok h') (hx : γ b = some x) (hv : VR γ a v) :
    ∃ w', (storeVar t ⟨x.blk, x.sh + o, none⟩ v).run P w = .ok () w' ∧ Rel pr Γ.ng γ h' w' ∧ WK w w' := by
  unfold storeA at e
  obtain ⟨i, hi, e⟩ := bd_ok e
  obtain ⟨info, k⟩ := G.tt _ _ (og_ok hi)
  obtain ⟨hl, e⟩ := gd_ok e
  have hl' : a.cells.length = i.size := by simpa using hl
  obtain ⟨w', h1, h2, h3⟩ := r.put P e hx hv.cells
  have hcl := hv.cells.length
  refine ⟨w', ?_, h2, h3⟩
  have : v.cells.size = i.size := by rw [← hl', hcl]; simp
  simp [storeVar, Sem.run_bind, k.run_size, this, h1]

include G in
theorem partA_ok {t : TypeId} {cs : List AV} {vs : Array Value} {off : Nat} {a : AV} (e : partA Γ t cs off = .ok a) (hv : VRL γ cs vs.toList) : ∃ v, (∀ w : World, (part t vs off).run P w = .ok v w) ∧ VR γ a v := by
  unfold partA at e
  obtain ⟨i, hi, e⟩ := bd_ok e
  obtain ⟨info, k⟩ := G.tt _ _ (og_ok hi)
  split at e
  · rename_i hag
    simp at e; subst e
    refine ⟨.agg (vs.extract off (off + i.size)), fun w => ?_, .agg ?_⟩
    · simp [part, Sem.run_bind, k.run_isAgg, hag, k.run_size]
    · have : (vs.extract off (off + i.size)).toList = (vs.toList.drop off).take i.size := by simp
      rw [this]
      exact (hv.drop off).take i.size
  · rename_i hag
    obtain ⟨v, h1, h2⟩ := hv.get (og_ok e)
    refine ⟨v, fun w => ?_, h2⟩
    have : vs[off]? = some v := by simpa using h1
    simp [part, Sem.run_bind, k.run_isAgg, hag, this]
end
end Go.Vex
