/- Part VexLaid of a checked interpreter for closed calls: what it answers, the machine of the model answers; its conditions are those of its theorems. -/
import Derived.Test.YtikkljdbpckihaaGreatDoorVexStart
import Derived.OpenShut
import Derived.ChangeArms
import Derived.FnData
import Derived.Deep.Slices
set_option linter.unusedSimpArgs false
set_option linter.unusedVariables false
namespace Go.Vex
open Go.Deep

section
variable {P : Program} {w : World}

theorem vr_string {t : TypeId} {n : Nat} {v : Value} {s : List UInt8} {q : List MemPlace} (γ : Gm) (ht : P.underlying t = some .string)
    (h : DataW.trod (fun _ => ()) P w 0 (fun _ => true) false n t [v] = some (.lit (.string s), q)) : VR γ (.str (s.map (·.toNat))) v := by
  obtain ⟨sb, h1, h2, _⟩ := DataW.trod_string ht h
  simp at h1 h2
  obtain ⟨rfl, _⟩ := h2
  subst h1
  exact VR.str sb

theorem vr_int {t : TypeId} {n : Nat} {v : Value} {k k' : IntKind} {i : Int} {q : List MemPlace} (γ : Gm) (ht : P.underlying t = some (.int k'))
    (h : DataW.trod (fun _ => ()) P w 0 (fun _ => true) false n t [v] = some (.lit (.int k i), q)) : VR γ (.int k i) v := by
  obtain ⟨i', h1, h2, _⟩ := DataW.trod_int ht h
  simp at h1 h2
  obtain ⟨⟨rfl, rfl⟩, _⟩ := h2
  subst h1
  exact VR.int _ _

theorem cells_of_cell {a : Addr} {v : Value} (h : w.cell? a = some v) : a.spot = none ∧ ∃ cc t fr, w.heap[a.block]? = some (.cells cc t fr) ∧ cc[a.off]? = some v := by
  unfold World.cell? at h
  split at h
  · rename_i c t fr hb
    split at h
    · simp at h
    · rename_i hs
      refine ⟨by simpa using hs, c, t, fr, hb, h⟩
  · simp at h

/-- a slice that is laid, with no spare: where it lies -/
theorem laid_slice {t e : TypeId} {fuel : Nat} {cs : List Value} {ds : List (DataW Unit)} {p : List MemPlace} (ht : P.underlying t = some (.slice e)) (hc : P.cellsOf e = 1)
    (h : DataW.trod (fun _ => ()) P w 0 (fun _ => true) false fuel t cs = some (.slice ds [], p)) (hne : 0 < ds.length) :
    ∃ x : Bl, cs = [.slice (some ⟨x.blk, x.sh, none⟩) ds.length ds.length] ∧ ∃ cc tt fr, w.heap[x.blk]? = some (.cells cc tt fr) ∧ cc.size = x.sz ∧ x.sh + ds.length ≤ cc.size ∧
      ∀ j d, ds[j]? = some d → ∃ v n q, cc[x.sh + j]? = some v ∧ DataW.trod (fun _ => ()) P w 0 (fun _ => true) false n e [v] = some (d, q) := by
  rcases open_slice1 ht hc h with ⟨_, hx⟩ | ⟨a, len, cap, m, n, V, D, Pl, hcs, _, hl, _, hm, hx, hall⟩
  · simp at hx
  · simp only [Prod.mk.injEq, DataW.slice.injEq] at hx
    obtain ⟨⟨rfl, hsp⟩, _⟩ := hx
    simp only [if_true] at hm
    subst hm
    have hlen : ((List.range len).map D).length = len := by simp
    rw [hlen] at hne ⊢
    have hml : m - len = 0 := by
      have := congrArg List.length hsp
      simpa using this.symm
    obtain rfl : m = len := by omega
    obtain ⟨hsp0, cc, tt, fr, hb, hc0⟩ := cells_of_cell (hall 0 hne).1
    have hsp1 : a.spot = none := hsp0
    obtain ⟨ab, ao, asp⟩ := a
    simp only at hsp1
    subst hsp1
    have get : ∀ i, i < m → cc[ao + i]? = some (V i) := by
      intro i hi
      have hci := (hall i hi).1
      rw [Addr.add_lit] at hci
      obtain ⟨_, cc', tt', fr', hb', hc'⟩ := cells_of_cell hci
      have hb2 : w.heap[ab]? = some (.cells cc' tt' fr') := hb'
      have hb1 : w.heap[ab]? = some (.cells cc tt fr) := hb
      rw [hb1] at hb2
      cases hb2
      exact hc'
    refine ⟨⟨ab, ao, cc.size⟩, hcs, cc, tt, fr, hb, rfl, ?_, ?_⟩
    · have := (Array.getElem?_eq_some_iff.1 (get (m - 1) (by omega))).1
      show ao + m ≤ cc.size
      omega
    · intro j d hd
      have hj : j < m := by have := (List.getElem?_eq_some_iff.1 hd).1; simpa using this
      rw [List.getElem?_map, List.getElem?_range hj] at hd
      simp at hd; subst hd
      exact ⟨V j, n, Pl j, get j hj, (hall j hj).2⟩

/-- what is known of the memory behind a table of slices -/
def TabAt (P : Program) (w : World) (e : TypeId) (x : Bl) (ds : List (DataW Unit)) : Prop :=
  ∃ cc t fr, w.heap[x.blk]? = some (.cells cc t fr) ∧ cc.size = x.sz ∧ x.sh + ds.length ≤ cc.size ∧
    ∀ j d, ds[j]? = some d → ∃ v n q, cc[x.sh + j]? = some v ∧ DataW.trod (fun _ => ()) P w 0 (fun _ => true) false n e [v] = some (d, q)

theorem var_heap {name : String} {g : Nat} {cs : Array Value} (hg : P.globalNamed name = some g) (h : w.var? P name = some cs) : ∃ t fr, w.heap[g]? = some (.cells cs t fr) := by
  simp only [World.var?, hg, Option.bind_some] at h
  split at h
  · rename_i c t fr hb
    simp at h; subst h
    exact ⟨t, fr, hb⟩
  · simp at h

/-- a table of slices that is laid -/
theorem laid_tab {name : String} {g : Nat} {tA tS e : TypeId} {k : Nat} {rest : List (String × DataW Unit)} {ps : List MemPlace} {Ds : List (List (DataW Unit))}
    (hg : P.globalNamed name = some g) (hty : (P.globals[g]?).map (·.type) = some tA) (hA : P.underlying tA = some (.array k tS)) (hS : P.underlying tS = some (.slice e))
    (hcS : P.cellsOf tS = 1) (hcE : P.cellsOf e = 1) (hne : ∀ ds ∈ Ds, 0 < ds.length)
    (h : DataW.LaidVars P w ((name, .agg (Ds.map fun ds => DataW.slice ds [])) :: rest) ps) :
    ∃ bl : Nat → Bl, (∃ cc t fr, w.heap[g]? = some (.cells cc t fr) ∧ Ds.length ≤ cc.size ∧ ∀ i ds, Ds[i]? = some ds → cc[i]? = some (Value.slice (some ⟨(bl i).blk, (bl i).sh, none⟩) ds.length ds.length)) ∧
      ∀ i ds, Ds[i]? = some ds → TabAt P w e (bl i) ds := by
  obtain ⟨g', t', cs, fuel, p, q, hg', ht', hv, hd, _, _⟩ := h
  obtain rfl := Option.some.inj (hg.symm.trans hg')
  obtain rfl := Option.some.inj (hty.symm.trans ht')
  obtain ⟨t, fr, hb⟩ := var_heap hg hv
  obtain ⟨xs, m, rfl, hx, _, hn, hel⟩ := DataW.trod_array hA hd
  simp only [Prod.mk.injEq, DataW.agg.injEq] at hx
  obtain ⟨hx, _⟩ := hx
  have hlen : Ds.length = k := by
    have := congrArg List.length hx
    simpa [hn] using this
  have each : ∀ i : Nat, ∃ x : Bl, ∀ ds, Ds[i]? = some ds → cs[i]? = some (Value.slice (some ⟨x.blk, x.sh, none⟩) ds.length ds.length) ∧ TabAt P w e x ds := by
    intro i
    cases hi : Ds[i]? with
    | none => exact ⟨⟨0, 0, 0⟩, fun ds e => by simp at e⟩
    | some ds =>
      have hik : i < k := by rw [← hlen]; exact (List.getElem?_eq_some_iff.1 hi).1
      have h1 := hel i hik
      rw [hcS, Nat.mul_one] at h1
      have h2 : (xs[i]?).map (·.1) = some (DataW.slice ds []) := by
        rw [← List.getElem?_map, ← hx, List.getElem?_map, hi]; rfl
      cases hxi : xs[i]? with
      | none => rw [hxi] at h2; simp at h2
      | some y =>
        obtain ⟨y1, y2⟩ := y
        rw [hxi] at h1 h2
        simp at h2; subst h2
        obtain ⟨x, hcs, hT⟩ := laid_slice hS hcE h1 (hne ds (List.mem_of_getElem? hi))
        refine ⟨x, fun ds' e => ?_⟩
        simp at e; subst e
        refine ⟨?_, hT⟩
        have hh := congrArg (fun l => l[0]?) hcs
        simp only [List.getElem?_take, List.getElem?_drop, Nat.add_zero, List.getElem?_cons_zero] at hh
        simpa using hh
  obtain ⟨bl, hbl⟩ := Classical.axiomOfChoice each
  refine ⟨bl, ⟨cs, t, fr, hb, ?_, fun i ds hi => (hbl i ds hi).1⟩, fun i ds hi => (hbl i ds hi).2⟩
  cases hk : Ds.length with
  | zero => omega
  | succ j =>
    obtain ⟨ds, hds⟩ : ∃ ds, Ds[j]? = some ds := ⟨Ds[j]'(by omega), List.getElem?_eq_getElem (by omega)⟩
    have := (Array.getElem?_eq_some_iff.1 (hbl j ds hds).1).1
    omega

/-- a table as a block that is only read -/
theorem tab_holds {γ : Gm} {g k0 : Nat} {bl : Nat → Bl} {Ds : List (List (DataW Unit))} {cc : Array Value} {t : TypeId} {fr : Nat × Nat} (hγ : ∀ i, i < Ds.length → γ (k0 + i) = some (bl i))
    (hw : w.heap[g]? = some (.cells cc t fr)) (hl : Ds.length ≤ cc.size) (hc : ∀ i ds, Ds[i]? = some ds → cc[i]? = some (Value.slice (some ⟨(bl i).blk, (bl i).sh, none⟩) ds.length ds.length)) :
    Holds0 γ w ⟨g, 0, cc.size⟩ (Ds.mapIdx fun i ds => AV.slice (k0 + i) 0 ds.length (.k ds.length)) := by
  refine ⟨cc, t, fr, hw, rfl, by simpa using hl, fun j a e => ?_⟩
  rw [List.getElem?_mapIdx] at e
  cases hj : Ds[j]? with
  | none => rw [hj] at e; simp at e
  | some ds =>
    rw [hj] at e
    simp at e; subst e
    refine ⟨_, by rw [Nat.zero_add]; exact hc j ds hj, ?_⟩
    exact VR.sliceK (γ := γ) 0 ds.length ds.length (hγ j (List.getElem?_eq_some_iff.1 hj).1) (Nat.le_refl _) (fun _ => by simp)

theorem strs_holds {γ : Gm} {e : TypeId} {x : Bl} {ds : List (DataW Unit)} {vs : List AV} (he : P.underlying e = some .string) (h : TabAt P w e x ds)
    (hv : vs = ds.map fun d => match d with | .lit (.string s) => AV.str (s.map (·.toNat)) | _ => AV.nilptr) (hd : ∀ d ∈ ds, ∃ s, d = DataW.lit (.string s)) : Holds0 γ w x vs := by
  obtain ⟨cc, t, fr, h1, h2, h3, h4⟩ := h
  subst hv
  refine ⟨cc, t, fr, h1, h2, by simpa using h3, fun j a e => ?_⟩
  rw [List.getElem?_map] at e
  cases hj : ds[j]? with
  | none => rw [hj] at e; simp at e
  | some d =>
    rw [hj] at e
    obtain ⟨s, rfl⟩ := hd d (List.mem_of_getElem? hj)
    simp at e; subst e
    obtain ⟨v, n, q, hv, ht⟩ := h4 j _ hj
    exact ⟨v, hv, vr_string γ he ht⟩

theorem ints_holds {γ : Gm} {e : TypeId} {k : IntKind} {x : Bl} {ds : List (DataW Unit)} {vs : List AV} (he : P.underlying e = some (.int k)) (h : TabAt P w e x ds)
    (hv : vs = ds.map fun d => match d with | .lit (.int k n) => AV.int k n | _ => AV.nilptr) (hd : ∀ d ∈ ds, ∃ k n, d = DataW.lit (.int k n)) : Holds0 γ w x vs := by
  obtain ⟨cc, t, fr, h1, h2, h3, h4⟩ := h
  subst hv
  refine ⟨cc, t, fr, h1, h2, by simpa using h3, fun j a e => ?_⟩
  rw [List.getElem?_map] at e
  cases hj : ds[j]? with
  | none => rw [hj] at e; simp at e
  | some d =>
    rw [hj] at e
    obtain ⟨k', n, rfl⟩ := hd d (List.mem_of_getElem? hj)
    simp at e; subst e
    obtain ⟨v, m, q, hv, ht⟩ := h4 j _ hj
    exact ⟨v, hv, vr_int γ he ht⟩
end
end Go.Vex
