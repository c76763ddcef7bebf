/- Part VexStep2 of a checked interpreter for closed calls: what it answers, the machine of the model answers; its conditions are those of its theorems. -/
import Derived.Test.YtikkljdbpckihaaGreatDoorVexStep
import Derived.Lib.Fields
set_option linter.unusedSimpArgs false
set_option linter.unusedVariables false
namespace Go.Vex

theorem isSp_eq (b : UInt8) : isSp b.toNat = Lib.isSp b := by
  unfold isSp Lib.isSp
  rw [Bool.eq_iff_iff]
  simp [UInt8.le_iff_toNat_le, ← UInt8.toNat_inj]
  omega

theorem fieldsGo_eq : ∀ (l cur : List UInt8) (acc : List (List Nat)),
    fieldsGo (l.map (·.toNat)) (cur.map (·.toNat)).reverse acc = acc.reverse ++ (Lib.fieldsGo cur l).map fun x => x.map (·.toNat)
  | [], cur, acc => by
    simp only [List.map_nil, fieldsGo, Lib.fieldsGo]
    cases cur with
    | nil => simp
    | cons c cs =>
      have : (List.map (fun x => x.toNat) (c :: cs)).reverse ≠ [] := by simp
      cases h : (List.map (fun x => x.toNat) (c :: cs)).reverse with
      | nil => exact absurd h this
      | cons a b =>
        simp only
        rw [← h]; simp
  | b :: l, cur, acc => by
    simp only [List.map_cons, fieldsGo, Lib.fieldsGo, isSp_eq]
    cases hb : Lib.isSp b with
    | true =>
      simp only [if_true]
      cases cur with
      | nil =>
        have := fieldsGo_eq l [] acc
        simpa using this
      | cons c cs =>
        have hne : (List.map (fun x => x.toNat) (c :: cs)).reverse ≠ [] := by simp
        cases h : (List.map (fun x => x.toNat) (c :: cs)).reverse with
        | nil => exact absurd h hne
        | cons a b' =>
          simp only
          have := fieldsGo_eq l [] ((a :: b').reverse :: acc)
          simp only [List.map_nil, List.reverse_nil] at this
          rw [this, ← h]
          simp
    | false =>
      have := fieldsGo_eq l (cur ++ [b]) acc
      simp only [List.map_append, List.map_cons, List.map_nil, List.reverse_append, List.reverse_cons, List.reverse_nil, List.nil_append, List.cons_append] at this
      simpa using this

theorem fields_eq (s : List UInt8) : fieldsGo (s.map (·.toNat)) [] [] = (Lib.fields s).map fun x => x.map (·.toNat) := by
  have := fieldsGo_eq s [] []
  simpa [Lib.fields] using this

theorem allAscii_ok : ∀ {l : List UInt8}, allAscii (l.map (·.toNat)) = true → ∀ b ∈ l, b.toNat < 128
  | [], _ => by simp
  | b :: l, h => by
    simp only [List.map_cons, allAscii] at h
    split at h
    · rename_i hb
      intro c hc
      rcases List.mem_cons.1 hc with rfl | hc
      · simpa [Nat.blt_eq] using hb
      · exact allAscii_ok h c hc
    · simp at h

/-- the contract of strings.Fields, of ASCII -/
def FieldsOk (P : Program) (Γ : Env) (Z : Nat × Obj) : Prop :=
  (∀ args w, (callFunc Γ.fields args).run P w = .ok (.enter Γ.fields args) w) ∧ ∃ t : TypeId, ∀ (s : ByteArray) (w : World), s.size < 4294967281 → (∀ b ∈ s.data.toList, b.toNat < 128) → w.heap[Z.1]? = some Z.2 →
    Calls P Γ.fields #[.string s] w fun e w' => e = .returned (.slice (some ⟨w.heap.size, 0, none⟩) (Lib.fields s.data.toList).length (Lib.fields s.data.toList).length) ∧
      w' = w.alloc (.cells ((Lib.fields s.data.toList).map fun l => Value.string ⟨l.toArray⟩).toArray t)

section
variable {P : Program} {Γ : Env} (G : EnvOk P Γ) {pr : Pr} {γ : Gm} {h : H} {w : World} (r : Rel pr Γ.ng γ h w)

include G in
theorem enterA_ok {g : FuncId} {args : List AV} {args' : Array Value} {d : Bool} {c : AF} (e : enterA Γ g args d = .ok c) (hv : VRL γ args args'.toList) :
    FR γ c (Frame.enter P g args' (if d then .deferred else .normal)) ∧ (∀ w, (callFunc g args').run P w = .ok (.enter g args') w) ∧ c.rnd = none := by
  unfold enterA at e
  obtain ⟨fn, hf, e1⟩ := bd_ok e; clear e
  obtain ⟨code, hc, e2⟩ := bd_ok e1; clear e1
  obtain ⟨hn, e3⟩ := gd_ok e2; clear e2
  simp at e3; subst e3
  have hf' := G.ft _ _ (og_ok hf)
  have hc' := og_ok hc
  have hn' : args.length ≤ fn.ntmps := by simpa using hn
  have hl : args.length = args'.size := by simpa using hv.length
  refine ⟨⟨rfl, ?_, ?_, .nil, .run, rfl, rfl⟩, fun w => enter_ok hf' hc' (G.nm g fn hf') args' w, rfl⟩
  · have hd : (fn.ntmps : Nat) = ((P.funcs[g]?).map (·.ntmps)).getD 0 := by rw [hf']; rfl
    refine ⟨?_, fun t ht => ?_, fun t ht => ?_⟩
    · simp [Frame.enter, hf']; omega
    · have ht' : t < fn.ntmps := ht
      simp only [Frame.enter, hf', Option.map_some, Option.getD_some]
      by_cases hta : t < args'.size
      · obtain ⟨a, ha⟩ : ∃ a, args[t]? = some a := ⟨args[t]'(by omega), List.getElem?_eq_getElem (by omega)⟩
        obtain ⟨v, h1, h2⟩ := hv.get ha
        refine ⟨v, ?_, ?_⟩
        · rw [Array.getElem?_append_left hta]; simpa using h1
        · rw [T.get_ofL, if_pos ⟨Nat.zero_le _, by omega⟩, Nat.sub_zero, ha]; exact h2
      · refine ⟨Go.undef, ?_, ?_⟩
        · rw [Array.getElem?_append_right (by omega), Array.getElem?_replicate, if_pos (by omega)]
        · rw [T.get_ofL, if_neg (by omega)]
          exact VR.undef γ
    · have ht' : fn.ntmps ≤ t := ht
      show (T.ofL .lf 0 args).get t = none
      rw [T.get_ofL, if_neg (by omega)]; rfl
  · simp only [Frame.enter, hf', Option.bind_some, hc', Option.getD_some]
    exact .cons (.code _) .nil

theorem foldSet_ok {nt : Nat} : ∀ {ps : List Nat} {args : List AV} {vs : List Value} {tm : T AV} {tmps : Array Value}, TR γ nt tm tmps → VRL γ args vs → ps.all (Nat.blt · nt) = true →
    TR γ nt (foldSet ps args tm) ((ps.zip vs).foldl (fun tmps (x : Nat × Value) => tmps.setIfInBounds x.1 x.2) tmps)
  | [], _, _, _, _, h, .nil, _ => h
  | [], _, _, _, _, h, .cons _ _, _ => h
  | _ :: _, _, _, _, _, h, .nil, _ => h
  | p :: ps, a :: as, v :: vs, tm, tmps, h, .cons hv ht, hp => by
    simp only [List.all_cons, Bool.and_eq_true] at hp
    simp only [foldSet, List.zip_cons_cons, List.foldl_cons]
    refine foldSet_ok ?_ ht hp.2
    have := h.put (o := { dst := some p, op := .move (.tmp 0), type := 0, pos := "", after := #[], guard := none }) hv (tm' := tm.set p a) (by simp [setDst, gd, hp.1])
    exact this

include r in
theorem roundA_ok {l : Nat} {args : List AV} {args' : Array Value} {x : Bl} {c : AF} (e : roundA l args h = .ok c) (hx : γ l = some x) (hv : VRL γ args args'.toList) :
    ∃ fn tm as body, (Instr.yield x.blk args').run P w = .ok (.round x.blk fn tm as body) w ∧ FR γ c (Frame.round x.blk fn tm as body .normal) ∧ c.rnd = some l := by
  unfold roundA at e
  split at e
  · rename_i st pe fn tm nt ps a b d hm
    obtain ⟨hck, e2⟩ := gd_ok e; clear e
    simp at e2; subst e2
    have hck' : args.length = ps.length ∧ ps.all (Nat.blt · nt) = true := by
      simp only [Bool.and_eq_true] at hck
      exact ⟨by simpa using hck.1, hck.2⟩
    obtain ⟨y, hy, L, h1, ⟨a1, a2, a3, a4, a5, a6, a7, a8⟩, h3⟩ := r.blk _ _ hm
    obtain rfl : y = x := by rw [hx] at hy; exact (Option.some.inj hy).symm
    have hl : args.length = args'.size := by simpa using hv.length
    have hps : L.params.size = ps.length := by rw [← a5]; simp
    have hgl : (Instr.getLoop y.blk).run P w = .ok L w := by simp [Instr.getLoop, run_getObj h1 rfl]
    refine ⟨L.fn, (L.params.zip args').foldl (fun tmps (t, a) => tmps.setIfInBounds t a) L.tmps, L.assign, L.body, ?_, ⟨a3, ?_, ?_, .nil, .run, rfl, ⟨y, hx, rfl⟩⟩, rfl⟩
    · have hne : ¬ (args'.size ≠ L.params.size) := by omega
      simp only [Instr.yield, Sem.run_bind, hgl, Result.andThen_ok]
      rw [if_neg hne]
      rfl
    · have := foldSet_ok a4 hv hck'.2
      simp only [Frame.round]
      rw [← Array.foldl_toList, Array.toList_zip, a5]
      exact this
    · simp only [Frame.round, a6, a7]
      exact .cons (.code _) (.cons .beginRound (.cons (.code _) .nil))
  · simp at e

include G r in
theorem resultsA_ok {nt : Nat} {tm : T AV} {tmps : Array Value} (ht : TR γ nt tm tmps) : ∀ {rs : List ResultVar} {vs : List AV}, resultsA Γ tm h rs = .ok vs →
    ∃ vs' : List Value, (rs.mapM (fun (x : ResultVar) => match x with | ResultVar.tmp t => (pure (tmps.getD t Go.undef) : Sem Value) | ResultVar.cell a t => do loadVar t (← asAddr (tmps.getD a Go.undef)))).run P w = Result.ok vs' w ∧ VRL γ vs vs'
  | [], _, e => by simp [resultsA] at e; subst e; exact ⟨[], rfl, .nil⟩
  | .tmp t :: rs, _, e => by
    simp only [resultsA] at e
    obtain ⟨vs, h1, e2⟩ := bd_ok e; clear e
    simp at e2; subst e2
    obtain ⟨vs', q1, q2⟩ := resultsA_ok ht h1
    have := ev_ok (Γ := Γ) (act := ⟨tmps, []⟩) r ht (x := .tmp t) (a := (match tm.get t with | some v => v | none => .tuple [])) rfl
    refine ⟨tmps.getD t Go.undef :: vs', ?_, .cons this q2⟩
    simp only [List.mapM_cons, Sem.run_bind, Sem.run_pure, Result.andThen_ok, q1]
  | .cell a t :: rs, _, e => by
    simp only [resultsA] at e
    split at e
    · rename_i b o hb
      obtain ⟨v, h1, e2⟩ := bd_ok e; clear e
      obtain ⟨vs, h2, e3⟩ := bd_ok e2; clear e2
      simp at e3; subst e3
      obtain ⟨vs', q1, q2⟩ := resultsA_ok ht h2
      have := ev_ok (Γ := Γ) (act := ⟨tmps, []⟩) r ht (x := .tmp a) (a := .ptr b o) (by simp [ev, hb])
      simp only [Act.eval] at this
      generalize hva : tmps.getD a Go.undef = va at this
      cases this with
      | ptr o hγ =>
        obtain ⟨v', s1, s2⟩ := loadA_ok G r h1 hγ
        refine ⟨v' :: vs', ?_, .cons s2 q2⟩
        rw [List.mapM_cons]
        simp only [Sem.run_bind]
        rw [show Sem.run P (asAddr (tmps.getD a Go.undef)) w = .ok _ w from by rw [hva]; rfl]
        simp only [Result.andThen_ok, s1, q1, Sem.run_pure]
    · simp at e

include G r in
theorem results_run {nt : Nat} {tm : T AV} {tmps : Array Value} (ht : TR γ nt tm tmps) {fn : Func} {vs : List AV} (e : resultsA Γ tm h fn.results.toList = .ok vs) :
    ∃ v', (results fn tmps).run P w = .ok v' w ∧ VR γ (oneOf vs) v' := by
  obtain ⟨vs', q1, q2⟩ := resultsA_ok G r ht e
  have hl := q2.length
  unfold results
  rw [Array.mapM_eq_mapM_toList]
  simp only [Sem.run_bind, Sem.run_map]
  refine ⟨if h : vs'.toArray.size = 1 then vs'.toArray[0] else .tuple vs'.toArray, ?_, ?_⟩
  · erw [q1]; rfl
  · cases q2 with
    | nil => exact .tuple .nil
    | cons h t => cases t with
      | nil => simpa [oneOf] using h
      | cons h2 t2 => simp [oneOf]; exact .tuple (.cons h (.cons h2 t2))
end
end Go.Vex
