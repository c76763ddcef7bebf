/- Part VexApp2 of a checked interpreter for closed calls: what it answers, the machine of the model answers; its conditions are those of its theorems. -/
import Derived.Test.YtikkljdbpckihaaGreatDoorVexApp
set_option linter.unusedSimpArgs false
set_option linter.unusedVariables false
namespace Go.Vex

theorem repl_length (z : List AV) : ∀ n, (repl z n).length = n * z.length
  | 0 => by simp [repl]
  | n + 1 => by simp [repl, repl_length z n, Nat.add_mul]; omega

theorem repl_get (z : List AV) : ∀ (n i : Nat), i < n * z.length → (repl z n)[i]? = z[i % z.length]?
  | 0, i, h => by simp at h
  | n + 1, i, h => by
    simp only [repl]
    by_cases hi : i < z.length
    · rw [List.getElem?_append_left hi, Nat.mod_eq_of_lt hi]
    · rw [List.getElem?_append_right (by omega), repl_get z n _ (by rw [Nat.add_mul] at h; omega)]
      congr 1
      exact (Nat.mod_eq_sub_mod (by omega)).symm

theorem repl_zero {γ : Gm} {za : List AV} {zv : Array Value} (h : VRL γ za zv.toList) (n : Nat) : VRL γ (repl za n) (Builtin.zeroCells zv n).toList := by
  have hl := h.length
  have hl' : za.length = zv.size := by simpa using hl
  refine VRL.of_get (by rw [repl_length]; simp [size_zeroCells, hl']) fun i x y hx hy => ?_
  have hlt : i < n * za.length := by have := (List.getElem?_eq_some_iff.1 hx).1; rwa [repl_length] at this
  rw [repl_get _ _ _ hlt] at hx
  have hlt2 : i < n * zv.size := by rw [← hl']; exact hlt
  obtain ⟨v, h1, h2⟩ := h.get hx
  have h1' : zv[i % zv.size]? = some v := by rw [← hl']; simpa using h1
  have hv : (zv[i % zv.size]!) = v := by
    have := (Array.getElem?_eq_some_iff.1 h1')
    obtain ⟨q, rfl⟩ := this
    exact getElem!_pos zv _ q
  have : (Builtin.zeroCells zv n).toList[i]? = some v := by
    simp [Builtin.zeroCells, List.getElem?_map, List.getElem?_range hlt2]
    exact hv
  rw [this] at hy; cases hy
  exact h2

section
variable {P : Program} {Γ : Env} (G : EnvOk P Γ) {pr : Pr} {γ : Gm} {h : H} {w : World} (r : Rel pr Γ.ng γ h w)

theorem lenOfA_ok {x : AV} {vx : Value} {n : Nat} (e : lenOfA x = .ok n) (hx : VR γ x vx) (w : World) : (Builtin.lenOf vx).run P w = .ok n w := by
  unfold lenOfA at e
  split at e
  · cases hx; simp at e; subst e; rfl
  · simp at e; subst e; cases hx <;> rfl
  · simp at e

theorem cell_heap {w w' : World} (e : w'.heap = w.heap) (a : Addr) : w'.cell? a = w.cell? a := by simp [World.cell?, e]

include r in
theorem firstA_ok {x : AV} {vx : Value} {size n m : Nat} {as : List AV} (e : firstA h size n x = .ok as) (hx : VR γ x vx) (hm : lenOfA x = .ok m) (hnm : n ≤ m) :
    as.length = n * size ∧ ∃ vs : List Value, VRL γ as vs ∧ ∀ w' : World, w'.heap = w.heap → (Builtin.firstCells size n vx).run P w' = .ok vs.toArray w' := by
  unfold firstA at e
  split at e
  · cases hx; simp at e; subst e
    simp [lenOfA] at hm; subst hm
    obtain rfl : n = 0 := by omega
    exact ⟨by simp, [], .nil, fun w' _ => rfl⟩
  · rename_i b o len cap
    have main : ∀ (x : Bl) (o' c : Nat), γ b = some x → len ≤ c → (0 < c → o' = x.sh + o) → as.length = n * size ∧ ∃ vs : List Value, VRL γ as vs ∧ ∀ w' : World, w'.heap = w.heap → (Builtin.firstCells size n (.slice (some ⟨x.blk, o', none⟩) len c)).run P w' = .ok vs.toArray w' := by
      intro x o' c hγ hl ho
      obtain ⟨hlen, vs, h1, h2⟩ := r.cellsGet e hγ
      refine ⟨hlen, vs, h1, fun w' hw => ?_⟩
      refine run_firstCells_some w' size n _ len c vs (by rw [← h1.length, hlen]) fun j v hj => ?_
      have hlt : j < n * size := by
        have := (List.getElem?_eq_some_iff.1 hj).1
        rw [← h1.length, hlen] at this; exact this
      obtain ⟨v', q1, q2⟩ := h2 j hlt
      rw [q1] at hj; cases hj
      simp [lenOfA] at hm
      have hn0 : 0 < n := by
        rcases Nat.eq_zero_or_pos n with z | z
        · subst z; simp at hlt
        · exact z
      rw [addr_add, ho (by omega), cell_heap hw]; exact q2
    cases hx with
    | sliceK o len c hγ hl ho => exact main _ _ _ hγ hl ho
    | sliceU o len es hγ hl ho => exact main _ _ _ hγ hl fun hc => (ho hc).1
  · simp at e

theorem bytes_rel (γ : Gm) (l : List UInt8) : VRL γ (bytesA (l.map (·.toNat))) (l.map fun b => Value.int .u8 b.toNat) := by
  induction l with
  | nil => exact .nil
  | cons b l ih => exact .cons (.int _ _) ih

include r in
theorem newsA_ok {elem : TypeId} {e : TI} {inf : TypeInfo} (k : TIOk P elem e inf) {z : AV} {zv : Value} (hz : inf.zero = some zv) (hzr : VR γ z zv) (hzl : z.cells.length = e.size) {u2 : TypeDesc} {x : AV} {vx : Value} {p : Nat × List AV}
    (he : newsA h e z u2 x = .ok p) (hx : VR γ x vx) (hb : e.bytes ≤ 4096) (hn : p.1 ≤ 1000000) :
    p.2.length = p.1 * e.size ∧ ∃ nvs : List Value, VRL γ p.2 nvs ∧ News P w u2 inf elem p.1 nvs vx := by
  unfold newsA at he
  split at he
  · rename_i kk
    obtain ⟨n, h1, h2⟩ := bd_ok he; clear he
    simp at h2; subst h2
    obtain ⟨k', rfl⟩ := natOf_ok h1 hx
    have hv := hzr.cells
    have hvl := hv.length
    have hsz : zv.cells.size = e.size := by rw [← hzl, hvl]; simp
    refine ⟨by rw [repl_length, hzl], (Builtin.zeroCells zv.cells n).toList, repl_zero hv n, ?_⟩
    refine .zeros kk k' zv rfl hz ?_ ?_ ?_
    · by_cases hns : n * inf.size = 0
      · rw [if_pos hns]
        have : (Builtin.zeroCells zv.cells n).size = 0 := by rw [size_zeroCells, hsz, ← k.size]; exact hns
        have h0 : Builtin.zeroCells zv.cells n = #[] := Array.eq_empty_of_size_eq_zero this
        rw [h0]
      · rw [if_neg hns]
    · rw [k.bytes]
      calc n * e.bytes ≤ 1000000 * 4096 := Nat.mul_le_mul hn hb
        _ ≤ 281474976710656 := by omega
    · dsimp only at hn; omega
  · obtain ⟨n, h1, h2⟩ := bd_ok he; clear he
    obtain ⟨new, h3, h4⟩ := bd_ok h2; clear h2
    simp at h4; subst h4
    obtain ⟨q1, nvs, q2, q3⟩ := firstA_ok (P := P) r h3 hx h1 (Nat.le_refl _)
    refine ⟨q1, nvs, q2, .plain vx (.inl ⟨_, rfl⟩) (lenOfA_ok h1 hx _) (lenOfA_ok h1 hx _) (by rw [k.size]; exact q3 w rfl) (by rw [k.size]; exact q3 w.drew rfl)⟩
  · split at he
    · rename_i s
      obtain ⟨h1, h2⟩ := gd_ok he; clear he
      have h1' : e.size = 1 := by simpa using h1
      simp at h2; subst h2
      cases hx
      rename_i bs
      refine ⟨by simp [bytesA, h1'], _, bytes_rel γ _, .plain _ (.inr rfl) (by simp [Builtin.lenOf]) (by simp [Builtin.lenOf]) ?_ ?_⟩
      all_goals
        have hl : (List.map (fun x => x.toNat) bs.data.toList).length = bs.size := by simp
        rw [hl]
        have : ((bs.extract 0 bs.size).data.map fun b => Value.int .u8 (b.toNat : Int)) = (bs.data.toList.map fun b => Value.int .u8 (b.toNat : Int)).toArray := by
          apply Array.ext'; simp
        rw [← this]; rfl
    · simp at he
  · simp at he


theorem wk_push' {w w0 : World} (o : Obj) (h1 : w0.tape = w.tape) (h2 : w0.os = w.os) (h3 : w0.output = w.output) (h4 : w0.heap = w.heap.push o) : WK w w0 := ⟨h2, h1, h3, by rw [h4]; simp⟩

theorem rel_heap {pr : Pr} {ng : Nat} {γ : Gm} {h : H} {w w' : World} (r : Rel pr ng γ h w) (e : w'.heap = w.heap) : Rel pr ng γ h w' := r.drew e

set_option maxHeartbeats 1000000 in
include G r in
theorem appA_ok {t t2 ty : TypeId} {s x : AV} {vs vx : Value} {a : AV} {h' : H} {ts : Array TypeId} (e : appA Γ t t2 h s x = .ok (a, h')) (hs : VR γ s vs) (hx : VR γ x vx) (h0 : ts[0]? = some t) (h1 : ts[1]? = some t2) :
    ∃ γ' v' w', γ.le γ' ∧ (Builtin.append_ ts ty #[vs, vx]).run P w = .ok v' w' ∧ VR γ' a v' ∧ Rel pr Γ.ng γ' h' w' ∧ WK w w' := by
  unfold appA at e
  obtain ⟨i, hi, e1⟩ := bd_ok e; clear e
  obtain ⟨i2, hi2, e2⟩ := bd_ok e1; clear e1
  obtain ⟨inf1, k1⟩ := G.tt _ _ (og_ok hi)
  obtain ⟨inf2, k2⟩ := G.tt _ _ (og_ok hi2)
  split at e2
  · rename_i elem hd
    have ht : P.underlying t = some (.slice elem) := by rw [← hd]; exact k1.und
    obtain ⟨ei, he, e3⟩ := bd_ok e2; clear e2
    obtain ⟨inf, k⟩ := G.tt _ _ (og_ok he)
    obtain ⟨z, hz, e4⟩ := bd_ok e3; clear e3
    obtain ⟨zv, hz1, hz2⟩ := k.zero z (og_ok hz)
    have hzr := absC_ok γ hz2
    obtain ⟨hc, e5⟩ := gd_ok e4; clear e4
    have hc' : z.cells.length = ei.size ∧ ei.bytes ≤ 4096 ∧ 0 < ei.bytes := by simpa [Nat.blt_eq] using hc
    obtain ⟨hzl, hb1, hb2⟩ := hc'
    have hzv : zv.cells.size = ei.size := by rw [← hzl, hzr.cells.length]; simp
    obtain ⟨p, hp, e6⟩ := bd_ok e5; clear e5
    obtain ⟨hn, e7⟩ := gd_ok e6; clear e6
    have hn' : p.1 ≤ 1000000 := by simpa using hn
    obtain ⟨hpl, nvs, hnr, hnews⟩ := newsA_ok r k hz1 hzr hzl hp hx hb1 hn'
    have hnvl : nvs.length = p.1 * ei.size := by rw [← hnr.length]; exact hpl
    have hib : inf.bytes ≤ 4096 := by rw [k.bytes]; exact hb1
    have hip : 0 < inf.bytes := by rw [k.bytes]; exact hb2
    -- a new row
    have fresh : ∀ (base : Option Addr) (sLen sCap : Nat) (ovs : List Value) (old : List AV), VRL γ old ovs → old.length = sLen * ei.size → sCap < sLen + p.1 → sLen ≤ 1000000 →
        (Builtin.firstCells inf.size sLen (.slice base sLen sCap)).run P w.drew = .ok ovs.toArray w.drew →
        ∃ c rest, (Builtin.append_ ts ty #[.slice base sLen sCap, vx]).run P w = .ok (.slice (some ⟨w.heap.size, 0, none⟩) (sLen + p.1) c) { w.drew with heap := w.heap.push (.cells (ovs ++ nvs ++ rest).toArray elem) } ∧
          ∀ γ', γ' h.c = some ⟨w.heap.size, 0, (ovs ++ nvs).length + rest.length⟩ → VR γ' (.slice h.c 0 (sLen + p.1) (.u ei.size)) (.slice (some ⟨w.heap.size, 0, none⟩) (sLen + p.1) c) := by
      intro base sLen sCap ovs old hor hol hg hsl hf
      obtain ⟨c, rest, q1, q2, q3⟩ := app_fresh (ty := ty) ht k2.und k.info h0 h1 hnews hg hz1 hf (by omega) hib hip
      refine ⟨c, rest, q1, fun γ' hγ => .sliceU 0 _ _ hγ q2 fun _ => ⟨rfl, ?_⟩⟩
      have : (ovs ++ nvs).length = (sLen + p.1) * ei.size := by rw [List.length_append, ← hor.length, hol, hnvl, Nat.add_mul]
      dsimp only
      rw [this, q3, hzv, ← Nat.add_mul, show sLen + p.1 + (c - (sLen + p.1)) = c from by omega]
      omega
    split at e7
    · -- nil
      cases hs
      split at e7
      · rename_i h00
        have hp0 : p.1 = 0 := Nat.eq_of_beq_eq_true h00
        simp at e7; obtain ⟨rfl, rfl⟩ := e7
        have hnv0 : nvs = [] := List.eq_nil_of_length_eq_zero (by rw [hnvl, hp0]; simp)
        refine ⟨γ, .slice none 0 0, w, Gm.le_refl _, ?_, .nilslice, r, WK.refl w⟩
        subst hnv0
        have hu2 := k2.und
        rw [hp0] at hnews
        cases hnews with
        | zeros kk kk' z' hu hz' hn hb h63 =>
          rw [hu] at hu2
          simp [Builtin.append_, run_underlying ht, run_underlying hu2, sizeOf, typeInfo, k.info, h0, h1, asInt, asIntOf, show IntKind.i64.wrap 0 = 0 from IntWalk.i64_in _ (by omega)]
        | plain x hu hl hl' hf hf' =>
          rcases hu with ⟨e, hu⟩ | hu <;> rw [hu] at hu2 <;>
            simp [Builtin.append_, run_underlying ht, run_underlying hu2, sizeOf, typeInfo, k.info, h0, h1, hl, hf]
      · rename_i h00
        have hp0 : p.1 ≠ 0 := beq0 h00
        simp at e7; obtain ⟨rfl, rfl⟩ := e7
        obtain ⟨c, rest, q1, q2⟩ := fresh none 0 0 [] [] .nil (by simp) (by omega) (by omega) (run_firstCells_none _ _ _ _ _)
        simp only [Nat.zero_add] at q1 q2
        have rr := (rel_heap r (w' := w.drew) rfl).newRow (rest := rest) hnr elem
        refine ⟨γ.put h.c ⟨w.heap.size, 0, nvs.length + rest.length⟩, _, _, Gm.le_put (r.fresh _ (Nat.le_refl _)), q1, q2 _ (by simp [Gm.put]), ?_, wk_push' _ rfl rfl rfl rfl⟩
        simp only [List.nil_append]; exact rr
    · rename_i b o len c
      cases hs with
      | sliceK o len c hγ hl ho =>
        rename_i x o'
        split at e7
        · rename_i hroom
          have hroom' : len + p.1 ≤ c := by simpa using hroom
          obtain ⟨h2, q1, q2⟩ := bd_ok e7
          simp at q2; obtain ⟨rfl, rfl⟩ := q2
          obtain ⟨w', s1, s2, s3⟩ := r.put P q1 hγ hnr
          refine ⟨γ, .slice (some ⟨x.blk, o', none⟩) (len + p.1) c, w', Gm.le_refl _, ?_, .sliceK _ _ _ hγ hroom' ho, s2, s3⟩
          refine app_room ht k2.und k.info h0 h1 hnews hroom' ?_
          rw [addr_add, k.size]
          by_cases hc0 : c = 0
          · have hnv0 : nvs = [] := List.eq_nil_of_length_eq_zero (by rw [hnvl]; have : p.1 = 0 := by omega
                                                                      rw [this]; simp)
            subst hnv0
            simp [storeCells] at s1 ⊢
            exact s1
          · rw [ho (by omega), Nat.add_assoc]; exact s1
        · rename_i hroom
          have hroom' : c < len + p.1 := by
            rcases Nat.lt_or_ge c (len + p.1) with q | q
            · exact q
            · rw [Nat.ble_eq_true_of_le q] at hroom; simp at hroom
          obtain ⟨hl1, e8⟩ := gd_ok e7; clear e7
          have hl1' : len ≤ 1000000 := by simpa using hl1
          obtain ⟨old, q1, q2⟩ := bd_ok e8; clear e8
          simp at q2; obtain ⟨rfl, rfl⟩ := q2
          obtain ⟨f1, ovs, f2, f3⟩ := firstA_ok (P := P) (x := .slice b o len (.k c)) (vx := .slice (some ⟨x.blk, o', none⟩) len c) (n := len) (m := len) (size := ei.size) r q1 (.sliceK _ _ _ hγ hl ho) rfl (Nat.le_refl _)
          obtain ⟨cc, rest, g1, g2⟩ := fresh (some ⟨x.blk, o', none⟩) len c ovs old f2 f1 hroom' hl1' (by rw [k.size]; exact f3 w.drew rfl)
          have rr := (rel_heap r (w' := w.drew) rfl).newRow (rest := rest) (f2.append hnr) elem
          exact ⟨_, _, _, Gm.le_put (r.fresh _ (Nat.le_refl _)), g1, g2 _ (by simp [Gm.put]), rr, wk_push' _ rfl rfl rfl rfl⟩
    · rename_i b o len es
      obtain ⟨hcc, e8⟩ := gd_ok e7; clear e7
      have hcc' : len ≤ 1000000 ∧ es = ei.size ∧ allOne p.2 = true := by simpa using hcc
      obtain ⟨hl1, rfl, hone⟩ := hcc'
      obtain ⟨old, q1, e9⟩ := bd_ok e8; clear e8
      obtain ⟨q, q2, e10⟩ := bd_ok e9; clear e9
      obtain ⟨qk, qh⟩ := q
      simp at e10; obtain ⟨rfl, rfl⟩ := e10
      cases hs with
      | sliceU o len es hγ hl ho =>
        rename_i x o' c
        obtain ⟨f1, ovs, f2, f3⟩ := firstA_ok (P := P) (x := .slice b o len (.u ei.size)) (vx := .slice (some ⟨x.blk, o', none⟩) len c) (n := len) (m := len) (size := ei.size) r q1 (.sliceU _ _ _ hγ hl ho) rfl (Nat.le_refl _)
        by_cases hroom : len + p.1 ≤ c
        · obtain ⟨c1, vs1, c2, c3⟩ := r.cellsGet q1 hγ
          have hfit : x.sh + o + len * ei.size + nvs.length ≤ x.sz := by
            rcases Nat.eq_zero_or_pos c with z0 | z0
            · obtain ⟨n, cs, g, s, tr, hb, hou, _⟩ := growRow_ok q2
              obtain ⟨y, hy, cc, tt, y1, y2, y3, _⟩ := r.blk _ _ hb
              obtain rfl : y = x := by rw [hγ] at hy; exact (Option.some.inj hy).symm
              have hp0 : p.1 = 0 := by omega
              have : nvs.length = 0 := by rw [hnvl, hp0]; simp
              omega
            · have := (ho z0).2
              have : (len + p.1) * ei.size ≤ c * ei.size := Nat.mul_le_mul_right _ hroom
              rw [Nat.add_mul] at this
              omega
          obtain ⟨rfl, cc, tt, g1, g2, g3⟩ := r.growRoom q2 hγ f1 c2 c3 hnr hfit
          refine ⟨_, .slice (some ⟨x.blk, o', none⟩) (len + p.1) c, _, Gm.le_put (r.fresh _ (Nat.le_refl _)), ?_, ?_, g3, wk_setRow _ _ _⟩
          · refine app_room ht k2.und k.info h0 h1 hnews hroom ?_
            rw [addr_add, k.size]
            have hst := run_storeCells_at P x.blk (x.sh + o + len * ei.size) tt nvs 0 cc w g1 (by omega) (allOne_one hnr hone)
            simp only [Nat.add_zero] at hst
            by_cases hc0 : c = 0
            · have hnv0 : nvs = [] := List.eq_nil_of_length_eq_zero (by rw [hnvl]; have : p.1 = 0 := by omega
                                                                        rw [this]; simp)
              subst hnv0
              simp only [storeCells] at hst ⊢
              exact hst
            · rw [(ho (by omega)).1]; exact hst
          · refine .sliceU (x := ⟨x.blk, x.sh + o, x.sz⟩) 0 _ _ (by simp [Gm.put]) hroom fun hc => ?_
            obtain ⟨w1, w2⟩ := ho hc
            exact ⟨w1, by simpa using w2⟩
        · obtain ⟨cc, rest, g1, g2⟩ := fresh (some ⟨x.blk, o', none⟩) len c ovs old f2 f1 (by omega) hl1 (by rw [k.size]; exact f3 w.drew rfl)
          obtain ⟨rfl, rr⟩ := (rel_heap r (w' := w.drew) rfl).growFresh q2 (by rw [List.length_append, f1]; omega) (vs := ovs ++ nvs) (rest := rest) (f2.append hnr) elem
          exact ⟨_, _, _, Gm.le_put (r.fresh _ (Nat.le_refl _)), g1, g2 _ (by simp [Gm.put]), rr, wk_push' _ rfl rfl rfl rfl⟩
    · simp at e7
  · simp at e2
end
end Go.Vex
