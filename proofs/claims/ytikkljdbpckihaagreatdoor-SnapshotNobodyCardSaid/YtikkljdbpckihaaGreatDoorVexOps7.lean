/- Part VexOps7 of a checked interpreter for closed calls: what it answers, the machine of the model answers; its conditions are those of its theorems. -/
import Derived.Test.YtikkljdbpckihaaGreatDoorVexOps6
set_option linter.unusedSimpArgs false
set_option linter.unusedVariables false
namespace Go.Vex
section
variable {P : Program} {Γ : Env} (G : EnvOk P Γ) {pr : Pr} {γ : Gm} {h : H} {w : World} (r : Rel pr Γ.ng γ h w)

theorem parts_map (f : Operand → Value) (ps : Array (Nat × Operand)) : (ps.map fun (i, x) => (i, f x)).toList = ps.toList.map fun x => (x.1, f x.2) := by simp

set_option maxHeartbeats 1000000 in
include G r in
theorem opA_ok {tm : T AV} {nt : Nat} {act : Act} (ht : TR γ nt tm act.tmps) {o : Oper} {q : R} (e : opA Γ tm h o = .ok q) : OpOk P Γ pr γ h w ((execOp act.eval o).run P w) q := by
  obtain ⟨dst, op, type, pos, after, guard⟩ := o
  unfold opA at e
  dsimp only at e
  split at e
  · obtain ⟨v, hv, e1⟩ := bd_ok e
    simp at e1; subst e1
    exact ⟨γ, _, w, Gm.le_refl _, rfl, ev_ok r ht hv, r, WK.refl w⟩
  · obtain ⟨v, hv, e1⟩ := bd_ok e
    simp at e1; subst e1
    exact ⟨γ, _, w, Gm.le_refl _, rfl, ev_ok r ht hv, r, WK.refl w⟩
  · rename_i c a b
    obtain ⟨cv, hc, e1⟩ := bd_ok e; clear e
    have hcr := ev_ok r ht hc
    split at e1
    · obtain ⟨v, hv, e2⟩ := bd_ok e1
      simp at e2; subst e2
      generalize hco : act.eval c = vc at hcr
      cases hcr
      exact ⟨γ, act.eval a, w, Gm.le_refl _, by simp [execOp, hco, asBool], ev_ok r ht hv, r, WK.refl w⟩
    · obtain ⟨v, hv, e2⟩ := bd_ok e1
      simp at e2; subst e2
      generalize hco : act.eval c = vc at hcr
      cases hcr
      exact ⟨γ, act.eval b, w, Gm.le_refl _, by simp [execOp, hco, asBool], ev_ok r ht hv, r, WK.refl w⟩
    · simp at e1
  · rename_i t
    obtain ⟨i, hi, e1⟩ := bd_ok e; clear e
    obtain ⟨z, hz, e2⟩ := bd_ok e1; clear e1
    simp at e2; subst e2
    obtain ⟨inf, k⟩ := G.tt _ _ (og_ok hi)
    obtain ⟨zv, _, q2, q3⟩ := k.run_zero w (og_ok hz) γ
    refine val_ok' (new_ok r q3.cells t ?_)
    simp [Instr.alloc, q2, newVar, newRow]
  · rename_i t x
    obtain ⟨v, hv, e1⟩ := bd_ok e; clear e
    simp at e1; subst e1
    refine val_ok' (new_ok r (ev_ok r ht hv).cells t ?_)
    simp [Instr.box, newVar, newRow]
  · rename_i t parts
    obtain ⟨i, hi, e1⟩ := bd_ok e; clear e
    obtain ⟨z, hz, e2⟩ := bd_ok e1; clear e1
    obtain ⟨inf, k⟩ := G.tt _ _ (og_ok hi)
    obtain ⟨zv, _, q2, q3⟩ := k.run_zero w (og_ok hz) γ
    have hu := k.run_und w
    split at e2
    · rename_i fs hd
      obtain ⟨pl, hpl, e3⟩ := bd_ok e2; clear e2
      obtain ⟨cs, hcs, e4⟩ := bd_ok e3; clear e3
      simp at e4; subst e4
      rw [hd] at hu
      have hpls := k.pl fs pl hd (og_ok hpl) w
      obtain ⟨ds', s1, s2, _⟩ := fillA_ok r ht hcs q3.cells
      refine val_ok ⟨.agg ds', ?_, .agg s2⟩ r
      simp only [Instr.build, Sem.run_bind, q2, Result.andThen_ok, hu, hpls]
      rw [parts_map]
      have : (fun (x : Nat) => pl.toArray[x]?) = (fun (k : Nat) => pl[k]?) := by funext x; simp
      rw [this, s1]
      rfl
    · rename_i n elem hd
      obtain ⟨ei, he, e3⟩ := bd_ok e2; clear e2
      obtain ⟨cs, hcs, e4⟩ := bd_ok e3; clear e3
      simp at e4; subst e4
      obtain ⟨inf2, k2⟩ := G.tt _ _ (og_ok he)
      have hs := k2.run_size w
      rw [hd] at hu
      obtain ⟨ds', s1, s2, _⟩ := fillA_ok r ht hcs q3.cells
      refine val_ok ⟨.agg ds', ?_, .agg s2⟩ r
      simp only [Instr.build, Sem.run_bind, q2, Result.andThen_ok, hu, hs]
      rw [parts_map, s1]
      rfl
    · simp at e2
  · rename_i t len parts
    obtain ⟨i, hi, e1⟩ := bd_ok e; clear e
    obtain ⟨inf, k⟩ := G.tt _ _ (og_ok hi)
    have hu := k.run_und w
    split at e1
    · rename_i elem hd
      obtain ⟨ei, he, e2⟩ := bd_ok e1; clear e1
      obtain ⟨z, hz, e3⟩ := bd_ok e2; clear e2
      obtain ⟨hck, e4⟩ := gd_ok e3; clear e3
      have hck' : len * ei.size ≤ 16777216 ∧ z.cells.length = ei.size := by simpa using hck
      obtain ⟨cs, hcs, e5⟩ := bd_ok e4; clear e4
      simp at e5; subst e5
      obtain ⟨inf2, k2⟩ := G.tt _ _ (og_ok he)
      have hs := k2.run_size w
      obtain ⟨zv, _, q2, q3⟩ := k2.run_zero w (og_ok hz) γ
      rw [hd] at hu
      have hzs : zv.cells.size = ei.size := by rw [← hck'.2, q3.cells.length]; simp
      have hz0 := zero_cells q3.cells len
      rw [← hzs] at hs
      obtain ⟨ds', s1, s2, _⟩ := fillA_ok r ht hcs hz0
      refine val_ok' (newS_ok r s2 elem (Nat.le_refl _) ?_)
      have hno : ¬ (len * zv.cells.size > 2 ^ 24) := by rw [hzs]; omega
      rw [hzs] at s1
      simp only [← hzs] at s1
      simp only [Instr.buildSlice, Sem.run_bind, hu, hs, Result.andThen_ok]
      rw [if_neg hno]
      by_cases h0 : len * zv.cells.size = 0
      · rw [if_pos h0]
        have hr0 : Array.range (len * zv.cells.size) = #[] := by rw [h0]; rfl
        rw [hr0] at s1 ⊢
        simp only [Array.map_empty] at s1
        simp [parts_map, s1, newRow]
      · rw [if_neg h0]
        simp [parts_map, s1, newRow, q2]
    · simp at e1
  · rename_i t a
    obtain ⟨v, hv, e1⟩ := bd_ok e; clear e
    have hvr := ev_ok r ht hv
    split at e1
    · obtain ⟨x, hx, e2⟩ := bd_ok e1
      simp at e2; subst e2
      generalize hco : act.eval a = va at hvr
      cases hvr with
      | ptr o hγ =>
        obtain ⟨v', s1, s2⟩ := loadA_ok G r hx hγ
        exact val_ok ⟨v', by simp [Instr.loadAt, hco, Instr.sureAddr, s1], s2⟩ r
    · simp at e1
  · rename_i t a x
    obtain ⟨v, hv, e1⟩ := bd_ok e; clear e
    obtain ⟨y, hy, e2⟩ := bd_ok e1; clear e1
    have hvr := ev_ok r ht hv
    have hyr := ev_ok r ht hy
    split at e2
    · obtain ⟨h', hst, e3⟩ := bd_ok e2
      simp at e3; subst e3
      generalize hco : act.eval a = va at hvr
      cases hvr with
      | ptr o hγ =>
        obtain ⟨w', s1, s2, s3⟩ := storeA_ok G r hst hγ hyr
        exact skip_ok ⟨w', by simp [Instr.storeAt, hco, Instr.sureAddr, s1], s2, s3⟩
    · simp at e2
  · rename_i x
    obtain ⟨v, hv, e1⟩ := bd_ok e; clear e
    have hvr := ev_ok r ht hv
    have hv2 := hvr
    split at e1
    · simp at e1; subst e1
      generalize hco : act.eval x = va at hvr hv2
      cases hvr
      exact ⟨γ, _, w, Gm.le_refl _, by simp [execOp, hco], hv2, r, WK.refl w⟩
    · simp at e1; subst e1
      generalize hco : act.eval x = va at hvr hv2
      cases hvr
      exact ⟨γ, _, w, Gm.le_refl _, by simp [execOp, hco], hv2, r, WK.refl w⟩
    · simp at e1; subst e1
      generalize hco : act.eval x = va at hvr hv2
      cases hvr
      exact ⟨γ, _, w, Gm.le_refl _, by simp [execOp, hco], hv2, r, WK.refl w⟩
    · simp at e1
  · rename_i op t x y yt
    obtain ⟨a, ha, e1⟩ := bd_ok e; clear e
    obtain ⟨b, hb, e2⟩ := bd_ok e1; clear e1
    obtain ⟨v, hv, e3⟩ := bd_ok e2; clear e2
    simp at e3; subst e3
    exact val_ok (binA_ok G hv (ev_ok r ht ha) (ev_ok r ht hb) w) r
  · rename_i op t x
    obtain ⟨a, ha, e1⟩ := bd_ok e; clear e
    obtain ⟨v, hv, e3⟩ := bd_ok e1; clear e1
    simp at e3; subst e3
    exact val_ok (unA_ok hv (ev_ok r ht ha) w) r
  · rename_i s d x
    obtain ⟨a, ha, e1⟩ := bd_ok e; clear e
    obtain ⟨p, hv, e3⟩ := bd_ok e1; clear e1
    simp at e3; subst e3
    obtain ⟨hh, hr⟩ := convA_ok G hv (ev_ok r ht ha) w
    rw [hh]
    exact val_ok hr r
  · rename_i t x
    obtain ⟨a, ha, e1⟩ := bd_ok e; clear e
    obtain ⟨i, hi, e2⟩ := bd_ok e1; clear e1
    obtain ⟨inf, k⟩ := G.tt _ _ (og_ok hi)
    have hu := k.run_und w
    split at e2
    · simp at e2
    · rename_i hni
      simp at e2; subst e2
      refine val_ok ⟨.iface t (act.eval x), ?_, .iface t (ev_ok r ht ha)⟩ r
      simp only [Instr.makeInterface, Sem.run_bind, hu, Result.andThen_ok]
      cases hd : i.u <;> first | rfl | exact absurd hd (hni _)
  · rename_i f first captured
    obtain ⟨a, ha, e1⟩ := bd_ok e; clear e
    obtain ⟨b, hb, e2⟩ := bd_ok e1; clear e1
    simp at e2; subst e2
    refine val_ok ⟨.func (.func f) (first.map act.eval) (captured.map act.eval), rfl, .func ?_ ?_⟩ r
    · rw [args_eq]; exact evs_ok r ht ha
    · rw [args_eq]; exact evs_ok r ht hb
  · rename_i t
    simp at e; subst e
    have hc := r.fresh h.c (Nat.le_refl _)
    refine val_ok' ⟨γ.put h.c ⟨w.heap.size, 0, 0⟩, .map (some w.heap.size), _, Gm.le_put hc, by simp [Instr.makeMap] <;> rfl, .map (x := ⟨w.heap.size, 0, 0⟩) (by simp [Gm.put]), ?_, wk_push _ (.map #[] 0)⟩
    exact r.new (.map #[] 0) (.map [] 0) 0 (by intros; simp) fun γ' g w' hw hp => ⟨#[], hw, trivial, hp⟩
  · rename_i t l c
    obtain ⟨i, hi, e1⟩ := bd_ok e; clear e
    obtain ⟨inf, k⟩ := G.tt _ _ (og_ok hi)
    have hu := k.run_und w
    split at e1
    · rename_i elem hd
      obtain ⟨ei, he, e2⟩ := bd_ok e1; clear e1
      obtain ⟨z, hz, e3⟩ := bd_ok e2; clear e2
      obtain ⟨ln, hln, e4⟩ := bd_ok e3; clear e3
      obtain ⟨cn, hcn, e5⟩ := bd_ok e4; clear e4
      obtain ⟨hck, e6⟩ := gd_ok e5; clear e5
      simp at e6; subst e6
      obtain ⟨lv, hl1, hl2⟩ := bd_ok hln
      obtain ⟨cv, hc1, hc2⟩ := bd_ok hcn
      obtain ⟨kl, hl3⟩ := natOf_ok hl2 (ev_ok r ht hl1)
      obtain ⟨kc, hc3⟩ := natOf_ok hc2 (ev_ok r ht hc1)
      have hck' : ln ≤ cn ∧ ei.bytes * cn ≤ 1000000000 ∧ cn ≤ 1000000000 ∧ z.cells.length = ei.size := by simpa using hck
      obtain ⟨hlc, hbb, hcb, hzl⟩ := hck'
      obtain ⟨inf2, k2⟩ := G.tt _ _ (og_ok he)
      have hs := k2.run_size w
      have hti := k2.run_ti w
      obtain ⟨zv, _, q2, q3⟩ := k2.run_zero w (og_ok hz) γ
      have hzs : zv.cells.size = ei.size := by rw [← hzl, q3.cells.length]; simp
      have hz0 := zero_cells q3.cells cn
      rw [← hzs] at hs
      rw [hd] at hu
      refine val_ok' (newS_ok r hz0 elem hlc ?_)
      have hwl : IntKind.i64.wrap (ln : Int) = ln := IntWalk.i64_in _ (by omega)
      have hwc : IntKind.i64.wrap (cn : Int) = cn := IntWalk.i64_in _ (by omega)
      have hb1 : ¬ (281474976710656 < (inf2.bytes : Int) * (cn : Int)) := by
        have : (inf2.bytes : Int) * (cn : Int) = ((ei.bytes * cn : Nat) : Int) := by rw [k2.bytes]; simp
        omega
      have hc0 : ¬ ((cn : Int) < 0) := by omega
      have hl0 : ¬ ((ln : Int) < 0) := by omega
      have hlc' : ¬ (cn < ln) := by omega
      have hr : Sem.run P (Instr.makeSlice t (act.eval l) (act.eval c)) w = .ok (.slice (some ⟨w.heap.size, 0, none⟩) ln cn) { w with heap := w.heap.push (.cells ((Array.range (cn * zv.cells.size)).map (zv.cells[· % zv.cells.size]!)) elem) } := by
        rw [hl3, hc3]
        by_cases h0 : cn * zv.cells.size = 0
        · have hr0 : Array.range (cn * zv.cells.size) = #[] := by rw [h0]; rfl
          simp [Instr.makeSlice, asInt, asIntOf, hu, hti, hwl, hwc, hb1, hc0, hl0, hlc', hs, newRow, h0, Array.range_zero']
        · simp [Instr.makeSlice, asInt, asIntOf, hu, hti, hwl, hwc, hb1, hc0, hl0, hlc', hs, newRow, h0, q2]
      rw [hr]
    · simp at e1
  · rename_i t x lo hi mx
    obtain ⟨a, ha, e1⟩ := bd_ok e; clear e
    obtain ⟨v, hv, e3⟩ := bd_ok e1; clear e1
    simp at e3; subst e3
    exact val_ok (sliceA_ok G r ht hv (ev_ok r ht ha)) r
  · rename_i s x f
    obtain ⟨a, ha, e1⟩ := bd_ok e; clear e
    obtain ⟨v, hv, e3⟩ := bd_ok e1; clear e1
    simp at e3; subst e3
    exact val_ok (fieldAtA_ok G hv (ev_ok r ht ha) w) r
  · rename_i s x f
    obtain ⟨a, ha, e1⟩ := bd_ok e; clear e
    obtain ⟨v, hv, e3⟩ := bd_ok e1; clear e1
    simp at e3; subst e3
    exact val_ok (fieldA_ok G hv (ev_ok r ht ha) w) r
  · rename_i t x ix
    obtain ⟨a, ha, e1⟩ := bd_ok e; clear e
    obtain ⟨k, hk, e2⟩ := bd_ok e1; clear e1
    obtain ⟨v, hv, e3⟩ := bd_ok e2; clear e2
    simp at e3; subst e3
    exact val_ok (indexAtA_ok G hv (ev_ok r ht ha) (ev_ok r ht hk) w) r
  · rename_i t x ix
    obtain ⟨a, ha, e1⟩ := bd_ok e; clear e
    obtain ⟨k, hk, e2⟩ := bd_ok e1; clear e1
    obtain ⟨v, hv, e3⟩ := bd_ok e2; clear e2
    simp at e3; subst e3
    exact val_ok (indexA_ok G hv (ev_ok r ht ha) (ev_ok r ht hk) w) r
  · rename_i t x ix ok
    obtain ⟨a, ha, e1⟩ := bd_ok e; clear e
    obtain ⟨k, hk, e2⟩ := bd_ok e1; clear e1
    obtain ⟨v, hv, e3⟩ := bd_ok e2; clear e2
    simp at e3; subst e3
    exact val_ok (lookA_ok G r hv (ev_ok r ht ha) (ev_ok r ht hk)) r
  · rename_i t m k x
    obtain ⟨a, ha, e1⟩ := bd_ok e; clear e
    obtain ⟨kk, hk, e2⟩ := bd_ok e1; clear e1
    obtain ⟨v, hv, e3⟩ := bd_ok e2; clear e2
    obtain ⟨h', hh, e4⟩ := bd_ok e3; clear e3
    simp at e4; subst e4
    exact skip_ok (updA_ok G r hh (ev_ok r ht ha) (ev_ok r ht hk) (ev_ok r ht hv))
  · rename_i t m k x
    obtain ⟨a, ha, e1⟩ := bd_ok e; clear e
    obtain ⟨kk, hk, e2⟩ := bd_ok e1; clear e1
    obtain ⟨v, hv, e3⟩ := bd_ok e2; clear e2
    obtain ⟨h', hh, e4⟩ := bd_ok e3; clear e3
    simp at e4; subst e4
    exact skip_ok (updA_ok G r hh (ev_ok r ht ha) (ev_ok r ht hk) (ev_ok r ht hv))
  · rename_i x xt asserted ok
    obtain ⟨a, ha, e1⟩ := bd_ok e; clear e
    obtain ⟨v, hv, e3⟩ := bd_ok e1; clear e1
    simp at e3; subst e3
    exact val_ok (assertA_ok G hv (ev_ok r ht ha) w) r
  · rename_i t ix
    obtain ⟨a, ha, e1⟩ := bd_ok e; clear e
    have har := ev_ok r ht ha
    split at e1
    · rename_i vs
      obtain ⟨v, hv, e2⟩ := bd_ok e1
      simp at e2; subst e2
      generalize hco : act.eval t = vt at har
      cases har with
      | tuple hvs =>
        obtain ⟨v', s1, s2⟩ := hvs.get (og_ok hv)
        rename_i cs'
        have s1' : cs'[ix]? = some v' := by simpa using s1
        exact val_ok ⟨v', by simp [Instr.extract, hco, s1'], s2⟩ r
    · simp at e1
  · rename_i c
    exact callA_ok G r ht e
  · rename_i c
    obtain ⟨args, ha, e1⟩ := bd_ok e; clear e
    have hargs : VRL γ args (c.args.map act.eval).toList := by rw [args_eq]; exact evs_ok r ht ha
    split at e1
    · rename_i f hc
      simp at e1; subst e1
      refine ⟨{ target := .fn (.func f) #[], args := c.args.map act.eval }, ⟨#[], rfl, by simpa using hargs⟩, ?_⟩
      simp [execOp, resolve, hc, Act.eval, Deferred.ofValue]
    · rename_i o hno hc
      obtain ⟨v, hv, e2⟩ := bd_ok e1; clear e1
      have hvr := ev_ok r ht hv
      split at e2
      · rename_i f first captured
        simp at e2; subst e2
        generalize hvo : act.eval o = vo at hvr
        cases hvr with
        | func hf hcp =>
          rename_i a' c'
          refine ⟨{ target := .fn (.func f) c', args := a' ++ c.args.map act.eval }, ⟨c', rfl, ?_⟩, ?_⟩
          · simp only [Array.toList_append, List.append_assoc]
            exact hf.append (hargs.append hcp)
          · simp [execOp, resolve, hc, hvo, Deferred.ofValue]
      · simp at e2
    · simp at e1
  · rename_i x
    obtain ⟨v, hv, e1⟩ := bd_ok e; clear e
    have hvr := ev_ok r ht hv
    split at e1
    · simp at e1; subst e1
      generalize hco : act.eval x = va at hvr
      have hv2 := hvr
      cases hvr
      exact ⟨_, hv2, by simp [execOp, hco, Instr.panic]⟩
    · simp at e1
  · simp at e
end
end Go.Vex
