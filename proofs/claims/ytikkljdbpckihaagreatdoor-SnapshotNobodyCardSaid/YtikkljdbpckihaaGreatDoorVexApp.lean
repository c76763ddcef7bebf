/- Part VexApp of a checked interpreter for closed calls: what it answers, the machine of the model answers; its conditions are those of its theorems. -/
import Derived.Test.YtikkljdbpckihaaGreatDoorVexOps4
set_option linter.unusedSimpArgs false
set_option linter.unusedVariables false
namespace Go.Vex

/-- what append is handed behind the slice: n elements, whose cells are nvs -/
inductive News (P : Program) (w : World) (u2 : TypeDesc) (inf : TypeInfo) (elem : TypeId) (n : Nat) (nvs : List Value) : Value → Prop
  | zeros (k : IntKind) (k' : IntKind) (z : Value) (hu : u2 = .int k) (hz : inf.zero = some z) (hn : nvs = (if n * inf.size = 0 then #[] else Builtin.zeroCells z.cells n).toList) (hb : n * inf.bytes ≤ 281474976710656)
      (h63 : (n : Int) ≤ 9223372036854775807) : News P w u2 inf elem n nvs (.int k' (n : Int))
  | plain (x : Value) (hu : (∃ e, u2 = .slice e) ∨ u2 = .string) (hl : (Builtin.lenOf x).run P w = .ok n w) (hl' : (Builtin.lenOf x).run P w.drew = .ok n w.drew)
      (hf : (Builtin.firstCells inf.size n x).run P w = .ok nvs.toArray w) (hf' : (Builtin.firstCells inf.size n x).run P w.drew = .ok nvs.toArray w.drew) : News P w u2 inf elem n nvs x

theorem fin_app {w : World} {a : Array Value} {l : List Value} {e : TypeId} (h : a.toList = l) : w.drew.alloc (.cells a e) =
    { heap := w.heap.push (.cells l.toArray e), tape := w.tape, drawn := w.drawn + 1, os := w.drew.os, output := w.drew.output } := by
  subst h; rfl

section
variable {P : Program} {w : World} {t t2 elem : TypeId} {u2 : TypeDesc} {inf : TypeInfo} {ts : Array TypeId} {ty : TypeId}
  (ht : P.underlying t = some (.slice elem)) (ht2 : P.underlying t2 = some u2) (hi : P.info? elem = some inf) (h0 : ts[0]? = some t) (h1 : ts[1]? = some t2)
include ht ht2 hi h0 h1

theorem app_room {x : Value} {n sLen sCap : Nat} {nvs : List Value} {A : Addr} {w' : World} (hx : News P w u2 inf elem n nvs x) (hroom : sLen + n ≤ sCap)
    (hst : (storeCells (A.add (sLen * inf.size)) nvs).run P w = .ok () w') :
    (Builtin.append_ ts ty #[.slice (some A) sLen sCap, x]).run P w = .ok (.slice (some A) (sLen + n) sCap) w' := by
  cases hx with
  | zeros k k' z hu hz hn hb h63 =>
    subst hu
    have hw : IntKind.i64.wrap (n : Int) = n := IntWalk.i64_in _ (by omega)
    have hnn : ¬ ((n : Int) < 0) := by omega
    have hbb : ¬ (281474976710656 < (n : Int) * (inf.bytes : Int)) := by
      have : (n : Int) * (inf.bytes : Int) = ((n * inf.bytes : Nat) : Int) := by simp
      omega
    by_cases hns : n * inf.size = 0
    · rw [if_pos hns] at hn
      subst hn
      simp [Builtin.append_, run_underlying ht, run_underlying ht2, sizeOf, typeInfo, hi, h0, h1, asInt, asIntOf, hw, hnn, hbb, hroom, hns, storeCells]
      simp [storeCells] at hst
      exact hst
    · rw [if_neg hns] at hn
      subst hn
      simp [Builtin.append_, run_underlying ht, run_underlying ht2, sizeOf, typeInfo, zeroValue, hi, hz, h0, h1, asInt, asIntOf, hw, hnn, hbb, hroom, hns, hst]
  | plain x hu hl hl' hf hf' =>
    rcases hu with ⟨e, rfl⟩ | rfl
    · simp [Builtin.append_, run_underlying ht, run_underlying ht2, sizeOf, typeInfo, hi, h0, h1, hl, hroom, hf, hst]
    · simp [Builtin.append_, run_underlying ht, run_underlying ht2, sizeOf, typeInfo, hi, h0, h1, hl, hroom, hf, hst]

theorem app_fresh {x : Value} {n sLen sCap : Nat} {nvs ovs : List Value} {base : Option Addr} {z : Value} (hx : News P w u2 inf elem n nvs x) (hroom : sCap < sLen + n) (hz : inf.zero = some z)
    (hold : (Builtin.firstCells inf.size sLen (.slice base sLen sCap)).run P w.drew = .ok ovs.toArray w.drew) (hlen : sLen + n ≤ 2000000) (hbytes : inf.bytes ≤ 4096) (hpos : 0 < inf.bytes) :
    ∃ cap rest, (Builtin.append_ ts ty #[.slice base sLen sCap, x]).run P w =
      .ok (.slice (some ⟨w.heap.size, 0, none⟩) (sLen + n) cap) { w.drew with heap := w.heap.push (.cells (ovs ++ nvs ++ rest).toArray elem) } ∧ sLen + n ≤ cap ∧ rest.length = (cap - (sLen + n)) * z.cells.size := by
  have hg : ¬ sLen + n ≤ sCap := by omega
  have h48 : ¬ (281474976710656 < Builtin.nextslicecap (sLen + n) sCap * inf.bytes) := by
    have := growslice_fits (need := sLen + n) (old := sCap) (bytes := inf.bytes) hroom (by
      calc (sLen + n) * inf.bytes ≤ 2000000 * 4096 := Nat.mul_le_mul hlen hbytes
        _ ≤ 140737488355328 := by omega)
    omega
  have h63 : ¬ (9223372036854775807 < ((sLen : Int) + (n : Int))) := by omega
  refine ⟨grownCap w (sLen + n) sCap elem, (Builtin.zeroCells z.cells (grownCap w (sLen + n) sCap elem - (sLen + n))).toList, ?_, grownCap_ge _ _ _ _, by simp [size_zeroCells]⟩
  cases hx with
  | zeros k k' z' hu hz' hn hb h63' =>
    subst hu
    rw [hz] at hz'; cases hz'
    have hw : IntKind.i64.wrap (n : Int) = n := IntWalk.i64_in _ (by omega)
    have hnn : ¬ ((n : Int) < 0) := by omega
    have hbb : ¬ (281474976710656 < (n : Int) * (inf.bytes : Int)) := by
      have : (n : Int) * (inf.bytes : Int) = ((n * inf.bytes : Nat) : Int) := by simp
      omega
    by_cases hns : n * inf.size = 0
    · rw [if_pos hns] at hn
      subst hn
      simp [Builtin.append_, run_underlying ht, run_underlying ht2, sizeOf, typeInfo, zeroValue, hi, hz, h0, h1, asInt, asIntOf, hw, hnn, hbb, hg, h48, h63, hpos, hns, Question.forced, hold, newRow, grownCap]
      exact fin_app (by simp)
    · rw [if_neg hns] at hn
      subst hn
      simp [Builtin.append_, run_underlying ht, run_underlying ht2, sizeOf, typeInfo, zeroValue, hi, hz, h0, h1, asInt, asIntOf, hw, hnn, hbb, hg, h48, h63, hpos, hns, Question.forced, hold, newRow, grownCap]
      exact fin_app (by simp)
  | plain x hu hl hl' hf hf' =>
    rcases hu with ⟨e, rfl⟩ | rfl
    · simp [Builtin.append_, run_underlying ht, run_underlying ht2, sizeOf, typeInfo, zeroValue, hi, hz, h0, h1, hl, hg, h48, h63, hpos, Question.forced, hf', hold, newRow, grownCap]
      exact fin_app (by simp)
    · simp [Builtin.append_, run_underlying ht, run_underlying ht2, sizeOf, typeInfo, zeroValue, hi, hz, h0, h1, hl, hg, h48, h63, hpos, Question.forced, hf', hold, newRow, grownCap]
      exact fin_app (by simp)
end
end Go.Vex
