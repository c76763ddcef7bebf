/- Part VexMt of a checked interpreter for closed calls: what it answers, the machine of the model answers; its conditions are those of its theorems. -/
import Derived.Test.YtikkljdbpckihaaGreatDoorVexStart
set_option linter.unusedSimpArgs false
set_option linter.unusedVariables false
namespace Go.Vex

/-- what a row of the method table says, of the program itself -/
def mtRow (P : Program) (r : TypeId × String × FuncId) : Bool :=
  match P.types[r.1]? with
  | none => false
  | some inf => match inf.methods.find? (·.name == r.2.1) with
    | none => false
    | some m => m.path.isEmpty && (match m.func, undOf P inf with | some (f, b), some u => f.beq r.2.2 && (match u with | .pointer _ => b | _ => !b) | _, _ => false)

theorem mt_ok {P : Program} {l : List (TypeId × String × FuncId)} (h : ∀ r ∈ l, mtRow P r = true) (t : TypeId) (name : String) (f : FuncId) (e : lookM t name l = .ok f) (v : Value) (w : World) :
    (method (P.types.size + Made.depth) t v name).run P w = .ok (f, v) w := by
  induction l with
  | nil => simp [lookM] at e
  | cons r l ih =>
    obtain ⟨t', n, f'⟩ := r
    simp only [lookM] at e
    have rest := ih fun r hr => h r (List.mem_cons_of_mem _ hr)
    split at e
    · rename_i ht
      split at e
      · rename_i hn
        simp at e; subst e
        have ht' : t = t' := by simpa using ht
        have hn' : n = name := by simpa using hn
        subst ht' hn'
        have hr := h _ (by simp : (t, n, f') ∈ (t, n, f') :: l)
        unfold mtRow at hr
        dsimp only at hr
        split at hr
        · simp at hr
        · rename_i inf hi
          split at hr
          · simp at hr
          · rename_i m hm
            simp only [Bool.and_eq_true] at hr
            obtain ⟨hp, hf⟩ := hr
            split at hf
            · rename_i g b u hg hu
              simp only [Bool.and_eq_true] at hf
              obtain ⟨hgf, hb⟩ := hf
              have hgf : g = f' := by simpa using hgf
              subst hgf
              have hpath : m.path.toList = [] := by simpa using hp
              have hti : (typeInfo t).run P w = .ok inf w := (tiOf_ok hi hu).run_ti w
              have hun : (underlying t).run P w = .ok u w := (tiOf_ok hi hu).run_und w
              have hget : (Place.get t (.val v)).run P w = .ok v w := rfl
              have hrec : ∀ wr, (receiverAt t (.val v) b wr).run P w = .ok v w := by
                intro wr
                unfold receiverAt
                simp only [Sem.run_bind, hun, Result.andThen_ok]
                cases u <;> simp at hb <;> subst hb <;> exact hget
              show (method ((P.types.size + 99) + 1) t v n).run P w = _
              generalize P.types.size + 99 = q
              simp only [method, Sem.run_bind, hti, Result.andThen_ok, hm, hpath, follow, Sem.run_pure, hg, hrec]
            · simp at hf
      · exact rest e
    · exact rest e
theorem nm_ok {P : Program} (h : P.funcs.toList.all (fun fn => !(fn.name == "runtime.NumGoroutine")) = true) (f : Nat) (fn : Func) (e : P.funcs[f]? = some fn) : (fn.name == "runtime.NumGoroutine") = false := by
  have hm : fn ∈ P.funcs.toList := List.mem_of_getElem? (i := f) (by simpa using e)
  have := List.all_eq_true.1 h fn hm
  simpa using this
end Go.Vex
