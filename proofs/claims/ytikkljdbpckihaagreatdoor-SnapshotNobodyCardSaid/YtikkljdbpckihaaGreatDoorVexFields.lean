/- Part VexFields of a checked interpreter for closed calls: what it answers, the machine of the model answers; its conditions are those of its theorems. -/
import Derived.Test.YtikkljdbpckihaaGreatDoorVexEnv
import Derived.Shelf.Strings.Fields
set_option linter.unusedSimpArgs false
set_option linter.unusedVariables false
namespace Go.Vex
open Go.Proofs Go.Shelf

theorem cell_same {w w0 : World} {b c : Nat} (h : w.heap[b]? = w0.heap[b]?) : w.cell? ⟨b, c, none⟩ = w0.cell? ⟨b, c, none⟩ := by
  simp only [World.cell?, h]

theorem fieldsOk {P : Program} {ρ : Ren} (L : Lays.n157 P ρ) (hi9 : (P.info? (ρ.t 9)).map (fun i => (i.zero, i.size, i.bytes)) = some (some (.string ByteArray.empty), 1, 16))
    {w0 : World} {o0 : Obj} (ho : w0.heap[ρ.g 0]? = some o0) (hT : ∀ c : Nat, c < 256 → w0.cell? ⟨ρ.g 0, c, none⟩ = some (.int .u8 (if Lib.isSp (UInt8.ofNat c) then 1 else 0)))
    {Γ : Env} (hf : Γ.fields = ρ.f 157) {fnc : Func} {code : Code} (h1 : P.funcs[Γ.fields]? = some fnc) (h2 : fnc.body = some code) (h3 : (fnc.name == "runtime.NumGoroutine") = false) :
    FieldsOk P Γ (ρ.g 0, o0) := by
  refine ⟨fun args w => enter_ok h1 h2 h3 args w, ρ.t 9, fun s w hs ha hz => ?_⟩
  rw [hf]
  refine Any.strings_Fields_core L hi9 s w hs (fun j b hb => ha b (List.mem_of_getElem? hb)) fun c hc => ?_
  rw [cell_same (w0 := w0) (by rw [hz, ho])]
  exact hT c hc
end Go.Vex
