import Derived.Test.YteibfhhbdpjpoaaOwn
import Derived.Deep.Quiet
/- Regions that draw their order, whose operations only read and whose callees read, draw and make memory: walked once, in the order of the text. -/
set_option linter.unusedVariables false
set_option linter.unusedSimpArgs false
namespace Go.Proofs.Yteibfhhbdpjpoaa
open Go.RowKit
/-- what a world has more than another one: blocks at the heap's end, and draws -/
structure Ext where
  os : Array Obj
  d : Nat
  deriving Inhabited
def ext (w : World) (p : Ext) : World := { w with heap := w.heap ++ p.os, drawn := p.d }
theorem fr_ext (w : World) (p : Ext) : Fr none_ w (ext w p) :=
  ⟨rfl, rfl, rfl, by simp [ext], fun k hk _ => by simp [ext, Array.getElem?_append_left hk]⟩
theorem ext_of_fr {w w' : World} (h : Fr none_ w w') : ∃ p, w' = ext w p := by
  refine ⟨⟨w'.heap.extract w.heap.size w'.heap.size, w'.drawn⟩, ?_⟩
  have hh : w'.heap = w.heap ++ w'.heap.extract w.heap.size w'.heap.size := by
    refine Array.ext_getElem? fun k => ?_
    by_cases hk : k < w.heap.size
    · rw [Array.getElem?_append_left hk]
      exact h.block k hk (fun e => e)
    · rw [Array.getElem?_append_right (by omega)]
      by_cases hk' : k < w'.heap.size
      · rw [Array.getElem?_eq_getElem hk', Array.getElem?_eq_getElem (by simp; omega)]
        simp [show w.heap.size + (k - w.heap.size) = k by omega]
      · rw [Array.getElem?_eq_none (by omega), Array.getElem?_eq_none (by simp; omega)]
  have h1 := h.os
  have h2 := h.tape
  have h3 := h.output
  cases w' with
  | mk hp tp dr os out =>
    simp only [ext, World.mk.injEq] at *
    exact ⟨hh, h2, trivial, h1, h3⟩
theorem ext_cell {w : World} {a : Addr} {v : Value} (h : w.cell? a = some v) (p : Ext) : (ext w p).cell? a = some v := (fr_ext w p).cell h (fun e => e)
theorem wp_region_ext {P : Program} {id : Nat} {Q : Exit → Act → World → Prop} {a : Act} {w : World} {l : List Oper} (hm : P.follows .mixedOrders = true) (hB : Region.lexB .any l.toArray = true)
    (h : wpQuiet P l.toArray (fun w' => ∃ p : Ext, w' = ext w p) (fun a' => ∀ w', (∃ p : Ext, w' = ext w p) → Q .normal a' w') l a) : (Code.region id l.toArray true).wp P Q a w :=
  wp_region_quiet (C := fun w' => ∃ p : Ext, w' = ext w p) hm hB ⟨⟨#[], w.drawn + 1⟩, by simp [ext]⟩ (by simpa using h)
theorem call_ext {P : Program} {f : FuncId} {args : Array Value} {w : World} {p : Ext} {v : Value}
    (h : Calls P f args (ext w p) fun e w' => e = .returned v ∧ Fr none_ (ext w p) w') : Calls P f args (ext w p) fun e w'' => e = .returned v ∧ ∃ p', w'' = ext w p' :=
  h.mono fun _ _ ⟨he, hf⟩ => ⟨he, ext_of_fr ((fr_ext w p).then hf)⟩
end Go.Proofs.Yteibfhhbdpjpoaa
