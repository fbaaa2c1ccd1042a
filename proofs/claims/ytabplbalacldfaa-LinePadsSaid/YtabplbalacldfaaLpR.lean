/- A slice of ints that reads as data lies in memory as a list of ints. -/
import Derived.Test.YtabplbalacldfaaLpA
import Derived.ProofKit
import Derived.OpenShut
import Derived.ChangeOld
import Derived.ChangeSlices
set_option linter.unusedVariables false
set_option linter.unusedSimpArgs false
namespace Go.Proofs.Ytabplbalacldfaa
open Go.RowKit Go.Kx Go.ChangeShapes Go.WideShapes
theorem ints_of_trod {H : Type} {enc : TypeId × Value → H} {W : World} {a : Option Addr} {len cap : Nat} {x : DataW H × List MemPlace} (h : ∃ fuel, DataW.trod enc Try.prog W 0 (fun _ => true) true fuel 44 (Value.cells (.slice a len cap)).toList = some x) :
    ∃ l : List Int, l.length = len ∧ IntsAt W a l := by
  obtain ⟨fuel, hf⟩ := h
  rcases Go.ChangeShapes.open_ints Try.underlying44 Try.underlying3 cellsOf3 hf with ⟨hcs, _⟩ | ⟨ad, len', cap', zs, hcs, _, hl, _, hz, _, hcell, _⟩
  · simp [Value.cells] at hcs
    obtain ⟨rfl, rfl, rfl⟩ := hcs
    exact ⟨[], rfl, .inl rfl⟩
  · simp [Value.cells] at hcs
    obtain ⟨rfl, rfl, rfl⟩ := hcs
    simp only [if_true] at hz
    refine ⟨zs.take len, by rw [List.length_take]; omega, ?_⟩
    by_cases h00 : len = 0
    · subst h00; exact .inl (by simp)
    obtain ⟨b, off, spot⟩ := ad
    have hs : spot = none := by
      have := hcell 0 (by omega)
      have e : (⟨b, off, spot⟩ : Addr).add 0 = ⟨b, off, spot⟩ := by simp [Addr.add]
      rw [e] at this
      exact World.cell?_spot this
    subst hs
    refine .inr ⟨b, off, rfl, fun j x hx => ?_⟩
    have hj : j < len := by have := (List.getElem?_eq_some_iff.1 hx).1; rw [List.length_take] at this; omega
    have := hcell j (by omega)
    rw [Addr.add_lit] at this
    rw [this]
    rw [List.getElem?_take, if_pos hj] at hx
    simp [List.getD, hx]
end Go.Proofs.Ytabplbalacldfaa
