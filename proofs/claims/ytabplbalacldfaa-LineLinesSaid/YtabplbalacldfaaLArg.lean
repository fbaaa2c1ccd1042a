/- A slice of accesses that reads as data lies in memory as a list of accesses. -/
import Derived.Test.YtabplbalacldfaaLOwn
import Derived.Deep.Slices
import Derived.ProofKit
import Derived.OpenShut
import Derived.ChangeOld
set_option linter.unusedVariables false
set_option linter.unusedSimpArgs false
namespace Go.Proofs.Ytabplbalacldfaa
open Go.RowKit Go.Kx Go.ChangeShapes Go.WideShapes
theorem cellsOf24 : Try.prog.cellsOf 24 = 3 := by kernel_rfl
theorem cellsOf3 : Try.prog.cellsOf 3 = 1 := by kernel_rfl
theorem acc_of_trod {H : Type} {enc : TypeId × Value → H} {W : World} {a : Option Addr} {len cap : Nat} {x : DataW H × List MemPlace} (h : ∃ fuel, DataW.trod enc Try.prog W 0 (fun _ => true) true fuel 22 (Value.cells (.slice a len cap)).toList = some x) :
    ∃ l : List A3, l.length = len ∧ Arg W a l cap := by
  obtain ⟨fuel, hf⟩ := h
  rcases Go.Deep.open_slice Try.underlying22 hf with ⟨hcs, _⟩ | ⟨ad, len', cap', m, n, D, Pl, hcs, _, hl, hm, hmm, _, hx⟩
  · simp [Value.cells] at hcs
    obtain ⟨rfl, rfl, rfl⟩ := hcs
    exact ⟨[], rfl, .inl rfl, fun _ => ⟨rfl, rfl⟩⟩
  · simp [Value.cells] at hcs
    obtain ⟨rfl, rfl, rfl⟩ := hcs
    simp only [if_true] at hmm
    subst hmm
    rw [cellsOf24] at hx
    by_cases h00 : len = 0
    · subst h00; exact ⟨[], rfl, .inl rfl, fun e => by cases e⟩
    obtain ⟨b, off, spot⟩ := ad
    have hs : spot = none := by
      obtain ⟨cs', h1, _⟩ := hx 0 (by omega)
      obtain ⟨_, h3, h4⟩ := World.cells?_some h1
      have e : ((⟨b, off, spot⟩ : Addr).add (0 * 3)).add 0 = ⟨b, off, spot⟩ := by simp [Addr.add]
      have := h4 0 (by omega)
      rw [e, List.getElem?_eq_getElem (by omega)] at this
      exact World.cell?_spot this
    subst hs
    have key : ∀ i, i < len → ∃ x : A3, W.cell? ⟨b, off + i * 3, none⟩ = some (.int .i64 x.1) ∧ W.cell? ⟨b, off + i * 3 + 1, none⟩ = some (.int .i64 x.2.1) ∧ W.cell? ⟨b, off + i * 3 + 2, none⟩ = some (.int .i64 x.2.2) := by
      intro i hi
      obtain ⟨cs', h1, h2⟩ := hx i (by omega)
      obtain ⟨_, h3, h4⟩ := World.cells?_some h1
      match cs', h3 with
      | [c0, c1, c2], _ =>
        obtain ⟨y0, y1, y2, n', _, e0, e1, e2⟩ := Go.ChangeShapes.trod_array3 Try.underlying24 cellsOf3 h2
        obtain ⟨z0, e0', _, _⟩ := DataW.trod_int Try.underlying3 e0
        obtain ⟨z1, e1', _, _⟩ := DataW.trod_int Try.underlying3 e1
        obtain ⟨z2, e2', _, _⟩ := DataW.trod_int Try.underlying3 e2
        simp at e0' e1' e2'
        subst e0' e1' e2'
        have q0 := h4 0 (by omega)
        have q1 := h4 1 (by omega)
        have q2 := h4 2 (by omega)
        simp only [Addr.add_lit] at q0 q1 q2
        exact ⟨(z0, z1, z2), by simpa using q0, by simpa using q1, by simpa using q2⟩
    obtain ⟨f, hf⟩ := Go.Deep.choose_lt (α := A3) key
    refine ⟨(List.range len).map f, by simp, .inr ⟨b, off, rfl, fun i x hx => ?_⟩, fun e => by cases e⟩
    have hi : i < len := by have := (List.getElem?_eq_some_iff.1 hx).1; simpa using this
    have : x = f i := by simp [hi] at hx; exact hx.symm
    rw [this]
    exact hf i hi
end Go.Proofs.Ytabplbalacldfaa
