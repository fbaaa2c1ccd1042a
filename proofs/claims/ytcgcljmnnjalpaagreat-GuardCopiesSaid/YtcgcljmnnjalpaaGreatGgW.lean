/- A slice of deeds that reads as data lies in memory as a list of deeds. -/
import Derived.Test.YtcgcljmnnjalpaaGreatGxK
import Derived.Deep.Slices
import Derived.ProofKit
import Derived.OpenShut
import Derived.ChangeOld
import Derived.ChangeSlices
set_option linter.unusedVariables false
set_option linter.unusedSimpArgs false
namespace Go.Proofs.YtcgcljmnnjalpaaGreat
open Go.RowKit Go.Kx Go.ChangeShapes Go.WideShapes
instance : Inhabited Dd := ⟨⟨0, 0, 0, 0⟩⟩
theorem cellsOfI : Tryz.prog.cellsOf 3 = 1 := by kernel_rfl
theorem cellsOfDeed : Tryz.prog.cellsOf 32 = 4 := by kernel_rfl
set_option maxRecDepth 100000 in
theorem deeds_of_trod {H : Type} {enc : TypeId × Value → H} {W : World} {a : Option Addr} {len cap : Nat} {x : DataW H × List MemPlace} (h : ∃ fuel, DataW.trod enc Tryz.prog W 0 (fun _ => true) true fuel 22 (Value.cells (.slice a len cap)).toList = some x) :
    ∃ l : List Dd, l.length = len ∧ DdAt W a l := by
  obtain ⟨fuel, hf⟩ := h
  rcases Go.Deep.open_slice Tryz.underlying22 hf with ⟨hcs, _⟩ | ⟨ad, len', cap', m, n, D, Pl, hcs, _, hl, hm, hmm, _, hx⟩
  · simp [Value.cells] at hcs
    obtain ⟨rfl, rfl, rfl⟩ := hcs
    exact ⟨[], rfl, .inl rfl⟩
  · simp [Value.cells] at hcs
    obtain ⟨rfl, rfl, rfl⟩ := hcs
    simp only [if_true] at hmm
    subst hmm
    rw [cellsOfDeed] at hx
    by_cases h00 : len = 0
    · subst h00; exact ⟨[], rfl, .inl rfl⟩
    obtain ⟨b, off, spot⟩ := ad
    have hs : spot = none := by
      obtain ⟨cs', h1, _⟩ := hx 0 (by omega)
      obtain ⟨_, h3, h4⟩ := World.cells?_some h1
      have e : ((⟨b, off, spot⟩ : Addr).add (0 * 4)).add 0 = ⟨b, off, spot⟩ := by simp [Addr.add]
      have := h4 0 (by omega)
      rw [e, List.getElem?_eq_getElem (by omega)] at this
      exact World.cell?_spot this
    subst hs
    have key : ∀ i, i < len → ∃ x : Dd, W.cell? ⟨b, off + i * 4, none⟩ = some (.int .i64 x.do_) ∧ W.cell? ⟨b, off + i * 4 + 1, none⟩ = some (.int .i64 x.th) ∧ W.cell? ⟨b, off + i * 4 + 2, none⟩ = some (.int .i64 x.ho) ∧ W.cell? ⟨b, off + i * 4 + 3, none⟩ = some (.int .i64 x.ad) := by
      intro i hi
      obtain ⟨cs', h1, h2⟩ := hx i (by omega)
      obtain ⟨_, h3, h4⟩ := World.cells?_some h1
      match cs', h3 with
      | [c0, c1, c2, c3], _ =>
        obtain ⟨ys, m, _, _, _, hl, hfs⟩ := DataW.trod_struct Tryz.underlying32 h2
        match ys, hl with
        | [y0, y1, y2, y3], _ =>
        have f0 := hfs 0 _ rfl
        have f1 := hfs 1 _ rfl
        have f2 := hfs 2 _ rfl
        have f3 := hfs 3 _ rfl
        simp [cellsOfI, Value.cells] at f0 f1 f2 f3
        obtain ⟨z0, e0', _, _⟩ := DataW.trod_int Tryz.underlying3 f0
        obtain ⟨z1, e1', _, _⟩ := DataW.trod_int Tryz.underlying3 f1
        obtain ⟨z2, e2', _, _⟩ := DataW.trod_int Tryz.underlying3 f2
        obtain ⟨z3, e3', _, _⟩ := DataW.trod_int Tryz.underlying3 f3
        simp at e0' e1' e2' e3'
        subst e0' e1' e2' e3'
        have q0 := h4 0 (by omega)
        have q1 := h4 1 (by omega)
        have q2 := h4 2 (by omega)
        have q3 := h4 3 (by omega)
        simp only [Addr.add_lit] at q0 q1 q2 q3
        exact ⟨⟨z0, z1, z2, z3⟩, by simpa using q0, by simpa using q1, by simpa using q2, by simpa using q3⟩
    obtain ⟨f, hf⟩ := Go.Deep.choose_lt (α := Dd) key
    refine ⟨(List.range len).map f, by simp, .inr ⟨b, off, rfl, fun i x hx => ?_⟩⟩
    have hi : i < len := by have := (List.getElem?_eq_some_iff.1 hx).1; simpa using this
    have : x = f i := by simp [hi] at hx; exact hx.symm
    rw [this]
    exact hf i hi
end Go.Proofs.YtcgcljmnnjalpaaGreat
