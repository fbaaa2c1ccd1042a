/- Reading a deed. -/
import Derived.Test.YtcgcljmnnjalpaaGreatGdI
import Derived.ProofKit
import Derived.OpenShut
import Derived.ChangeOld
import Derived.ChangeSlices
set_option linter.unusedVariables false
set_option linter.unusedSimpArgs false
namespace Go.Proofs.YtcgcljmnnjalpaaGreat
open Go.RowKit Go.Kx Go.ChangeShapes Go.WideShapes
theorem cellsOfI : Tryz.prog.cellsOf 3 = 1 := by kernel_rfl
theorem cellsOfDeed : Tryz.prog.cellsOf 32 = 4 := by kernel_rfl
set_option maxRecDepth 100000 in
theorem deed_of_trod {H : Type} {enc : TypeId × Value → H} {W : World} {r : Reach} {base : Nat} {v : Value} {x : DataW H × List MemPlace} (hv : Value.okWide Tryz.prog W r base 32 v)
    (h : ∃ fuel, DataW.trod enc Tryz.prog W 0 (fun _ => true) true fuel 32 (Value.cells v).toList = some x) :
    ∃ a b c d : Int, v = .agg #[.int .i64 a, .int .i64 b, .int .i64 c, .int .i64 d] ∧ True := by
  obtain ⟨⟨l⟩, rfl, hs⟩ := okWide_struct Tryz.underlying32 hv
  rw [cellsOfDeed] at hs
  match l, hs with
  | [c0, c1, c2, c3], _ =>
  obtain ⟨fuel, hf⟩ := h
  obtain ⟨ys, m, _, _, _, hl, hfs⟩ := DataW.trod_struct Tryz.underlying32 hf
  match ys, hl with
  | [y0, y1, y2, y3], _ =>
  have h0 := hfs 0 _ rfl
  have h1 := hfs 1 _ rfl
  have h2 := hfs 2 _ rfl
  have h3 := hfs 3 _ rfl
  simp [cellsOfI, Value.cells] at h0 h1 h2 h3
  obtain ⟨i, e0, _, _⟩ := DataW.trod_int Tryz.underlying3 h0
  obtain ⟨j, e1, _, _⟩ := DataW.trod_int Tryz.underlying3 h1
  obtain ⟨k, e2, _, _⟩ := DataW.trod_int Tryz.underlying3 h2
  obtain ⟨u, e3, _, _⟩ := DataW.trod_int Tryz.underlying3 h3
  simp at e0 e1 e2 e3
  subst e0 e1 e2 e3
  exact ⟨i, j, k, u, rfl, trivial⟩
end Go.Proofs.YtcgcljmnnjalpaaGreat
