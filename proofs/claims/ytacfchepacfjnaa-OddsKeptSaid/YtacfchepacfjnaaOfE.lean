/- Reading an argument that is an array of four ints. -/
import Derived.Test.YtacfchepacfjnaaOdR
import Derived.Laws.IdiomArrays
set_option linter.unusedVariables false
set_option linter.unusedSimpArgs false
namespace Go.Proofs.Ytacfchepacfjnaa
open Go.RowKit Go.Kx Go.ChangeShapes Go.WideShapes
theorem cellsOf35 : Try.prog.cellsOf 35 = 4 := by kernel_rfl
set_option maxRecDepth 100000 in
theorem okWide_arr4 {W : World} {r : Reach} {base : Nat} {v : Value} (h : Value.okWide Try.prog W r base 35 v) : ∃ c0 c1 c2 c3, v = .agg #[c0, c1, c2, c3] := by
  obtain ⟨cs, rfl, hsz, _⟩ : ∃ cs, v = .agg cs ∧ cs.size = Try.prog.cellsOf 35 ∧ Row.okWide Try.prog W r base 35 cs := by
    unfold Value.okWide at h
    rw [Try.underlying35] at h
    exact h
  rw [cellsOf35] at hsz
  obtain ⟨l⟩ := cs
  match l, hsz with
  | [a, b, c, d], _ => exact ⟨a, b, c, d, rfl⟩
set_option maxRecDepth 100000 in
theorem ints4_of_trod {H : Type} {enc : TypeId × Value → H} {W : World} {c0 c1 c2 c3 : Value} {x : DataW H × List MemPlace} (h : ∃ fuel, DataW.trod enc Try.prog W 0 (fun _ => true) true fuel 35 (Value.cells (.agg #[c0, c1, c2, c3])).toList = some x) :
    ∃ i s j u : Int, c0 = .int .i64 i ∧ c1 = .int .i64 s ∧ c2 = .int .i64 j ∧ c3 = .int .i64 u := by
  obtain ⟨fuel, hf⟩ := h
  obtain ⟨y0, y1, y2, y3, m, hx, hy0, hy1, hy2, hy3⟩ := trod_array4 Try.underlying35 cellsOf3 hf
  obtain ⟨x0, e0, rfl, w0⟩ := DataW.trod_int Try.underlying3 hy0
  obtain ⟨x1, e1, rfl, w1⟩ := DataW.trod_int Try.underlying3 hy1
  obtain ⟨x2, e2, rfl, w2⟩ := DataW.trod_int Try.underlying3 hy2
  obtain ⟨x3, e3, rfl, w3⟩ := DataW.trod_int Try.underlying3 hy3
  simp at e0 e1 e2 e3
  exact ⟨x0, x1, x2, x3, e0, e1, e2, e3⟩
end Go.Proofs.Ytacfchepacfjnaa
