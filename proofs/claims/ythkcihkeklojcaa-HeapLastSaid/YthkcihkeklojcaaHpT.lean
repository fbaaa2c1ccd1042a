/- Reading the case of HeapLast. -/
import Derived.Test.YthkcihkeklojcaaHpR
set_option linter.unusedVariables false
set_option linter.unusedSimpArgs false
namespace Go.Proofs.Ythkcihkeklojcaa
open Go.RowKit Go.Kx Go.ChangeShapes Go.WideShapes
theorem cellsOfI : Try.prog.cellsOf 3 = 1 := by kernel_rfl
theorem cellsOf22 : Try.prog.cellsOf 22 = 1 := by kernel_rfl
theorem cellsOfLast : Try.prog.cellsOf 40 = 4 := by kernel_rfl
theorem intsF_of_trod {H : Type} {enc : TypeId × Value → H} {W : World} {m : Nat} {cs : List Value} {x : DataW H × List MemPlace} (h : DataW.trod enc Try.prog W 0 (fun _ => true) true m 22 cs = some x) :
    ∃ (A : Option Addr) (l : List Int) (cap : Nat), cs = [.slice A l.length cap] ∧ IntsAt W A l := by
  rcases Go.ChangeShapes.open_ints Try.underlying22 Try.underlying3 cellsOfI h with ⟨hcs, _⟩ | ⟨ad, len', cap', zs, hcs, _⟩
  · subst hcs
    obtain ⟨l, hl, h1⟩ := ints_of_trod (a := none) (len := 0) (cap := 0) ⟨m, h⟩
    exact ⟨none, l, 0, by rw [hl], h1⟩
  · subst hcs
    obtain ⟨l, rfl, h1⟩ := ints_of_trod ⟨m, h⟩
    exact ⟨_, l, _, rfl, h1⟩
set_option maxRecDepth 100000 in
theorem last_of_trod {H : Type} {enc : TypeId × Value → H} {W : World} {r : Reach} {base : Nat} {v : Value} {x : DataW H × List MemPlace} (hv : Value.okWide Try.prog W r base 40 v)
    (h : ∃ fuel, DataW.trod enc Try.prog W 0 (fun _ => true) true fuel 40 (Value.cells v).toList = some x) :
    ∃ (A : Option Addr) (ca : Nat) (cells size many : Int) (order : List Int), v = .agg #[.int .i64 cells, .int .i64 size, .int .i64 many, .slice A order.length ca] ∧ IntsAt W A order := by
  obtain ⟨⟨l⟩, rfl, hs⟩ := okWide_struct Try.underlying40 hv
  rw [cellsOfLast] at hs
  match l, hs with
  | [c0, c1, c2, c3], _ =>
  obtain ⟨fuel, hf⟩ := h
  obtain ⟨ys, m, _, _, _, hl, hfs⟩ := DataW.trod_struct Try.underlying40 hf
  match ys, hl with
  | [y0, y1, y2, y3], _ =>
  have h0 := hfs 0 _ rfl
  have h1 := hfs 1 _ rfl
  have h2 := hfs 2 _ rfl
  have h3 := hfs 3 _ rfl
  simp [cellsOf22, cellsOfI, Value.cells] at h0 h1 h2 h3
  obtain ⟨A, order, ca, e3, i0⟩ := intsF_of_trod h3
  obtain ⟨i, e0, _, _⟩ := DataW.trod_int Try.underlying3 h0
  obtain ⟨j, e1, _, _⟩ := DataW.trod_int Try.underlying3 h1
  obtain ⟨k, e2, _, _⟩ := DataW.trod_int Try.underlying3 h2
  simp at e0 e1 e2 e3
  subst e0 e1 e2 e3
  exact ⟨A, ca, i, j, k, order, rfl, i0⟩
end Go.Proofs.Ythkcihkeklojcaa
