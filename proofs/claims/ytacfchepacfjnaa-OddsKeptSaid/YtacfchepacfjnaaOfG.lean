/- Reading the cases of OddsBoth and OddsKept. -/
import Derived.Test.YtacfchepacfjnaaOdW
import Derived.Test.YtacfchepacfjnaaOfE
set_option linter.unusedVariables false
set_option linter.unusedSimpArgs false
namespace Go.Proofs.Ytacfchepacfjnaa
open Go.RowKit Go.Kx Go.ChangeShapes Go.WideShapes
theorem cellsOf22 : Try.prog.cellsOf 22 = 1 := by kernel_rfl
theorem cellsOfBoth : Try.prog.cellsOf 61 = 4 := by kernel_rfl
theorem cellsOfKept : Try.prog.cellsOf 58 = 6 := by kernel_rfl
theorem intsF_of_trod {H : Type} {enc : TypeId × Value → H} {W : World} {m : Nat} {cs : List Value} {x : DataW H × List MemPlace} (h : DataW.trod enc Try.prog W 0 (fun _ => true) true m 22 cs = some x) :
    ∃ (A : Option Addr) (l : List Int) (cap : Nat), cs = [.slice A l.length cap] ∧ IntsAt W A l ∧ l.length ≤ cap ∧ cap ≤ maxLen := by
  rcases Go.ChangeShapes.open_ints Try.underlying22 Try.underlying3 cellsOf3 h with ⟨hcs, _⟩ | ⟨ad, len', cap', zs, hcs, _⟩
  · subst hcs
    obtain ⟨l, hl, h1, h2, h3⟩ := ints2_of_trod (a := none) (len := 0) (cap := 0) ⟨m, h⟩
    exact ⟨none, l, 0, by rw [hl], h1, by omega, h3⟩
  · subst hcs
    obtain ⟨l, rfl, h1, h2, h3⟩ := ints2_of_trod ⟨m, h⟩
    exact ⟨_, l, _, rfl, h1, h2, h3⟩
set_option maxRecDepth 100000 in
theorem both_of_trod {H : Type} {enc : TypeId × Value → H} {W : World} {r : Reach} {base : Nat} {v : Value} {x : DataW H × List MemPlace} (hv : Value.okWide Try.prog W r base 61 v)
    (h : ∃ fuel, DataW.trod enc Try.prog W 0 (fun _ => true) true fuel 61 (Value.cells v).toList = some x) :
    ∃ (A B : Option Addr) (ca cb : Nat) (raw nums : List Int) (i j : Int), v = .agg #[.slice A raw.length ca, .slice B nums.length cb, .int .i64 i, .int .i64 j] ∧ IntsAt W A raw ∧ IntsAt W B nums ∧ nums.length ≤ cb ∧ cb ≤ maxLen := by
  obtain ⟨⟨l⟩, rfl, hs⟩ := okWide_struct Try.underlying61 hv
  rw [cellsOfBoth] at hs
  match l, hs with
  | [c0, c1, c2, c3], _ =>
  obtain ⟨fuel, hf⟩ := h
  obtain ⟨ys, m, _, _, _, hl, hfs⟩ := DataW.trod_struct Try.underlying61 hf
  match ys, hl with
  | [y0, y1, y2, y3], _ =>
  have h0 := hfs 0 _ rfl
  have h1 := hfs 1 _ rfl
  have h2 := hfs 2 _ rfl
  have h3 := hfs 3 _ rfl
  simp [cellsOf22, cellsOf3, Value.cells] at h0 h1 h2 h3
  obtain ⟨A, raw, ca, e0, i0, _, _⟩ := intsF_of_trod h0
  obtain ⟨B, nums, cb, e1, i1, b1, b2⟩ := intsF_of_trod h1
  obtain ⟨i, e2, _, _⟩ := DataW.trod_int Try.underlying3 h2
  obtain ⟨j, e3, _, _⟩ := DataW.trod_int Try.underlying3 h3
  simp at e0 e1 e2 e3
  subst e0 e1 e2 e3
  exact ⟨A, B, ca, cb, raw, nums, i, j, rfl, i0, i1, b1, b2⟩
set_option maxRecDepth 100000 in
theorem kept_of_trod {H : Type} {enc : TypeId × Value → H} {W : World} {r : Reach} {base : Nat} {v : Value} {x : DataW H × List MemPlace} (hv : Value.okWide Try.prog W r base 58 v)
    (h : ∃ fuel, DataW.trod enc Try.prog W 0 (fun _ => true) true fuel 58 (Value.cells v).toList = some x) :
    ∃ (A : Option Addr) (ca : Nat) (raw : List Int) (i s j u c : Int), v = .agg #[.slice A raw.length ca, .int .i64 i, .int .i64 s, .int .i64 j, .int .i64 u, .int .i64 c] ∧ IntsAt W A raw := by
  obtain ⟨⟨l⟩, rfl, hs⟩ := okWide_struct Try.underlying58 hv
  rw [cellsOfKept] at hs
  match l, hs with
  | [c0, c1, c2, c3, c4, c5], _ =>
  obtain ⟨fuel, hf⟩ := h
  obtain ⟨ys, m, _, _, _, hl, hfs⟩ := DataW.trod_struct Try.underlying58 hf
  match ys, hl with
  | [y0, y1, y2, y3, y4, y5], _ =>
  have h0 := hfs 0 _ rfl
  have h1 := hfs 1 _ rfl
  have h2 := hfs 2 _ rfl
  have h3 := hfs 3 _ rfl
  have h4 := hfs 4 _ rfl
  have h5 := hfs 5 _ rfl
  simp [cellsOf22, cellsOf3, Value.cells] at h0 h1 h2 h3 h4 h5
  obtain ⟨A, raw, ca, e0, i0, _, _⟩ := intsF_of_trod h0
  obtain ⟨i, e1, _, _⟩ := DataW.trod_int Try.underlying3 h1
  obtain ⟨s, e2, _, _⟩ := DataW.trod_int Try.underlying3 h2
  obtain ⟨j, e3, _, _⟩ := DataW.trod_int Try.underlying3 h3
  obtain ⟨u, e4, _, _⟩ := DataW.trod_int Try.underlying3 h4
  obtain ⟨c, e5, _, _⟩ := DataW.trod_int Try.underlying3 h5
  simp at e0 e1 e2 e3 e4 e5
  subst e0 e1 e2 e3 e4 e5
  exact ⟨A, ca, raw, i, s, j, u, c, rfl, i0⟩
end Go.Proofs.Ytacfchepacfjnaa
