/- Opening the cases of GuardKeeps and GuardCopies. -/
import Derived.Test.YtcgcljmnnjalpaaGreatGgW
set_option linter.unusedVariables false
set_option linter.unusedSimpArgs false
namespace Go.Proofs.YtcgcljmnnjalpaaGreat
open Go.RowKit Go.Kx Go.ChangeShapes Go.WideShapes
theorem cellsOfDeeds : Tryz.prog.cellsOf 22 = 1 := by kernel_rfl
theorem cellsOfKeeps : Tryz.prog.cellsOf 47 = 7 := by kernel_rfl
theorem cellsOfCopies : Tryz.prog.cellsOf 73 = 4 := by kernel_rfl
theorem deedsF_of_trod {H : Type} {enc : TypeId × Value → H} {W : World} {m : Nat} {c : Value} {x : DataW H × List MemPlace} (h : DataW.trod enc Tryz.prog W 0 (fun _ => true) true m 22 [c] = some x) :
    ∃ (a : Option Addr) (l : List Dd) (cap : Nat), c = .slice a l.length cap ∧ DdAt W a l := by
  have hc : ∃ a len cap, c = .slice a len cap := by
    rcases Go.Deep.open_slice Tryz.underlying22 h with ⟨hcs, _⟩ | ⟨ad, len', cap', m, n, D, Pl, hcs, _⟩
    · simp at hcs; exact ⟨_, _, _, hcs⟩
    · simp at hcs; exact ⟨_, _, _, hcs⟩
  obtain ⟨a, len, cap, rfl⟩ := hc
  obtain ⟨l, rfl, h1⟩ := deeds_of_trod ⟨m, h⟩
  exact ⟨a, l, cap, rfl, h1⟩
set_option maxRecDepth 100000 in
theorem keeps_of_trod {H : Type} {enc : TypeId × Value → H} {W : World} {r : Reach} {base : Nat} {v : Value} {x : DataW H × List MemPlace} (hv : Value.okWide Tryz.prog W r base 47 v)
    (h : ∃ fuel, DataW.trod enc Tryz.prog W 0 (fun _ => true) true fuel 47 (Value.cells v).toList = some x) :
    ∃ (A B : Option Addr) (ca cb : Nat) (l m : List Dd) (k t th ho ad : Int), v = .agg #[.int .i64 k, .int .i64 t, .slice A l.length ca, .int .i64 th, .int .i64 ho, .int .i64 ad, .slice B m.length cb] ∧ DdAt W A l ∧ DdAt W B m := by
  obtain ⟨⟨l⟩, rfl, hs⟩ := okWide_struct Tryz.underlying47 hv
  rw [cellsOfKeeps] at hs
  match l, hs with
  | [c0, c1, c2, c3, c4, c5, c6], _ =>
  obtain ⟨fuel, hf⟩ := h
  obtain ⟨ys, m, _, _, _, hl, hfs⟩ := DataW.trod_struct Tryz.underlying47 hf
  match ys, hl with
  | [y0, y1, y2, y3, y4, y5, y6], _ =>
  have h0 := hfs 0 _ rfl
  have h1 := hfs 1 _ rfl
  have h2 := hfs 2 _ rfl
  have h3 := hfs 3 _ rfl
  have h4 := hfs 4 _ rfl
  have h5 := hfs 5 _ rfl
  have h6 := hfs 6 _ rfl
  simp [cellsOfDeeds, cellsOfI, Value.cells] at h0 h1 h2 h3 h4 h5 h6
  obtain ⟨k, e0, _, _⟩ := DataW.trod_int Tryz.underlying3 h0
  obtain ⟨t, e1, _, _⟩ := DataW.trod_int Tryz.underlying3 h1
  obtain ⟨A, la, ca, e2, i2⟩ := deedsF_of_trod h2
  obtain ⟨th, e3, _, _⟩ := DataW.trod_int Tryz.underlying3 h3
  obtain ⟨ho, e4, _, _⟩ := DataW.trod_int Tryz.underlying3 h4
  obtain ⟨ad, e5, _, _⟩ := DataW.trod_int Tryz.underlying3 h5
  obtain ⟨B, lb, cb, e6, i6⟩ := deedsF_of_trod h6
  simp at e0 e1 e2 e3 e4 e5 e6
  subst e0 e1 e2 e3 e4 e5 e6
  exact ⟨A, B, ca, cb, la, lb, k, t, th, ho, ad, rfl, i2, i6⟩
set_option maxRecDepth 100000 in
theorem copies_of_trod {H : Type} {enc : TypeId × Value → H} {W : World} {r : Reach} {base : Nat} {v : Value} {x : DataW H × List MemPlace} (hv : Value.okWide Tryz.prog W r base 73 v)
    (h : ∃ fuel, DataW.trod enc Tryz.prog W 0 (fun _ => true) true fuel 73 (Value.cells v).toList = some x) :
    ∃ (A B : Option Addr) (ca cb : Nat) (l m : List Dd) (k t : Int), v = .agg #[.int .i64 k, .int .i64 t, .slice A l.length ca, .slice B m.length cb] ∧ DdAt W A l ∧ DdAt W B m := by
  obtain ⟨⟨l⟩, rfl, hs⟩ := okWide_struct Tryz.underlying73 hv
  rw [cellsOfCopies] at hs
  match l, hs with
  | [c0, c1, c2, c3], _ =>
  obtain ⟨fuel, hf⟩ := h
  obtain ⟨ys, m, _, _, _, hl, hfs⟩ := DataW.trod_struct Tryz.underlying73 hf
  match ys, hl with
  | [y0, y1, y2, y3], _ =>
  have h0 := hfs 0 _ rfl
  have h1 := hfs 1 _ rfl
  have h2 := hfs 2 _ rfl
  have h3 := hfs 3 _ rfl
  simp [cellsOfDeeds, cellsOfI, Value.cells] at h0 h1 h2 h3
  obtain ⟨k, e0, _, _⟩ := DataW.trod_int Tryz.underlying3 h0
  obtain ⟨t, e1, _, _⟩ := DataW.trod_int Tryz.underlying3 h1
  obtain ⟨A, la, ca, e2, i2⟩ := deedsF_of_trod h2
  obtain ⟨B, lb, cb, e3, i3⟩ := deedsF_of_trod h3
  simp at e0 e1 e2 e3
  subst e0 e1 e2 e3
  exact ⟨A, B, ca, cb, la, lb, k, t, rfl, i2, i3⟩
end Go.Proofs.YtcgcljmnnjalpaaGreat
