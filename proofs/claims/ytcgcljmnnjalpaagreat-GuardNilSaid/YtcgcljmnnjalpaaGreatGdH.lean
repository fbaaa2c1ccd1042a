/- A guard that is nil, or was not made: what its methods answer. -/
import Derived.Test.YtcgcljmnnjalpaaGreatGdG
set_option linter.unusedVariables false
set_option linter.unusedSimpArgs false
namespace Go.Proofs.YtcgcljmnnjalpaaGreat
open Go.RowKit Go.Kx
open Go.ChangeMaps (setBlock)
/-- A pointer at which there is no guard that New made. -/
def NoG (w : World) (v : Value) : Prop := Calls Tryz.prog 79 #[v] w fun e w' => e = .returned (.bool false) ∧ w = w'
theorem noG_nil (w : World) : NoG w (.pointer none) := by
  refine cph fun R HR => ?_
  go_enter Tryz.func79, Tryz.ntmps79
  go_wp2_with fail
  exact HR.out _ _ ⟨rfl, rfl⟩
theorem noG_zero {w : World} {G : Nat} (h : w.cell? ⟨G, 1, none⟩ = some .nilIface) : NoG w (.pointer (some ⟨G, 0, none⟩)) := by
  refine cph fun R HR => ?_
  go_enter Tryz.func79, Tryz.ntmps79
  go_wp2_with fail
  exact HR.out _ _ ⟨rfl, rfl⟩
theorem noIn {w : World} {P : Option Addr} (h : NoG w (.pointer P)) (x : Int) : Calls Tryz.prog 23 #[.pointer P, .int .i64 x] w fun e w' => e = .returned (.tuple #[.slice none 0 0, .int .i64 1]) ∧ w = w' := by
  refine cph fun R HR => ?_
  have H := Lib.hid h
  unfold NoG at H
  clear h
  go_enter Tryz.func23, Tryz.ntmps23
  go_wp2_with (go_at_call 79; refine H.out.mono ?_; rintro e w' ⟨rfl, rfl⟩)
  exact HR.out _ _ ⟨rfl, rfl⟩
theorem noOut {w : World} {P : Option Addr} (h : NoG w (.pointer P)) (x : Int) : Calls Tryz.prog 26 #[.pointer P, .int .i64 x] w fun e w' => e = .returned (.tuple #[.slice none 0 0, .int .i64 1]) ∧ w = w' := by
  refine cph fun R HR => ?_
  have H := Lib.hid h
  unfold NoG at H
  clear h
  go_enter Tryz.func26, Tryz.ntmps26
  go_wp2_with (go_at_call 79; refine H.out.mono ?_; rintro e w' ⟨rfl, rfl⟩)
  exact HR.out _ _ ⟨rfl, rfl⟩
theorem noHold {w : World} {P : Option Addr} (h : NoG w (.pointer P)) (x y z : Int) : Calls Tryz.prog 25 #[.pointer P, .int .i64 x, .int .i64 y, .int .i64 z] w fun e w' => e = .returned (.tuple #[.slice none 0 0, .int .i64 1]) ∧ w = w' := by
  refine cph fun R HR => ?_
  have H := Lib.hid h
  unfold NoG at H
  clear h
  go_enter Tryz.func25, Tryz.ntmps25
  go_wp2_with (go_at_call 79; refine H.out.mono ?_; rintro e w' ⟨rfl, rfl⟩)
  exact HR.out _ _ ⟨rfl, rfl⟩
theorem noBorn {w : World} {P : Option Addr} (h : NoG w (.pointer P)) (x : Int) : Calls Tryz.prog 37 #[.pointer P, .int .i64 x] w fun e w' => e = .returned (.int .i64 1) ∧ w = w' := by
  refine cph fun R HR => ?_
  have H := Lib.hid h
  unfold NoG at H
  clear h
  go_enter Tryz.func37, Tryz.ntmps37
  go_wp2_with (go_at_call 79; refine H.out.mono ?_; rintro e w' ⟨rfl, rfl⟩)
  exact HR.out _ _ ⟨rfl, rfl⟩
theorem noRetire {w : World} {P : Option Addr} (h : NoG w (.pointer P)) (x y : Int) : Calls Tryz.prog 38 #[.pointer P, .int .i64 x, .int .i64 y] w fun e w' => e = .returned (.tuple #[.slice none 0 0, .int .i64 1]) ∧ w = w' := by
  refine cph fun R HR => ?_
  have H := Lib.hid h
  unfold NoG at H
  clear h
  go_enter Tryz.func38, Tryz.ntmps38
  go_wp2_with (go_at_call 79; refine H.out.mono ?_; rintro e w' ⟨rfl, rfl⟩)
  exact HR.out _ _ ⟨rfl, rfl⟩
theorem noRest {w : World} {P : Option Addr} (h : NoG w (.pointer P)) : Calls Tryz.prog 27 #[.pointer P] w fun e w' => e = .returned (.slice none 0 0) ∧ w = w' := by
  refine cph fun R HR => ?_
  have H := Lib.hid h
  unfold NoG at H
  clear h
  go_enter Tryz.func27, Tryz.ntmps27
  go_wp2_with (go_at_call 79; refine H.out.mono ?_; rintro e w' ⟨rfl, rfl⟩)
  exact HR.out _ _ ⟨rfl, rfl⟩
theorem noWaiting {w : World} {P : Option Addr} (h : NoG w (.pointer P)) : Calls Tryz.prog 21 #[.pointer P] w fun e w' => e = .returned (.slice none 0 0) ∧ w = w' := by
  refine cph fun R HR => ?_
  have H := Lib.hid h
  unfold NoG at H
  clear h
  go_enter Tryz.func21, Tryz.ntmps21
  go_wp2_with (go_at_call 79; refine H.out.mono ?_; rintro e w' ⟨rfl, rfl⟩)
  exact HR.out _ _ ⟨rfl, rfl⟩
theorem noKind {w : World} {P : Option Addr} (h : NoG w (.pointer P)) : Calls Tryz.prog 31 #[.pointer P] w fun e w' => e = .returned (.int .i64 (-1)) ∧ w = w' := by
  refine cph fun R HR => ?_
  have H := Lib.hid h
  unfold NoG at H
  clear h
  go_enter Tryz.func31, Tryz.ntmps31
  go_wp2_with (go_at_call 79; refine H.out.mono ?_; rintro e w' ⟨rfl, rfl⟩)
  exact HR.out _ _ ⟨rfl, rfl⟩
theorem noCopy {w : World} {P : Option Addr} (h : NoG w (.pointer P)) : Calls Tryz.prog 39 #[.pointer P] w fun e w' => e = .returned (.pointer none) ∧ w = w' := by
  refine cph fun R HR => ?_
  have H := Lib.hid h
  unfold NoG at H
  clear h
  go_enter Tryz.func39, Tryz.ntmps39
  go_wp2_with (go_at_call 79; refine H.out.mono ?_; rintro e w' ⟨rfl, rfl⟩)
  exact HR.out _ _ ⟨rfl, rfl⟩
end Go.Proofs.YtcgcljmnnjalpaaGreat
