/- The bounds, of the program and of the reference, for every kind and number of threads. guard.Bound and the reference's Bound, for every kind and number of threads. -/
import Derived.Test.YtcgcljmnnjalpaaGreatGxA
set_option linter.unusedVariables false
set_option linter.unusedSimpArgs false
namespace Go.Proofs.YtcgcljmnnjalpaaGreat
open Go.RowKit Go.Kx
open Go.ChangeMaps (setBlock)
def okT (t : Int) : Bool := decide (1 ≤ t) && decide (t ≤ 4)
def bdP (w : World) (v : Int) (ok : Bool) (e : Ending) (w' : World) : Prop := e = .returned (.tuple #[.int .i64 (if ok then v else 0), .int .i64 (if ok then 0 else 1)]) ∧ w = w'
theorem okT_cases (t : Int) : (t < 1 ∧ okT t = false) ∨ (4 < t ∧ okT t = false) ∨ t = 1 ∨ t = 2 ∨ t = 3 ∨ t = 4 := by
  unfold okT
  by_cases h1 : t < 1
  · left; exact ⟨h1, by simp; omega⟩
  · by_cases h2 : 4 < t
    · right; left; exact ⟨h2, by simp; omega⟩
    · omega
set_option maxHeartbeats 1000000 in
theorem bdepoch (w : World) (t : Int) : Calls Tryz.prog 82 #[.int .i64 t] w (bdP w (-1) (okT t)) := by
  refine cph fun R HR => ?_
  rcases okT_cases t with ⟨h, e⟩ | ⟨h, e⟩ | rfl | rfl | rfl | rfl
  · rw [e] at HR
    clear e
    go_enter Tryz.func82, Tryz.ntmps82
    go_wp2_with fail
    exact HR.out _ _ ⟨rfl, rfl⟩
  · rw [e] at HR
    clear e
    have h0 : ¬ t < 1 := by omega
    go_enter Tryz.func82, Tryz.ntmps82
    go_wp2_with fail
    exact HR.out _ _ ⟨rfl, rfl⟩
  all_goals
    go_enter Tryz.func82, Tryz.ntmps82
    go_wp2_with fail
    exact HR.out _ _ ⟨rfl, rfl⟩
set_option maxHeartbeats 1000000 in
theorem bdhazard (w : World) (t : Int) : Calls Tryz.prog 83 #[.int .i64 t] w (bdP w (3 * t * t) (okT t)) := by
  refine cph fun R HR => ?_
  rcases okT_cases t with ⟨h, e⟩ | ⟨h, e⟩ | rfl | rfl | rfl | rfl
  · rw [e] at HR
    clear e
    go_enter Tryz.func83, Tryz.ntmps83
    go_wp2_with fail
    exact HR.out _ _ ⟨rfl, rfl⟩
  · rw [e] at HR
    clear e
    have h0 : ¬ t < 1 := by omega
    go_enter Tryz.func83, Tryz.ntmps83
    go_wp2_with fail
    exact HR.out _ _ ⟨rfl, rfl⟩
  all_goals
    go_enter Tryz.func83, Tryz.ntmps83
    go_wp2_with fail
    exact HR.out _ _ ⟨rfl, rfl⟩
set_option maxHeartbeats 1000000 in
theorem bdspan (w : World) (t : Int) : Calls Tryz.prog 84 #[.int .i64 t] w (bdP w (-1) (okT t)) := by
  refine cph fun R HR => ?_
  rcases okT_cases t with ⟨h, e⟩ | ⟨h, e⟩ | rfl | rfl | rfl | rfl
  · rw [e] at HR
    clear e
    go_enter Tryz.func84, Tryz.ntmps84
    go_wp2_with fail
    exact HR.out _ _ ⟨rfl, rfl⟩
  · rw [e] at HR
    clear e
    have h0 : ¬ t < 1 := by omega
    go_enter Tryz.func84, Tryz.ntmps84
    go_wp2_with fail
    exact HR.out _ _ ⟨rfl, rfl⟩
  all_goals
    go_enter Tryz.func84, Tryz.ntmps84
    go_wp2_with fail
    exact HR.out _ _ ⟨rfl, rfl⟩
set_option maxHeartbeats 1000000 in
theorem bdcounted (w : World) (t : Int) : Calls Tryz.prog 85 #[.int .i64 t] w (bdP w (3 * t) (okT t)) := by
  refine cph fun R HR => ?_
  rcases okT_cases t with ⟨h, e⟩ | ⟨h, e⟩ | rfl | rfl | rfl | rfl
  · rw [e] at HR
    clear e
    go_enter Tryz.func85, Tryz.ntmps85
    go_wp2_with fail
    exact HR.out _ _ ⟨rfl, rfl⟩
  · rw [e] at HR
    clear e
    have h0 : ¬ t < 1 := by omega
    go_enter Tryz.func85, Tryz.ntmps85
    go_wp2_with fail
    exact HR.out _ _ ⟨rfl, rfl⟩
  all_goals
    go_enter Tryz.func85, Tryz.ntmps85
    go_wp2_with fail
    exact HR.out _ _ ⟨rfl, rfl⟩
set_option maxHeartbeats 1000000 in
theorem bdquiet (w : World) (t : Int) : Calls Tryz.prog 86 #[.int .i64 t] w (bdP w (-1) (okT t)) := by
  refine cph fun R HR => ?_
  rcases okT_cases t with ⟨h, e⟩ | ⟨h, e⟩ | rfl | rfl | rfl | rfl
  · rw [e] at HR
    clear e
    go_enter Tryz.func86, Tryz.ntmps86
    go_wp2_with fail
    exact HR.out _ _ ⟨rfl, rfl⟩
  · rw [e] at HR
    clear e
    have h0 : ¬ t < 1 := by omega
    go_enter Tryz.func86, Tryz.ntmps86
    go_wp2_with fail
    exact HR.out _ _ ⟨rfl, rfl⟩
  all_goals
    go_enter Tryz.func86, Tryz.ntmps86
    go_wp2_with fail
    exact HR.out _ _ ⟨rfl, rfl⟩
end Go.Proofs.YtcgcljmnnjalpaaGreat
set_option linter.unusedVariables false
set_option linter.unusedSimpArgs false
namespace Go.Proofs.YtcgcljmnnjalpaaGreat
open Go.RowKit Go.Kx
open Go.ChangeMaps (setBlock)
def okK (k : Int) : Bool := decide (0 ≤ k) && decide (k ≤ 5)
def bdV (k t : Int) : Int := if k = 1 then 3 * t * t else if k = 4 then 3 * t else -1
theorem okK_cases (k : Int) : ((k < 0 ∨ 5 < k) ∧ okK k = false) ∨ k = 0 ∨ k = 1 ∨ k = 2 ∨ k = 3 ∨ k = 4 ∨ k = 5 := by
  unfold okK
  by_cases h1 : k < 0 ∨ 5 < k
  · left; exact ⟨h1, by simp; omega⟩
  · omega
set_option maxHeartbeats 2000000 in
theorem gBound (w : World) (k t : Int) : Calls Tryz.prog 34 #[.int .i64 k, .int .i64 t] w (bdP w (bdV k t) (okK k && okT t)) := by
  refine cph fun R HR => ?_
  have H1 := Lib.hid (bdepoch w t)
  have H2 := Lib.hid (bdhazard w t)
  have H3 := Lib.hid (bdspan w t)
  have H4 := Lib.hid (bdcounted w t)
  have H5 := Lib.hid (bdquiet w t)
  unfold bdP at H1 H2 H3 H4 H5
  generalize okT t = b at H1 H2 H3 H4 H5 HR
  rcases okK_cases k with ⟨h, e⟩ | rfl | rfl | rfl | rfl | rfl | rfl
  · rw [e] at HR
    clear e
    have h0 : (k == 0) = false := by simp; omega
    have h1 : (k == 1) = false := by simp; omega
    have h2 : (k == 2) = false := by simp; omega
    have h3 : (k == 3) = false := by simp; omega
    have h4 : (k == 4) = false := by simp; omega
    have h5 : (k == 5) = false := by simp; omega
    clear h H1 H2 H3 H4 H5
    go_enter Tryz.func34, Tryz.ntmps34
    go_wp2_with fail
    all_goals exact HR.out _ _ ⟨rfl, rfl⟩
  all_goals
    cases b
    all_goals
      go_enter Tryz.func34, Tryz.ntmps34
      go_wp2_with (first | (go_at_call 82; refine H1.out.mono ?_; rintro e w' ⟨rfl, rfl⟩) | (go_at_call 83; refine H2.out.mono ?_; rintro e w' ⟨rfl, rfl⟩) | (go_at_call 84; refine H3.out.mono ?_; rintro e w' ⟨rfl, rfl⟩) | (go_at_call 85; refine H4.out.mono ?_; rintro e w' ⟨rfl, rfl⟩) | (go_at_call 86; refine H5.out.mono ?_; rintro e w' ⟨rfl, rfl⟩))
      all_goals exact HR.out _ _ ⟨by simp [bdV, okK], rfl⟩
end Go.Proofs.YtcgcljmnnjalpaaGreat
