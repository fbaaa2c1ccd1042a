/- The bounds, of the program and of the reference, for every kind and number of threads. -/
import Derived.Test.YtcgcljmnnjalpaaGreatGdG
set_option linter.unusedVariables false
set_option linter.unusedSimpArgs false
namespace Go.Proofs.YtcgcljmnnjalpaaGreat
open Go.RowKit Go.Kx
open Go.ChangeMaps (setBlock)
def okT (t : Int) : Bool := decide (1 ≤ t) && decide (t ≤ 4)
def bdP (w : World) (v : Int) (ok : Bool) (e : Ending) (w' : World) : Prop := e = .returned (.tuple #[.int .i64 (if ok then v else 0), .int .i64 (if ok then 0 else 1)]) ∧ w = w'
theorem okT_cases (t : Int) : (t < 1 ∧ okT t = false) ∨ (4 < t ∧ okT t = false) ∨ t = 1 ∨ t = 2 ∨ t = 3 ∨ t = 4 := by
  unfold okT
  by_cases h1 : t < 1
  · left; exact ⟨h1, by simp; omega⟩
  · by_cases h2 : 4 < t
    · right; left; exact ⟨h2, by simp; omega⟩
    · omega
set_option maxHeartbeats 1000000 in
theorem bdepoch (w : World) (t : Int) : Calls Tryz.prog 82 #[.int .i64 t] w (bdP w (-1) (okT t)) := by
  refine cph fun R HR => ?_
  rcases okT_cases t with ⟨h, e⟩ | ⟨h, e⟩ | rfl | rfl | rfl | rfl
  · rw [e] at HR
    clear e
    go_enter Tryz.func82, Tryz.ntmps82
    go_wp2_with fail
    exact HR.out _ _ ⟨rfl, rfl⟩
  · rw [e] at HR
    clear e
    have h0 : ¬ t < 1 := by omega
    go_enter Tryz.func82, Tryz.ntmps82
    go_wp2_with fail
    exact HR.out _ _ ⟨rfl, rfl⟩
  all_goals
    go_enter Tryz.func82, Tryz.ntmps82
    go_wp2_with fail
    exact HR.out _ _ ⟨rfl, rfl⟩
set_option maxHeartbeats 1000000 in
theorem bdhazard (w : World) (t : Int) : Calls Tryz.prog 83 #[.int .i64 t] w (bdP w (3 * t * t) (okT t)) := by
  refine cph fun R HR => ?_
  rcases okT_cases t with ⟨h, e⟩ | ⟨h, e⟩ | rfl | rfl | rfl | rfl
  · rw [e] at HR
    clear e
    go_enter Tryz.func83, Tryz.ntmps83
    go_wp2_with fail
    exact HR.out _ _ ⟨rfl, rfl⟩
  · rw [e] at HR
    clear e
    have h0 : ¬ t < 1 := by omega
    go_enter Tryz.func83, Tryz.ntmps83
    go_wp2_with fail
    exact HR.out _ _ ⟨rfl, rfl⟩
  all_goals
    go_enter Tryz.func83, Tryz.ntmps83
    go_wp2_with fail
    exact HR.out _ _ ⟨rfl, rfl⟩
set_option maxHeartbeats 1000000 in
theorem bdspan (w : World) (t : Int) : Calls Tryz.prog 84 #[.int .i64 t] w (bdP w (-1) (okT t)) := by
  refine cph fun R HR => ?_
  rcases okT_cases t with ⟨h, e⟩ | ⟨h, e⟩ | rfl | rfl | rfl | rfl
  · rw [e] at HR
    clear e
    go_enter Tryz.func84, Tryz.ntmps84
    go_wp2_with fail
    exact HR.out _ _ ⟨rfl, rfl⟩
  · rw [e] at HR
    clear e
    have h0 : ¬ t < 1 := by omega
    go_enter Tryz.func84, Tryz.ntmps84
    go_wp2_with fail
    exact HR.out _ _ ⟨rfl, rfl⟩
  all_goals
    go_enter Tryz.func84, Tryz.ntmps84
    go_wp2_with fail
    exact HR.out _ _ ⟨rfl, rfl⟩
set_option maxHeartbeats 1000000 in
theorem bdcounted (w : World) (t : Int) : Calls Tryz.prog 85 #[.int .i64 t] w (bdP w (3 * t) (okT t)) := by
  refine cph fun R HR => ?_
  rcases okT_cases t with ⟨h, e⟩ | ⟨h, e⟩ | rfl | rfl | rfl | rfl
  · rw [e] at HR
    clear e
    go_enter Tryz.func85, Tryz.ntmps85
    go_wp2_with fail
    exact HR.out _ _ ⟨rfl, rfl⟩
  · rw [e] at HR
    clear e
    have h0 : ¬ t < 1 := by omega
    go_enter Tryz.func85, Tryz.ntmps85
    go_wp2_with fail
    exact HR.out _ _ ⟨rfl, rfl⟩
  all_goals
    go_enter Tryz.func85, Tryz.ntmps85
    go_wp2_with fail
    exact HR.out _ _ ⟨rfl, rfl⟩
set_option maxHeartbeats 1000000 in
theorem bdquiet (w : World) (t : Int) : Calls Tryz.prog 86 #[.int .i64 t] w (bdP w (-1) (okT t)) := by
  refine cph fun R HR => ?_
  rcases okT_cases t with ⟨h, e⟩ | ⟨h, e⟩ | rfl | rfl | rfl | rfl
  · rw [e] at HR
    clear e
    go_enter Tryz.func86, Tryz.ntmps86
    go_wp2_with fail
    exact HR.out _ _ ⟨rfl, rfl⟩
  · rw [e] at HR
    clear e
    have h0 : ¬ t < 1 := by omega
    go_enter Tryz.func86, Tryz.ntmps86
    go_wp2_with fail
    exact HR.out _ _ ⟨rfl, rfl⟩
  all_goals
    go_enter Tryz.func86, Tryz.ntmps86
    go_wp2_with fail
    exact HR.out _ _ ⟨rfl, rfl⟩
end Go.Proofs.YtcgcljmnnjalpaaGreat
