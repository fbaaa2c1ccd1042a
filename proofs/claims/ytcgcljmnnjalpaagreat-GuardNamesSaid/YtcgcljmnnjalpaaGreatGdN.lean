/- The reference's Bound, for every kind and number of threads. -/
import Derived.Test.YtcgcljmnnjalpaaGreatGdM
set_option linter.unusedVariables false
set_option linter.unusedSimpArgs false
namespace Go.Proofs.YtcgcljmnnjalpaaGreat
open Go.RowKit Go.Kx
open Go.ChangeMaps (setBlock)
set_option maxHeartbeats 2000000 in
theorem rBound (w : World) (k t : Int) : Calls Tryz.prog 35 #[.int .i64 k, .int .i64 t] w (bdP w (bdV k t) (okK k && okT t)) := by
  refine cph fun R HR => ?_
  by_cases k0 : k < 0
  · have e : okK k = false := by simp [okK]; omega
    rw [e] at HR
    clear e
    go_enter Tryz.func35, Tryz.ntmps35
    go_wp2_with fail
    all_goals exact HR.out _ _ ⟨rfl, rfl⟩
  by_cases k5 : 5 < k
  · have e : okK k = false := by simp [okK]; omega
    rw [e] at HR
    clear e
    go_enter Tryz.func35, Tryz.ntmps35
    go_wp2_with fail
    all_goals exact HR.out _ _ ⟨rfl, rfl⟩
  have e : okK k = true := by simp [okK]; omega
  rw [e] at HR
  clear e
  by_cases t0 : t < 1
  · have e : okT t = false := by simp [okT]; omega
    rw [e] at HR
    clear e
    go_enter Tryz.func35, Tryz.ntmps35
    go_wp2_with fail
    all_goals exact HR.out _ _ ⟨rfl, rfl⟩
  by_cases t4 : 4 < t
  · have e : okT t = false := by simp [okT]; omega
    rw [e] at HR
    clear e
    go_enter Tryz.func35, Tryz.ntmps35
    go_wp2_with fail
    all_goals exact HR.out _ _ ⟨rfl, rfl⟩
  have e : okT t = true := by simp [okT]; omega
  rw [e] at HR
  clear e
  by_cases h1 : k = 1
  · subst h1
    obtain rfl | rfl | rfl | rfl : t = 1 ∨ t = 2 ∨ t = 3 ∨ t = 4 := by omega
    all_goals
      clear k0 k5 t0 t4
      go_enter Tryz.func35, Tryz.ntmps35
      go_wp2_with fail
      all_goals exact HR.out _ _ ⟨rfl, rfl⟩
  by_cases h4 : k = 4
  · subst h4
    obtain rfl | rfl | rfl | rfl : t = 1 ∨ t = 2 ∨ t = 3 ∨ t = 4 := by omega
    all_goals
      clear k0 k5 t0 t4
      go_enter Tryz.func35, Tryz.ntmps35
      go_wp2_with fail
      all_goals exact HR.out _ _ ⟨rfl, rfl⟩
  have ev : bdV k t = -1 := by simp [bdV, h1, h4]
  rw [ev] at HR
  have b1 : (k == 1) = false := by simp [h1]
  have b4 : (k == 4) = false := by simp [h4]
  clear ev h1 h4
  go_enter Tryz.func35, Tryz.ntmps35
  go_wp2_with fail
  all_goals exact HR.out _ _ ⟨rfl, rfl⟩
end Go.Proofs.YtcgcljmnnjalpaaGreat
