/- apart: whether two accesses are of different threads and cells of one line. -/
import Derived.Test.YtabplbalacldfaaLValid
import Derived.Test.YtabplbalacldfaaKxD
import Derived.BigQuiet
import Derived.Deep.QuietTactic
set_option linter.unusedVariables false
set_option linter.unusedSimpArgs false
namespace Go.Proofs.Ytabplbalacldfaa
open Go.RowKit Go.Kx
def apartB (size : Int) (a b : A3) : Bool := a.1 != b.1 && a.2.1 != b.2.1 && a.2.1 / size == b.2.1 / size
set_option maxHeartbeats 2000000 in
theorem apart_any (w : World) (size : Int) (a b : A3) (h1 : 1 ≤ size) (h16 : size ≤ 16) (ha : bad a = false) (hb : bad b = false) :
    Calls Try.prog 46 #[.int .i64 size, .agg #[.int .i64 a.1, .int .i64 a.2.1, .int .i64 a.2.2], .agg #[.int .i64 b.1, .int .i64 b.2.1, .int .i64 b.2.2]] w fun e w' => e = .returned (.bool (apartB size a b)) ∧ Grow w w' := by
  refine cph fun R HR => ?_
  obtain ⟨x0, x1, x2⟩ := a
  obtain ⟨y0, y1, y2⟩ := b
  dsimp only at HR ⊢
  simp [bad] at ha hb
  obtain ⟨⟨⟨⟨⟨b1, b2⟩, b3⟩, b4⟩, b5⟩, b6⟩ := ha
  obtain ⟨⟨⟨⟨⟨d1, d2⟩, d3⟩, d4⟩, d5⟩, d6⟩ := hb
  by_cases q0 : x0 = y0
  · subst q0
    have e : apartB size (x0, x1, x2) (x0, y1, y2) = false := by simp [apartB]
    rw [e] at HR
    clear e
    have z0 : (x0 == x0) = true := by simp
    have n0 : (x0 != x0) = false := by simp
    go_enter Try.func46, Try.ntmps46
    go_wp2_with fail
    go_quiet (fail)
    go_wp2_with fail
    exact HR.out _ _ ⟨rfl, (((Grow.refl w).alloc _).alloc _).drewN _⟩
  have n0 : (x0 != y0) = true := by simp [q0]
  by_cases q1 : x1 = y1
  · subst q1
    have e : apartB size (x0, x1, x2) (y0, x1, y2) = false := by simp [apartB]
    rw [e] at HR
    clear e q0
    have n1 : (x1 != x1) = false := by simp
    go_enter Try.func46, Try.ntmps46
    go_wp2_with fail
    go_quiet (fail)
    go_wp2_with fail
    exact HR.out _ _ ⟨rfl, (((Grow.refl w).alloc _).alloc _).drewN _⟩
  have n1 : (x1 != y1) = true := by simp [q1]
  have e : apartB size (x0, x1, x2) (y0, y1, y2) = (x1 / size == y1 / size) := by simp [apartB, q0, q1]
  rw [e] at HR
  clear e q0 q1
  go_enter Try.func46, Try.ntmps46
  go_wp2_with fail
  go_quiet (fail)
  go_wp2_with fail
  exact HR.out _ _ ⟨rfl, (((Grow.refl w).alloc _).alloc _).drewN _⟩
end Go.Proofs.Ytabplbalacldfaa
