/- slices.Index at the six names, and guard.Of at every string. -/
import Derived.Test.YtcgcljmnnjalpaaGreatGdL
import Derived.LoopN
set_option linter.unusedVariables false
set_option linter.unusedSimpArgs false
namespace Go.Proofs.YtcgcljmnnjalpaaGreat
open Go.RowKit Go.Kx
open Go.ChangeMaps (setBlock)
/-- The number of a name, or -1. -/
def ofN (l : List UInt8) : Int := if l = [108, 101, 97, 107] then 0 else if l = [104, 97, 122, 97, 114, 100] then 1 else if l = [101, 112, 111, 99, 104] then 2 else if l = [115, 112, 97, 110] then 3 else if l = [99, 111, 117, 110, 116, 101, 100] then 4 else if l = [113, 117, 105, 101, 116] then 5 else -1
/-- Which of the names a string is. -/
def Nth (l : List UInt8) (i : Nat) : Prop := (l == [108, 101, 97, 107]) = decide (i = 0) ∧ (l == [104, 97, 122, 97, 114, 100]) = decide (i = 1) ∧ (l == [101, 112, 111, 99, 104]) = decide (i = 2) ∧ (l == [115, 112, 97, 110]) = decide (i = 3) ∧ (l == [99, 111, 117, 110, 116, 101, 100]) = decide (i = 4) ∧ (l == [113, 117, 105, 101, 116]) = decide (i = 5)
theorem nth_cases (l : List UInt8) : ∃ i, i < 7 ∧ Nth l i ∧ ofN l = if i < 6 then (i : Int) else -1 := by
  by_cases h0 : l = [108, 101, 97, 107]
  · subst h0; exact ⟨0, by omega, by unfold Nth; decide, by decide⟩
  by_cases h1 : l = [104, 97, 122, 97, 114, 100]
  · subst h1; exact ⟨1, by omega, by unfold Nth; decide, by decide⟩
  by_cases h2 : l = [101, 112, 111, 99, 104]
  · subst h2; exact ⟨2, by omega, by unfold Nth; decide, by decide⟩
  by_cases h3 : l = [115, 112, 97, 110]
  · subst h3; exact ⟨3, by omega, by unfold Nth; decide, by decide⟩
  by_cases h4 : l = [99, 111, 117, 110, 116, 101, 100]
  · subst h4; exact ⟨4, by omega, by unfold Nth; decide, by decide⟩
  by_cases h5 : l = [113, 117, 105, 101, 116]
  · subst h5; exact ⟨5, by omega, by unfold Nth; decide, by decide⟩
  refine ⟨6, by omega, ⟨by simp [h0], by simp [h1], by simp [h2], by simp [h3], by simp [h4], by simp [h5]⟩, ?_⟩
  unfold ofN; simp [h0, h1, h2, h3, h4, h5]
set_option maxHeartbeats 4000000 in
theorem index6 (w : World) (g : Nat) (s : ByteArray) (h0 : w.cell? ⟨g, 0, none⟩ = some (.string ⟨#[108, 101, 97, 107]⟩)) (h1 : w.cell? ⟨g, 1, none⟩ = some (.string ⟨#[104, 97, 122, 97, 114, 100]⟩)) (h2 : w.cell? ⟨g, 2, none⟩ = some (.string ⟨#[101, 112, 111, 99, 104]⟩)) (h3 : w.cell? ⟨g, 3, none⟩ = some (.string ⟨#[115, 112, 97, 110]⟩)) (h4 : w.cell? ⟨g, 4, none⟩ = some (.string ⟨#[99, 111, 117, 110, 116, 101, 100]⟩)) (h5 : w.cell? ⟨g, 5, none⟩ = some (.string ⟨#[113, 117, 105, 101, 116]⟩)) :
    Calls Tryz.prog 87 #[.slice (some ⟨g, 0, none⟩) 6 6, .string s] w fun e w' => e = .returned (.int .i64 (ofN s.toList)) ∧ w = w' := by
  refine cph fun R HR => ?_
  obtain ⟨i, hi, ⟨e0, e1, e2, e3, e4, e5⟩, hv⟩ := nth_cases s.toList
  rw [hv] at HR
  clear hv
  obtain rfl | rfl | rfl | rfl | rfl | rfl | rfl : i = 0 ∨ i = 1 ∨ i = 2 ∨ i = 3 ∨ i = 4 ∨ i = 5 ∨ i = 6 := by omega
  · change (s.toList == [108, 101, 97, 107]) = true at e0
    change (s.toList == [104, 97, 122, 97, 114, 100]) = false at e1
    change (s.toList == [101, 112, 111, 99, 104]) = false at e2
    change (s.toList == [115, 112, 97, 110]) = false at e3
    change (s.toList == [99, 111, 117, 110, 116, 101, 100]) = false at e4
    change (s.toList == [113, 117, 105, 101, 116]) = false at e5
    go_enter Tryz.func87, Tryz.ntmps87
    go_wp2_with fail
    refine wp_loop_rounds 1 ?_
    rw [rounds_succ]
    go_wp2_with fail
    exact HR.out _ _ ⟨rfl, rfl⟩
  · change (s.toList == [108, 101, 97, 107]) = false at e0
    change (s.toList == [104, 97, 122, 97, 114, 100]) = true at e1
    change (s.toList == [101, 112, 111, 99, 104]) = false at e2
    change (s.toList == [115, 112, 97, 110]) = false at e3
    change (s.toList == [99, 111, 117, 110, 116, 101, 100]) = false at e4
    change (s.toList == [113, 117, 105, 101, 116]) = false at e5
    go_enter Tryz.func87, Tryz.ntmps87
    go_wp2_with fail
    refine wp_loop_rounds 2 ?_
    rw [rounds_succ]
    go_wp2_with fail
    rw [rounds_succ]
    go_wp2_with fail
    exact HR.out _ _ ⟨rfl, rfl⟩
  · change (s.toList == [108, 101, 97, 107]) = false at e0
    change (s.toList == [104, 97, 122, 97, 114, 100]) = false at e1
    change (s.toList == [101, 112, 111, 99, 104]) = true at e2
    change (s.toList == [115, 112, 97, 110]) = false at e3
    change (s.toList == [99, 111, 117, 110, 116, 101, 100]) = false at e4
    change (s.toList == [113, 117, 105, 101, 116]) = false at e5
    go_enter Tryz.func87, Tryz.ntmps87
    go_wp2_with fail
    refine wp_loop_rounds 3 ?_
    rw [rounds_succ]
    go_wp2_with fail
    rw [rounds_succ]
    go_wp2_with fail
    rw [rounds_succ]
    go_wp2_with fail
    exact HR.out _ _ ⟨rfl, rfl⟩
  · change (s.toList == [108, 101, 97, 107]) = false at e0
    change (s.toList == [104, 97, 122, 97, 114, 100]) = false at e1
    change (s.toList == [101, 112, 111, 99, 104]) = false at e2
    change (s.toList == [115, 112, 97, 110]) = true at e3
    change (s.toList == [99, 111, 117, 110, 116, 101, 100]) = false at e4
    change (s.toList == [113, 117, 105, 101, 116]) = false at e5
    go_enter Tryz.func87, Tryz.ntmps87
    go_wp2_with fail
    refine wp_loop_rounds 4 ?_
    rw [rounds_succ]
    go_wp2_with fail
    rw [rounds_succ]
    go_wp2_with fail
    rw [rounds_succ]
    go_wp2_with fail
    rw [rounds_succ]
    go_wp2_with fail
    exact HR.out _ _ ⟨rfl, rfl⟩
  · change (s.toList == [108, 101, 97, 107]) = false at e0
    change (s.toList == [104, 97, 122, 97, 114, 100]) = false at e1
    change (s.toList == [101, 112, 111, 99, 104]) = false at e2
    change (s.toList == [115, 112, 97, 110]) = false at e3
    change (s.toList == [99, 111, 117, 110, 116, 101, 100]) = true at e4
    change (s.toList == [113, 117, 105, 101, 116]) = false at e5
    go_enter Tryz.func87, Tryz.ntmps87
    go_wp2_with fail
    refine wp_loop_rounds 5 ?_
    rw [rounds_succ]
    go_wp2_with fail
    rw [rounds_succ]
    go_wp2_with fail
    rw [rounds_succ]
    go_wp2_with fail
    rw [rounds_succ]
    go_wp2_with fail
    rw [rounds_succ]
    go_wp2_with fail
    exact HR.out _ _ ⟨rfl, rfl⟩
  · change (s.toList == [108, 101, 97, 107]) = false at e0
    change (s.toList == [104, 97, 122, 97, 114, 100]) = false at e1
    change (s.toList == [101, 112, 111, 99, 104]) = false at e2
    change (s.toList == [115, 112, 97, 110]) = false at e3
    change (s.toList == [99, 111, 117, 110, 116, 101, 100]) = false at e4
    change (s.toList == [113, 117, 105, 101, 116]) = true at e5
    go_enter Tryz.func87, Tryz.ntmps87
    go_wp2_with fail
    refine wp_loop_rounds 6 ?_
    rw [rounds_succ]
    go_wp2_with fail
    rw [rounds_succ]
    go_wp2_with fail
    rw [rounds_succ]
    go_wp2_with fail
    rw [rounds_succ]
    go_wp2_with fail
    rw [rounds_succ]
    go_wp2_with fail
    rw [rounds_succ]
    go_wp2_with fail
    exact HR.out _ _ ⟨rfl, rfl⟩
  · change (s.toList == [108, 101, 97, 107]) = false at e0
    change (s.toList == [104, 97, 122, 97, 114, 100]) = false at e1
    change (s.toList == [101, 112, 111, 99, 104]) = false at e2
    change (s.toList == [115, 112, 97, 110]) = false at e3
    change (s.toList == [99, 111, 117, 110, 116, 101, 100]) = false at e4
    change (s.toList == [113, 117, 105, 101, 116]) = false at e5
    go_enter Tryz.func87, Tryz.ntmps87
    go_wp2_with fail
    refine wp_loop_rounds 7 ?_
    rw [rounds_succ]
    go_wp2_with fail
    rw [rounds_succ]
    go_wp2_with fail
    rw [rounds_succ]
    go_wp2_with fail
    rw [rounds_succ]
    go_wp2_with fail
    rw [rounds_succ]
    go_wp2_with fail
    rw [rounds_succ]
    go_wp2_with fail
    rw [rounds_succ]
    go_wp2_with fail
    exact HR.out _ _ ⟨rfl, rfl⟩
def OfP (w : World) (l : List UInt8) (e : Ending) (w' : World) : Prop := e = .returned (.tuple #[.int .i64 (if ofN l < 0 then 0 else ofN l), .int .i64 (if ofN l < 0 then 5 else 0)]) ∧ Grow w w'
set_option maxHeartbeats 1000000 in
theorem gOf (w : World) (s : ByteArray) : Calls Tryz.prog 36 #[.string s] w (OfP w s.toList) := by
  refine cph fun R HR => ?_
  have H1 := names_any w
  have hg : Grow w (w.alloc (.cells nmCells 9)) := (Grow.refl w).alloc _
  have H2 := index6 (w.alloc (.cells nmCells 9)) w.heap.size s (nm_cell w 0 (.string ⟨#[108, 101, 97, 107]⟩) rfl) (nm_cell w 1 (.string ⟨#[104, 97, 122, 97, 114, 100]⟩) rfl) (nm_cell w 2 (.string ⟨#[101, 112, 111, 99, 104]⟩) rfl) (nm_cell w 3 (.string ⟨#[115, 112, 97, 110]⟩) rfl) (nm_cell w 4 (.string ⟨#[99, 111, 117, 110, 116, 101, 100]⟩) rfl) (nm_cell w 5 (.string ⟨#[113, 117, 105, 101, 116]⟩) rfl)
  generalize w.alloc (.cells nmCells 9) = w1 at H1 hg H2
  have H1 := Lib.hid H1
  have H2 := Lib.hid H2
  have HG := Lib.hid hg
  clear hg
  unfold OfP at HR
  generalize ofN s.toList = n at H2 HR
  by_cases h : n < 0
  · rw [if_pos h, if_pos h] at HR
    go_enter Tryz.func36, Tryz.ntmps36
    go_wp2_with (first | (go_at_call 81; refine H1.out.mono ?_; rintro e w' ⟨rfl, rfl⟩) | (go_at_call 87; refine H2.out.mono ?_; rintro e w' ⟨rfl, rfl⟩))
    exact HR.out _ _ ⟨rfl, HG.out⟩
  · rw [if_neg h, if_neg h] at HR
    go_enter Tryz.func36, Tryz.ntmps36
    go_wp2_with (first | (go_at_call 81; refine H1.out.mono ?_; rintro e w' ⟨rfl, rfl⟩) | (go_at_call 87; refine H2.out.mono ?_; rintro e w' ⟨rfl, rfl⟩))
    exact HR.out _ _ ⟨rfl, HG.out⟩
end Go.Proofs.YtcgcljmnnjalpaaGreat
