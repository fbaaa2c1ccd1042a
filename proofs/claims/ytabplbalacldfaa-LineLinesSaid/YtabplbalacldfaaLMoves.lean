/- The contract of line.Moves, for every size and every list of accesses that memory holds. -/
import Derived.Test.YtabplbalacldfaaLPlayed
set_option linter.unusedVariables false
set_option linter.unusedSimpArgs false
namespace Go.Proofs.Ytabplbalacldfaa
open Go.RowKit Go.Kx
def goodB (size : Int) (l : List A3) : Bool := decide (1 ≤ size) && decide (size ≤ 16) && okL l
theorem good_parts {size : Int} {l : List A3} (h : goodB size l = true) : 1 ≤ size ∧ size ≤ 16 ∧ l.length ≤ 2000 ∧ (∀ x ∈ l, bad x = false) := by
  simp only [goodB, okL, Bool.and_eq_true, decide_eq_true_eq, Bool.not_eq_true', List.any_eq_false] at h
  obtain ⟨⟨h1, h2⟩, h3, h4⟩ := h
  exact ⟨h1, h2, h3, fun x hx => by simpa using h4 x hx⟩
/-- What line.Moves and line.Counts begin with. -/
theorem moves_any (w : World) (A : Option Addr) (l : List A3) (cap : Nat) (size : Int) (hl : Acc w A l) (hn : l.length ≤ maxLen) :
    Calls Try.prog 13 #[.int .i64 size, .slice A l.length cap] w fun e w' => Grow w w' ∧
      if goodB size l then ∃ v, e = .returned (.tuple #[v, .int .i64 0]) ∧ w'.ownsRow w.heap.size 4 1 v l.length (bools (mvs size l))
      else e = .returned (.tuple #[.slice none 0 0, .int .i64 1]) := by
  refine cph fun R HR => ?_
  have HV := fun wx (g : Grow w wx) => Lib.hid (valid_any wx A l cap (hl.grow g) hn)
  have HL := Lib.hid hl
  clear hl
  cases hs : (decide (1 ≤ size) && decide (size ≤ 16))
  · go_enter Try.func13, Try.ntmps13
    go_wp2_with (go_at_call 27; refine (isSize_any _ _).mono ?_; rintro e w' ⟨rfl, rfl⟩)
    refine HR.out _ _ ⟨Grow.refl _, ?_⟩
    rw [if_neg (by simp [goodB, hs])]
    rfl
  · cases hv : okL l
    · go_enter Try.func13, Try.ntmps13
      go_wp2_with (first | (go_at_call 27; refine (isSize_any _ _).mono ?_; rintro e w' ⟨rfl, rfl⟩) | (go_at_call 15; refine (HV _ (Grow.refl _)).out.mono ?_; rintro e w1 ⟨rfl, hg⟩))
      refine HR.out _ _ ⟨hg, ?_⟩
      rw [if_neg (by simp [goodB, hv])]
      rfl
    · have hg0 : goodB size l = true := by simp [goodB, hs, hv]
      have HG := Lib.hid hg0
      clear hg0
      go_enter Try.func13, Try.ntmps13
      go_wp2_with (first | (go_at_call 27; refine (isSize_any _ _).mono ?_; rintro e w' ⟨rfl, rfl⟩) | (go_at_call 15; refine (HV _ (Grow.refl _)).out.mono ?_))
      rintro e w1 ⟨rfl, hg⟩
      have H1 := Lib.hid hg
      clear hg
      obtain ⟨p1, p2, p3, p4⟩ := good_parts HG.out
      have HP := Lib.hid (played_any w1 A l cap size (HL.out.grow H1.out) p3 p1 p2 p4)
      clear p1 p2 p3 p4
      go_wp2_with (go_at_call 28; refine HP.out.mono ?_)
      rintro e w2 ⟨v1, v2, rfl, hI⟩
      have HI := Lib.hid hI
      clear hI
      go_wp2_with fail
      refine HR.out _ _ ⟨H1.out.trans HI.out.g, ?_⟩
      rw [if_pos HG.out]
      refine ⟨v1, rfl, ?_⟩
      have := HI.out.own1
      rw [List.take_length] at this
      exact own_base_le this H1.out.size
end Go.Proofs.Ytabplbalacldfaa
