/- The statements' example of the chapter answers true, in whatever memory. -/
import Derived.Test.YtabplbalacldfaaLCounts
set_option linter.unusedVariables false
set_option linter.unusedSimpArgs false
namespace Go.Proofs.Ytabplbalacldfaa
open Go.RowKit Go.Kx
/-- Of a row of counts that is owned: where it lies, and its cells. -/
theorem counts_at {w : World} {base : Nat} {v : Value} {f : Nat → Nat → Int} (h : w.ownsRow base 30 4 v 4 (countCells f)) : ∃ g cap, v = .slice (some ⟨g, 0, none⟩) 4 cap ∧ 4 ≤ cap ∧ ∀ t j, t < 4 → j < 4 → w.cell? ⟨g, t * 4 + j, none⟩ = some (.int .i64 (f t j)) := by
  rcases h.2 with ⟨_, h1⟩ | ⟨g, cap, cur, rfl, hb, hg, h1, h2, h3, h4⟩
  · omega
  · refine ⟨g, cap, rfl, h1, fun t j ht hj => ?_⟩
    rw [blk_cell hg]
    have e : (countCells f)[t * 4 + j]? = some (.int .i64 (f t j)) := by
      have h16 : t * 4 + j < 16 := by omega
      simp [countCells, h16]
      congr 1 <;> omega
    rw [← h4, List.getElem?_take] at e
    rw [if_pos (by omega)] at e
    simpa using e
def saneL : List A3 := [(0, 0, 1), (1, 1, 1), (0, 0, 1)]
def CountsGood (w : World) (size : Int) (l : List A3) (e : Ending) (w' : World) : Prop :=
  ∃ g cap', e = .returned (.tuple #[.slice (some ⟨g, 0, none⟩) 4 cap', .int .i64 0]) ∧ 4 ≤ cap' ∧ (∀ t j, t < 4 → j < 4 → w'.cell? ⟨g, t * 4 + j, none⟩ = some (.int .i64 (cnt (tg size l) t j))) ∧ Grow w w' ∧ g < w'.heap.size
theorem counts_good (w : World) (A : Option Addr) (l : List A3) (cap : Nat) (size : Int) (hl : Acc w A l) (hn : l.length ≤ maxLen) (hg : goodB size l = true) :
    Calls Try.prog 10 #[.int .i64 size, .slice A l.length cap] w (CountsGood w size l) :=
  (counts_any w A l cap size hl hn).mono fun e w' ⟨h1, h2⟩ => by
    rw [if_pos hg] at h2
    obtain ⟨v, rfl, hv⟩ := h2
    obtain ⟨g, cap', rfl, h3, h4⟩ := counts_at hv
    exact ⟨g, cap', rfl, h3, h4, h1, World.block_lt_of_cell? _ _ (h4 0 0 (by omega) (by omega))⟩
theorem acc_sane (w : World) : Acc (w.alloc (.cells #[.int .i64 0, .int .i64 0, .int .i64 1, .int .i64 1, .int .i64 1, .int .i64 1, .int .i64 0, .int .i64 0, .int .i64 1] 24)) (some ⟨w.heap.size, 0, none⟩) saneL := by
  have hb := blk_new w (.cells #[.int .i64 0, .int .i64 0, .int .i64 1, .int .i64 1, .int .i64 1, .int .i64 1, .int .i64 0, .int .i64 0, .int .i64 1] 24)
  refine .inr ⟨_, _, rfl, fun i x hx => ?_⟩
  rw [blk_cell hb, blk_cell hb, blk_cell hb]
  match i, hx with
  | 0, hx => cases hx; exact ⟨rfl, rfl, rfl⟩
  | 1, hx => cases hx; exact ⟨rfl, rfl, rfl⟩
  | 2, hx => cases hx; exact ⟨rfl, rfl, rfl⟩
  | n + 3, hx => simp [saneL] at hx
theorem sane_any (w : World) : Calls Try.prog 9 #[] w fun e w' => e = .returned (.bool true) ∧ Grow w w' := by
  refine cph fun R HR => ?_
  have HC := fun wx A cap (h : Acc wx A saneL) => Lib.hid (counts_good wx A saneL cap 2 h (by decide) (by decide))
  go_enter Try.func9, Try.ntmps9
  go_wp2_with (go_at_call 10; refine (HC _ _ 3 (acc_sane _)).out.mono ?_)
  rintro e w1 ⟨g, cap, rfl, hc, hcell, hg, hlt⟩
  have e1 : cnt (tg 2 saneL) 0 2 = 2 := by decide
  have e2 : cnt (tg 2 saneL) 0 3 = 1 := by decide
  have e3 : cnt (tg 2 saneL) 1 2 = 1 := by decide
  have d1 := hcell 0 2 (by omega) (by omega)
  have d2 := hcell 0 3 (by omega) (by omega)
  have d3 := hcell 1 2 (by omega) (by omega)
  rw [e1] at d1
  rw [e2] at d2
  rw [e3] at d3
  simp only [Nat.zero_mul, Nat.zero_add, Nat.reduceMul, Nat.reduceAdd] at d1 d2 d3
  have HG := Lib.hid hg
  clear e1 e2 e3 hcell hg
  go_wp2_with fail
  exact HR.out _ _ ⟨rfl, ((Grow.refl w).alloc _).trans HG.out⟩
end Go.Proofs.Ytabplbalacldfaa
