/- cmp.Compare at ints, slices.Compare at three ints, and the closure that Shared hands to the sort. -/
import Derived.Test.YtabplbalacldfaaKxD
import Derived.Test.YtabplbalacldfaaLValid
import Derived.Sort.Grow
import Derived.BigQuiet
import Derived.Deep.QuietTactic
set_option linter.unusedVariables false
set_option linter.unusedSimpArgs false
namespace Go.Proofs.Ytabplbalacldfaa
open Go.RowKit Go.Kx Go.Sort
def cmpI (x y : Int) : Int := if x < y then -1 else if y < x then 1 else 0
theorem cmpI_zero {x y : Int} (h : cmpI x y = 0) : x = y := by
  unfold cmpI at h; split at h <;> (try split at h) <;> omega
theorem isNaN_any (w : World) (x : Int) : Calls Try.prog 78 #[.int .i64 x] w fun e w' => e = .returned (.bool false) ∧ w = w' := by
  refine cph fun R HR => ?_
  go_enter Try.func78, Try.ntmps78
  go_wp2_with fail
  exact HR.out _ _ ⟨rfl, rfl⟩
theorem compare1 (w : World) (x y : Int) : Calls Try.prog 64 #[.int .i64 x, .int .i64 y] w fun e w' => e = .returned (.int .i64 (cmpI x y)) ∧ w = w' := by
  refine cph fun R HR => ?_
  by_cases h : x < y
  · have e : cmpI x y = -1 := by simp [cmpI, h]
    rw [e] at HR
    clear e
    go_enter Try.func64, Try.ntmps64
    go_wp2_with (go_at_call 78; refine (isNaN_any _ _).mono ?_; rintro e w' ⟨rfl, rfl⟩)
    exact HR.out _ _ ⟨rfl, rfl⟩
  by_cases h2 : y < x
  · have e : cmpI x y = 1 := by simp [cmpI, h, h2]
    rw [e] at HR
    clear e
    go_enter Try.func64, Try.ntmps64
    go_wp2_with (go_at_call 78; refine (isNaN_any _ _).mono ?_; rintro e w' ⟨rfl, rfl⟩)
    exact HR.out _ _ ⟨rfl, rfl⟩
  · have e : cmpI x y = 0 := by simp [cmpI, h, h2]
    rw [e] at HR
    clear e
    go_enter Try.func64, Try.ntmps64
    go_wp2_with (go_at_call 78; refine (isNaN_any _ _).mono ?_; rintro e w' ⟨rfl, rfl⟩)
    exact HR.out _ _ ⟨rfl, rfl⟩
/-- The order of accesses. -/
def cmpA (a b : A3) : Int := if cmpI a.1 b.1 = 0 then (if cmpI a.2.1 b.2.1 = 0 then cmpI a.2.2 b.2.2 else cmpI a.2.1 b.2.1) else cmpI a.1 b.1
set_option maxHeartbeats 2000000 in
theorem compare3 (w : World) (p q : Nat) (a b : A3) (a0 : w.cell? ⟨p, 0, none⟩ = some (.int .i64 a.1)) (a1 : w.cell? ⟨p, 1, none⟩ = some (.int .i64 a.2.1)) (a2 : w.cell? ⟨p, 2, none⟩ = some (.int .i64 a.2.2))
    (b0 : w.cell? ⟨q, 0, none⟩ = some (.int .i64 b.1)) (b1 : w.cell? ⟨q, 1, none⟩ = some (.int .i64 b.2.1)) (b2 : w.cell? ⟨q, 2, none⟩ = some (.int .i64 b.2.2)) :
    Calls Try.prog 45 #[.slice (some ⟨p, 0, none⟩) 3 3, .slice (some ⟨q, 0, none⟩) 3 3] w fun e w' => e = .returned (.int .i64 (cmpA a b)) ∧ w = w' := by
  refine cph fun R HR => ?_
  obtain ⟨x0, x1, x2⟩ := a
  obtain ⟨y0, y1, y2⟩ := b
  dsimp only at a0 a1 a2 b0 b1 b2
  have C0 := Lib.hid (fun w => compare1 w x0 y0)
  have C1 := Lib.hid (fun w => compare1 w x1 y1)
  have C2 := Lib.hid (fun w => compare1 w x2 y2)
  unfold cmpA at HR
  dsimp only at HR
  generalize cmpI x0 y0 = c0 at C0 HR
  generalize cmpI x1 y1 = c1 at C1 HR
  generalize cmpI x2 y2 = c2 at C2 HR
  by_cases h0 : c0 = 0
  · rw [if_pos h0] at HR
    subst h0
    by_cases h1 : c1 = 0
    · rw [if_pos h1] at HR
      subst h1
      by_cases h2 : c2 = 0
      · subst h2
        go_enter Try.func45, Try.ntmps45
        go_wp2_with fail
        refine wp_loop_rounds 4 ?_
        rw [rounds_succ]
        go_wp2_with (go_at_call 64; refine (C0.out _).mono ?_; rintro e w' ⟨rfl, rfl⟩)
        rw [rounds_succ]
        go_wp2_with (go_at_call 64; refine (C1.out _).mono ?_; rintro e w' ⟨rfl, rfl⟩)
        rw [rounds_succ]
        go_wp2_with (go_at_call 64; refine (C2.out _).mono ?_; rintro e w' ⟨rfl, rfl⟩)
        rw [rounds_succ]
        go_wp2_with fail
        exact HR.out _ _ ⟨rfl, rfl⟩
      · have hb : (c2 == 0) = false := by simp [h2]
        go_enter Try.func45, Try.ntmps45
        go_wp2_with fail
        refine wp_loop_rounds 3 ?_
        rw [rounds_succ]
        go_wp2_with (go_at_call 64; refine (C0.out _).mono ?_; rintro e w' ⟨rfl, rfl⟩)
        rw [rounds_succ]
        go_wp2_with (go_at_call 64; refine (C1.out _).mono ?_; rintro e w' ⟨rfl, rfl⟩)
        rw [rounds_succ]
        go_wp2_with (go_at_call 64; refine (C2.out _).mono ?_; rintro e w' ⟨rfl, rfl⟩)
        exact HR.out _ _ ⟨rfl, rfl⟩
    · rw [if_neg h1] at HR
      have hb : (c1 == 0) = false := by simp [h1]
      go_enter Try.func45, Try.ntmps45
      go_wp2_with fail
      refine wp_loop_rounds 2 ?_
      rw [rounds_succ]
      go_wp2_with (go_at_call 64; refine (C0.out _).mono ?_; rintro e w' ⟨rfl, rfl⟩)
      rw [rounds_succ]
      go_wp2_with (go_at_call 64; refine (C1.out _).mono ?_; rintro e w' ⟨rfl, rfl⟩)
      exact HR.out _ _ ⟨rfl, rfl⟩
  · rw [if_neg h0] at HR
    have hb : (c0 == 0) = false := by simp [h0]
    go_enter Try.func45, Try.ntmps45
    go_wp2_with fail
    refine wp_loop_rounds 1 ?_
    rw [rounds_succ]
    go_wp2_with (go_at_call 64; refine (C0.out _).mono ?_; rintro e w' ⟨rfl, rfl⟩)
    exact HR.out _ _ ⟨rfl, rfl⟩
def encA (a : A3) : List Value := [.int .i64 a.1, .int .i64 a.2.1, .int .i64 a.2.2]
set_option maxHeartbeats 1000000 in
theorem closure44 (a b : A3) (W : World) : Calls Try.prog 44 #[.agg #[.int .i64 a.1, .int .i64 a.2.1, .int .i64 a.2.2], .agg #[.int .i64 b.1, .int .i64 b.2.1, .int .i64 b.2.2]] W fun e w' => e = .returned (.int .i64 (cmpA a b)) ∧ ∃ q os', w' = grow (W.drewN q) os' := by
  refine cph fun R HR => ?_
  have hC := Lib.hid (fun w p q => compare3 w p q a b)
  generalize cmpA a b = r at hC HR
  obtain ⟨x0, x1, x2⟩ := a
  obtain ⟨y0, y1, y2⟩ := b
  dsimp only at hC ⊢
  go_enter Try.func44, Try.ntmps44
  go_wp2_with fail
  obtain ⟨W2, hW2⟩ : ∃ W2, (W.alloc (.cells #[.int .i64 x0, .int .i64 x1, .int .i64 x2] 24)).alloc (.cells #[.int .i64 y0, .int .i64 y1, .int .i64 y2] 24) = W2 := ⟨_, rfl⟩
  have a0 : W2.cell? ⟨W.heap.size, 0, none⟩ = some (.int .i64 x0) := by rw [← hW2]; exact (blk_cell (blk_alloc' _ (blk_new W _)) 0).trans rfl
  have a1 : W2.cell? ⟨W.heap.size, 1, none⟩ = some (.int .i64 x1) := by rw [← hW2]; exact (blk_cell (blk_alloc' _ (blk_new W _)) 1).trans rfl
  have a2 : W2.cell? ⟨W.heap.size, 2, none⟩ = some (.int .i64 x2) := by rw [← hW2]; exact (blk_cell (blk_alloc' _ (blk_new W _)) 2).trans rfl
  have hs : (W.alloc (.cells #[.int .i64 x0, .int .i64 x1, .int .i64 x2] 24)).heap.size = W.heap.size + 1 := size_alloc _ _
  have hn := blk_new (W.alloc (.cells #[.int .i64 x0, .int .i64 x1, .int .i64 x2] 24)) (.cells #[.int .i64 y0, .int .i64 y1, .int .i64 y2] 24)
  rw [hs, hW2] at hn
  have b0 : W2.cell? ⟨W.heap.size + 1, 0, none⟩ = some (.int .i64 y0) := (blk_cell hn 0).trans rfl
  have b1 : W2.cell? ⟨W.heap.size + 1, 1, none⟩ = some (.int .i64 y1) := (blk_cell hn 1).trans rfl
  have b2 : W2.cell? ⟨W.heap.size + 1, 2, none⟩ = some (.int .i64 y2) := (blk_cell hn 2).trans rfl
  have hQ : Hid (∀ n, Calls Try.prog 45 #[.slice (some ⟨W.heap.size, 0, none⟩) 3 3, .slice (some ⟨W.heap.size + 1, 0, none⟩) 3 3] (W2.drewN n) fun e w' => e = .returned (.int .i64 r) ∧ w' = W2.drewN n) :=
    Lib.hid fun n => (hC.out (W2.drewN n) W.heap.size (W.heap.size + 1) a0 a1 a2 b0 b1 b2).mono fun e w' ⟨h1, h2⟩ => ⟨h1, h2.symm⟩
  have hW := Lib.hid hW2
  rw [hW2]
  clear hn hs hC hW2
  go_quiet (first | (go_at_call 45; exact Calls.quiet_of_same (hQ.out _)))
  go_wp2_with fail
  exact HR.out _ _ ⟨rfl, nq, _, by rw [← hW.out, alloc_eq_grow, alloc_eq_grow, grow_grow]; rfl⟩
end Go.Proofs.Ytabplbalacldfaa
