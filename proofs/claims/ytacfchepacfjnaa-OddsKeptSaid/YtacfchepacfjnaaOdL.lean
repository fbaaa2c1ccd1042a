/- What isOrder asks is what the reference asks; the statements' example; OddsSchedules. -/
import Derived.Test.YtacfchepacfjnaaOdK
set_option linter.unusedVariables false
set_option linter.unusedSimpArgs false
namespace Go.Proofs.Ytacfchepacfjnaa
open Go.RowKit Go.Kx Go.Maps Go.Sort Go.Shelf
theorem perm_of_subset {a : List Int} : ∀ {b : List Int}, a.Nodup → (∀ x ∈ a, x ∈ b) → b.length ≤ a.length → a.Perm b := by
  induction a with
  | nil =>
    intro b _ _ hl
    have : b = [] := List.eq_nil_of_length_eq_zero (by simpa using hl)
    subst this
    exact List.Perm.refl _
  | cons x a ih =>
    intro b hn hs hl
    have hx : x ∈ b := hs x (by simp)
    have hp := List.perm_cons_erase hx
    obtain ⟨hxa, hna⟩ := List.nodup_cons.1 hn
    have h1 : ∀ y ∈ a, y ∈ b.erase x := by
      intro y hy
      have hyb := hs y (by simp [hy])
      have hne : y ≠ x := by rintro rfl; exact hxa hy
      exact (List.mem_erase_of_ne hne).2 hyb
    have hl2 : (b.erase x).length ≤ a.length := by
      have := hp.length_eq
      simp at this hl
      omega
    exact ((ih hna h1 hl2).cons x).trans hp.symm
theorem numL_nodup (m : Nat) : (numL m).Nodup := by
  unfold numL List.Nodup
  rw [List.pairwise_map]
  exact (List.nodup_range (n := m)).imp (fun h e => h (by omega))
theorem numL_mem {m : Nat} {x : Int} : x ∈ numL m ↔ ∃ j : Nat, j < m ∧ x = (j : Int) + 1 := by
  unfold numL
  rw [List.mem_map]
  exact ⟨fun ⟨j, hj, e⟩ => ⟨j, by simpa using hj, e.symm⟩, fun ⟨j, hj, e⟩ => ⟨j, by simpa using hj, e.symm⟩⟩
theorem numL_sorted (m : Nat) : (numL m).Pairwise fun x y => x ≤ y := by
  unfold numL
  rw [List.pairwise_map]
  exact (List.pairwise_lt_range (n := m)).imp (fun h => by omega)
theorem srt_sorted (l : List Int) : (srt l).Pairwise fun x y => x ≤ y := by
  have := List.pairwise_mergeSort (le := fun x y : Int => decide (x ≤ y)) (fun a b c h1 h2 => by simp at *; omega) (fun a b => by simp; omega) l
  exact this.imp fun h => by simpa using h
theorem srt_perm (l : List Int) : (srt l).Perm l := List.mergeSort_perm _ _
theorem srt_iff {l : List Int} {m : Nat} : srt l = numL m ↔ l.Perm (numL m) := by
  constructor
  · intro h
    rw [← h]
    exact (srt_perm l).symm
  · intro h
    exact List.Perm.eq_of_pairwise (le := fun x y : Int => x ≤ y) (fun a b _ _ h1 h2 => by omega) (srt_sorted l) (numL_sorted m) ((srt_perm l).trans h)
theorem hasN_iff {l : List Int} {n : Int} : hasN l n = true ↔ n ∈ l := by
  unfold hasN
  rw [List.any_eq_true]
  exact ⟨fun ⟨x, hx, e⟩ => by have := of_decide_eq_true e; subst this; exact hx, fun h => ⟨n, h, by simp⟩⟩
theorem ord_iff {l : List Int} {m : Nat} (hl : l.length = m) : isOrd l m = allN l m := by
  rw [Bool.eq_iff_iff]
  have e : isOrd l m = true ↔ srt l = numL m := by simp [isOrd, hl]
  rw [e, srt_iff]
  constructor
  · intro h
    unfold allN
    rw [List.all_eq_true]
    intro j hj
    rw [hasN_iff]
    exact h.mem_iff.2 (numL_mem.2 ⟨j, by simpa using hj, rfl⟩)
  · intro h
    unfold allN at h
    rw [List.all_eq_true] at h
    refine (perm_of_subset (numL_nodup m) ?_ (by rw [numL_len]; omega)).symm
    intro x hx
    obtain ⟨j, hj, rfl⟩ := numL_mem.1 hx
    exact hasN_iff.1 (h j (by simpa using hj))
theorem ok_eq (cs ps chs : List Int) : okP cs ps chs = okR cs ps chs := by
  unfold okP okR
  by_cases hl : ps.length = cs.length
  · rw [ord_iff hl, hl]
    simp only [decide_true, Bool.true_and]
    cases decide (0 < tot cs) <;> cases allN ps cs.length <;> cases decide (chs.length ≤ 2) <;> rfl
  · have : isOrd ps cs.length = false := by simp [isOrd, hl]
    rw [this]
    simp [hl]
def TrueP (w : World) (e : Ending) (w' : World) : Prop := e = .returned (.bool true) ∧ Grow w w'
theorem ints_lit (w : World) (l : List Int) : IntsAt (w.alloc (.cells (l.map (Value.int .i64)).toArray 3)) (some ⟨w.heap.size, 0, none⟩) l := by
  refine .inr ⟨_, _, rfl, fun j x hx => ?_⟩
  rw [blk_cell (blk_new w _)]
  simp [hx]
theorem awake_ok : okP [1, 1] [1, 2] [] = true := by rw [ok_eq]; decide
set_option maxHeartbeats 1000000 in
theorem awake_any (w : World) : Calls Try.prog 14 #[] w (TrueP w) := by
  refine cph fun R HR => ?_
  have i1 := ints_lit w [1, 1]
  have i2 := ints_lit (w.alloc (.cells (([1, 1] : List Int).map (Value.int .i64)).toArray 3)) [1, 2]
  rw [World.size_alloc] at i2
  have hS := Schedule_any (ca := 2) (cb := 2) (cc := 0) (i1.grow ((Grow.refl _).alloc (.cells (([1, 2] : List Int).map (Value.int .i64)).toArray 3))) i2 (.inl rfl : IntsAt _ none [])
  rw [awake_ok] at hS
  have HS : Hid (Calls Try.prog 15 #[.slice (some ⟨w.heap.size, 0, none⟩) 2 2, .slice (some ⟨w.heap.size + 1, 0, none⟩) 2 2, .slice none 0 0] ((w.alloc (.cells #[.int .i64 1, .int .i64 1] 3)).alloc (.cells #[.int .i64 1, .int .i64 2] 3)) (MadeE ((w.alloc (.cells #[.int .i64 1, .int .i64 1] 3)).alloc (.cells #[.int .i64 1, .int .i64 2] 3)) true (sched [1, 1] [1, 2] []))) := hS
  clear hS i1 i2
  go_enter Try.func14, Try.ntmps14
  go_wp2_with (go_at_call 15; refine HS.out.mono ?_)
  rintro e w1 ⟨v, rfl, hrow, hg⟩
  have hsc : sched [1, 1] [1, 2] [] = [1, 0] := by decide
  rw [if_pos rfl, hsc] at hrow
  obtain ⟨A, cap, rfl, hi, _⟩ := ints_of_own hrow
  have hi2 := hi.grow ((Grow.refl w1).alloc (.cells (([1, 0] : List Int).map (Value.int .i64)).toArray 3))
  have hI : Hid (Calls Try.prog 19 #[.slice A 2 cap, .slice (some ⟨w1.heap.size, 0, none⟩) 2 2] (w1.alloc (.cells #[.int .i64 1, .int .i64 0] 3)) (EqP (w1.alloc (.cells #[.int .i64 1, .int .i64 0] 3)) true)) := ints_any (c := cap) (d := 2) hi2 (ints_lit w1 [1, 0]) (by simp)
  have H1 := Lib.hid hg
  clear hrow hi hi2 hg HS hsc
  rw [show ([1, 0] : List Int).length = 2 from rfl]
  go_wp2_with (go_at_call 19; refine hI.out.mono ?_; rintro e w' ⟨rfl, hg⟩; have H2 := Lib.hid hg; clear hg)
  exact HR.out _ _ ⟨rfl, ((((Grow.refl w).alloc _).alloc _).trans H1.out).trans (((Grow.refl w1).alloc _).trans H2.out)⟩
end Go.Proofs.Ytacfchepacfjnaa
