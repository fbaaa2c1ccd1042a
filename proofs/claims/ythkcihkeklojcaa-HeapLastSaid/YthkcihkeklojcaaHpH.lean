/- The contract of the heap's New. -/
import Derived.Test.YthkcihkeklojcaaHpG
import Derived.Laws.MakeOwn
set_option linter.unusedVariables false
set_option linter.unusedSimpArgs false
namespace Go.Proofs.Ythkcihkeklojcaa
open Go.RowKit Go.Kx
theorem info_int : (Try.prog.info? 3).map (fun i => (i.zero, i.size, i.bytes)) = some (some (.int .i64 0), 1, 8) := by kernel_rfl
theorem madeZero (n : Nat) : madeCells #[Value.int .i64 0] n = ints (List.replicate n 0) := by
  unfold madeCells ints
  apply Array.ext
  · simp
  · intro i h1 h2
    simp [Nat.mod_one]
theorem make1100 (w : World) : (Instr.makeSlice 22 (.int .i64 1100) (.int .i64 1100)).run Try.prog w = .ok (.slice (some ⟨w.heap.size, 0, none⟩) 1100 1100) (w.alloc (.cells (ints (List.replicate 1100 0)) 3)) := by
  obtain ⟨i0, hi, hz0, hz1, hz2⟩ := info_parts info_int
  have h := run_makeSlice (P := Try.prog) w 22 3 i0 (.int .i64 0) Try.underlying22 hi hz0 .i64 .i64 1100 1100 (by decide) (by decide) (by rw [hz1]; decide) (by rw [hz2]; decide) (by decide)
  rw [hz1] at h
  rw [h, ← madeZero]
  rfl
def zero1100 : List Int := List.replicate 1100 0
theorem zero1100_length : zero1100.length = 1100 := List.length_replicate
def HS.new (n : Int) : HS := ⟨zero1100, zero1100, n, [], [], 100⟩
theorem good_new {n : Int} (h0 : 0 ≤ n) (h1 : n ≤ 16) : Good (HS.new n) := ⟨zero1100_length, zero1100_length, h0, h1, by show (100 : Int) ≤ 100; omega, by show (100 : Int) ≤ 1100; omega, fun p hp => absurd hp List.not_mem_nil, fun p hp => absurd hp List.not_mem_nil⟩
theorem new_at {w w' : World} {n : Int} (h0 : 0 ≤ n) (h1 : n ≤ 16) {W V M b : Nat} (hW : w'.heap[W]? = some (.cells (ints zero1100) 3 (0, 0))) (hV : w'.heap[V]? = some (.cells (ints zero1100) 3 (0, 0))) (hM : w'.heap[M]? = some (.map #[] 0))
    (hb : w'.heap[b]? = some (.cells #[.slice (some ⟨W, 0, none⟩) 1100 1100, .slice (some ⟨V, 0, none⟩) 1100 1100, .int .i64 n, .map (some M), .slice none 0 0, .int .i64 100] 46 (0, 0))) (hne : W ≠ V) (hl : w.heap.size ≤ b ∧ w.heap.size ≤ W ∧ w.heap.size ≤ V ∧ w.heap.size ≤ M) :
    HeapAt w' w.heap.size ⟨b, W, V, M, .slice none 0 0⟩ (HS.new n) :=
  ⟨hb, hW, hV, ⟨#[], 0, hM, rfl, by simp [Go.MapKept.Stamped]⟩, World.ownsRow_nil _ _ _ _, hne, hl, good_new h0 h1⟩
theorem blk_4 (w : World) (A B C D : Obj) : ((((w.alloc A).alloc B).alloc C).alloc D).heap[w.heap.size]? = some A ∧ ((((w.alloc A).alloc B).alloc C).alloc D).heap[w.heap.size + 1]? = some B ∧ ((((w.alloc A).alloc B).alloc C).alloc D).heap[w.heap.size + 1 + 1]? = some C ∧ ((((w.alloc A).alloc B).alloc C).alloc D).heap[w.heap.size + 1 + 1 + 1]? = some D := by
  have h2 := blk_new (w.alloc A) B
  have h3 := blk_new ((w.alloc A).alloc B) C
  have h4 := blk_new (((w.alloc A).alloc B).alloc C) D
  simp only [size_alloc] at h2 h3 h4
  exact ⟨blk_alloc' _ (blk_alloc' _ (blk_alloc' _ (blk_new w A))), blk_alloc' _ (blk_alloc' _ h2), blk_alloc' _ h3, h4⟩
def NewP (w : World) (n : Int) (e : Ending) (w' : World) : Prop := ∃ q, e = .returned (.tuple #[.pointer (some ⟨q.b, 0, none⟩), .int .i64 0]) ∧ HeapAt w' w.heap.size q (HS.new n) ∧ Grow w w' ∧ q.fv = .slice none 0 0
set_option maxHeartbeats 4000000 in
theorem new_any {w : World} (n : Int) (h0 : 0 ≤ n) (h1 : n ≤ 16) : Calls Try.prog 9 #[.int .i64 n] w (NewP w n) := by
  refine cph fun R HR => ?_
  have hmk := make1100
  have hmm := @run_makeMap Try.prog
  obtain ⟨Z, hZ⟩ : ∃ Z, Z = ints zero1100 := ⟨_, rfl⟩
  rw [show List.replicate 1100 (0 : Int) = zero1100 from rfl] at hmk
  rw [← hZ] at hmk
  have HZ := Lib.hid hZ
  clear hZ
  go_enter Try.func9, Try.ntmps9
  go_wp2_with fail
  go_region
  all_goals go_wp2_with fail
  all_goals have hz := HZ.out
  all_goals subst hz
  all_goals first
    | (refine HR.out _ _ ⟨⟨w.heap.size + 1 + 1 + 1, w.heap.size, (w.heap.size + 1), (w.heap.size + 1 + 1), .slice none 0 0⟩, rfl, new_at h0 h1 ?_ ?_ ?_ ?_ ?_ ?_, ((((((Grow.refl w).alloc _).alloc _).alloc _).alloc _).drew), rfl⟩; exact (blk_4 w _ _ _ _).1; exact (blk_4 w _ _ _ _).2.1; exact (blk_4 w _ _ _ _).2.2.1; exact (blk_4 w _ _ _ _).2.2.2; omega; omega)
    | (refine HR.out _ _ ⟨⟨w.heap.size + 1 + 1 + 1, w.heap.size, (w.heap.size + 1 + 1), (w.heap.size + 1), .slice none 0 0⟩, rfl, new_at h0 h1 ?_ ?_ ?_ ?_ ?_ ?_, ((((((Grow.refl w).alloc _).alloc _).alloc _).alloc _).drew), rfl⟩; exact (blk_4 w _ _ _ _).1; exact (blk_4 w _ _ _ _).2.2.1; exact (blk_4 w _ _ _ _).2.1; exact (blk_4 w _ _ _ _).2.2.2; omega; omega)
    | (refine HR.out _ _ ⟨⟨w.heap.size + 1 + 1 + 1, (w.heap.size + 1), w.heap.size, (w.heap.size + 1 + 1), .slice none 0 0⟩, rfl, new_at h0 h1 ?_ ?_ ?_ ?_ ?_ ?_, ((((((Grow.refl w).alloc _).alloc _).alloc _).alloc _).drew), rfl⟩; exact (blk_4 w _ _ _ _).2.1; exact (blk_4 w _ _ _ _).1; exact (blk_4 w _ _ _ _).2.2.1; exact (blk_4 w _ _ _ _).2.2.2; omega; omega)
    | (refine HR.out _ _ ⟨⟨w.heap.size + 1 + 1 + 1, (w.heap.size + 1), (w.heap.size + 1 + 1), w.heap.size, .slice none 0 0⟩, rfl, new_at h0 h1 ?_ ?_ ?_ ?_ ?_ ?_, ((((((Grow.refl w).alloc _).alloc _).alloc _).alloc _).drew), rfl⟩; exact (blk_4 w _ _ _ _).2.1; exact (blk_4 w _ _ _ _).2.2.1; exact (blk_4 w _ _ _ _).1; exact (blk_4 w _ _ _ _).2.2.2; omega; omega)
    | (refine HR.out _ _ ⟨⟨w.heap.size + 1 + 1 + 1, (w.heap.size + 1 + 1), w.heap.size, (w.heap.size + 1), .slice none 0 0⟩, rfl, new_at h0 h1 ?_ ?_ ?_ ?_ ?_ ?_, ((((((Grow.refl w).alloc _).alloc _).alloc _).alloc _).drew), rfl⟩; exact (blk_4 w _ _ _ _).2.2.1; exact (blk_4 w _ _ _ _).1; exact (blk_4 w _ _ _ _).2.1; exact (blk_4 w _ _ _ _).2.2.2; omega; omega)
    | (refine HR.out _ _ ⟨⟨w.heap.size + 1 + 1 + 1, (w.heap.size + 1 + 1), (w.heap.size + 1), w.heap.size, .slice none 0 0⟩, rfl, new_at h0 h1 ?_ ?_ ?_ ?_ ?_ ?_, ((((((Grow.refl w).alloc _).alloc _).alloc _).alloc _).drew), rfl⟩; exact (blk_4 w _ _ _ _).2.2.1; exact (blk_4 w _ _ _ _).2.1; exact (blk_4 w _ _ _ _).1; exact (blk_4 w _ _ _ _).2.2.2; omega; omega)
end Go.Proofs.Ythkcihkeklojcaa
