/- The quiet manager of one thread: Out when one address waits; the guard around it: New, In, Retire, Out. -/
import Derived.Test.YtcgcljmnnjalpaaGreatGdC
set_option linter.unusedVariables false
set_option linter.unusedSimpArgs false
namespace Go.Proofs.YtcgcljmnnjalpaaGreat
open Go.RowKit Go.Kx
open Go.ChangeMaps (setBlock)
def QOutP (w : World) (M g : Nat) (e : Ending) (w' : World) : Prop :=
  ∃ v v', e = .returned (.tuple #[v, .int .i64 0]) ∧ w'.ownsRow w.heap.size 3 1 v 1 [.int .i64 100] ∧ QAt w' M false v' ∧ Fr (fun k => k = M ∨ k = g) w w'
set_option maxRecDepth 100000 in
set_option maxHeartbeats 2000000 in
theorem qOut {w : World} {M g cap base : Nat} (h : QAt w M true (.slice (some ⟨g, 0, none⟩) 1 cap)) (ho : w.ownsRow base 150 5 (.slice (some ⟨g, 0, none⟩) 1 cap) 1 (wrow 100 true)) (hMb : M < base) :
    Calls Tryz.prog 72 #[.pointer (some ⟨M, 0, none⟩), .int .i64 0] w (QOutP w M g) := by
  refine cph fun R HR => ?_
  have hgM : g ≠ M := by have := (ho.lt g (by simp [Value.ownBlock])).1; omega
  have hMg : M ≠ g := fun e => hgM e.symm
  have HH := Lib.hid (qHas h)
  have k1 := blk_cell h 1
  have k5 := blk_cell h 5
  have f1 := blk_free h 1
  simp only [List.getElem?_toArray, List.getElem?_cons_zero, List.getElem?_cons_succ] at k1 k5
  have g1 := (wrow_of_own ho).parts.2.1
  have e1 := ho.frozenAt 1
  have hQ2 : QAt ((w.setCell ⟨M, 1, none⟩ (.bool false)).setCell ⟨g, 1, none⟩ (.bool false)) M false (.slice (some ⟨g, 0, none⟩) 1 cap) := (blk_set_other (a := ⟨g, 1, none⟩) hMg _).trans (blk_set h 1 _)
  have hO2 := ((ho.kept (grownBy_set w M 1 (.bool false)) (.inr (by simp [Value.ownBlock]; exact hgM))).stored 1 (.bool false)).1
  have HOV := Lib.hid (qOver (i := false) (t := false) (a := 100) hQ2 (wrow_of_own hO2))
  have HF : Hid (Fr (fun k => k = M ∨ k = g) w ((w.setCell ⟨M, 1, none⟩ (.bool false)).setCell ⟨g, 1, none⟩ (.bool false))) := ((Fr.refl _ w).setCell _ _ (.inr (.inl rfl))).setCell _ _ (.inr (.inr rfl))
  clear h ho hQ2 hO2
  go_enter Tryz.func72, Tryz.ntmps72
  go_wp2_with (go_at_call 114; refine HH.out.mono ?_; rintro e w' ⟨rfl, rfl⟩)
  refine wp_loop_rounds 2 ?_
  rw [rounds_succ]
  go_wp2_with fail
  rw [rounds_succ]
  go_wp2_with (go_at_call 115; refine HOV.out.mono ?_; rintro e w9 ⟨v, v', rfl, ho1, hq, ho2, hf⟩; have H9 := Lib.hid (And.intro ho1 (And.intro hq (HF.out.trans (hf.mono fun i _ hi => .inl hi)))); clear ho1 hq ho2 hf)
  exact HR.out _ _ ⟨v, v', rfl, own_base_le H9.out.1 HF.out.size, H9.out.2.1, H9.out.2.2⟩
/-- A guard of the kind quiet in memory, its manager at M. -/
def GAt (w : World) (G M : Nat) : Prop := w.heap[G]? = some (.cells #[.int .i64 5, .iface 103 (.pointer (some ⟨M, 0, none⟩))] 66 (0, 0))
def GNewP (w : World) (e : Ending) (w' : World) : Prop := ∃ G M, e = .returned (.tuple #[.pointer (some ⟨G, 0, none⟩), .int .i64 0]) ∧ GAt w' G M ∧ QAt w' M false (.slice none 0 0) ∧ Grow w w' ∧ w.heap.size ≤ M ∧ w.heap.size ≤ G ∧ G ≠ M
set_option maxRecDepth 100000 in
set_option maxHeartbeats 2000000 in
theorem gNew (w : World) : Calls Tryz.prog 18 #[.int .i64 5, .int .i64 1] w (GNewP w) := by
  refine cph fun R HR => ?_
  have HN := Lib.hid (qNew w)
  go_enter Tryz.func18, Tryz.ntmps18
  go_wp2_with (go_at_call 52; refine HN.out.mono ?_; rintro e w1 ⟨rfl, hq, hg, hs⟩; have H1 := Lib.hid (And.intro hq (And.intro hg hs)); clear hq hg hs)
  exact HR.out _ _ ⟨w1.heap.size, w.heap.size, rfl, blk_new _ _, H1.out.1.grow ((Grow.refl _).alloc _), H1.out.2.1.alloc _, Nat.le_refl _, H1.out.2.1.size, by have := H1.out.2.2; omega⟩
@[go_sem] theorem mIn (w : World) (p : Addr) : Sem.run Tryz.prog (method 299 103 (.pointer (some p)) "In") w = .ok (71, .pointer (some p)) w := by kernel_rfl
@[go_sem] theorem mRetire (w : World) (p : Addr) : Sem.run Tryz.prog (method 299 103 (.pointer (some p)) "Retire") w = .ok (73, .pointer (some p)) w := by kernel_rfl
@[go_sem] theorem mOut (w : World) (p : Addr) : Sem.run Tryz.prog (method 299 103 (.pointer (some p)) "Out") w = .ok (72, .pointer (some p)) w := by kernel_rfl
theorem gThere {w : World} {G M : Nat} (h : GAt w G M) : Calls Tryz.prog 79 #[.pointer (some ⟨G, 0, none⟩)] w fun e w' => e = .returned (.bool true) ∧ w = w' := by
  refine cph fun R HR => ?_
  have k1 := blk_cell h 1
  simp only [List.getElem?_toArray, List.getElem?_cons_zero, List.getElem?_cons_succ] at k1
  clear h
  go_enter Tryz.func79, Tryz.ntmps79
  go_wp2_with fail
  exact HR.out _ _ ⟨rfl, rfl⟩
set_option maxRecDepth 100000 in
set_option maxHeartbeats 2000000 in
theorem gIn {w : World} {G M : Nat} {v : Value} (h : GAt w G M) (hq : QAt w M false v) : Calls Tryz.prog 23 #[.pointer (some ⟨G, 0, none⟩), .int .i64 0] w (QInP w M v) := by
  refine cph fun R HR => ?_
  have k1 := blk_cell h 1
  simp only [List.getElem?_toArray, List.getElem?_cons_zero, List.getElem?_cons_succ] at k1
  have HT := Lib.hid (gThere h)
  have HI := Lib.hid (qIn hq)
  clear h hq
  go_enter Tryz.func23, Tryz.ntmps23
  go_wp2_with (first | (go_at_call 79; refine HT.out.mono ?_; rintro e w' ⟨rfl, rfl⟩) | (go_at_call 71; refine HI.out.mono ?_; rintro e w' ⟨rfl, hq, hf⟩; have H1 := Lib.hid (And.intro hq hf); clear hq hf))
  exact HR.out _ _ ⟨rfl, H1.out⟩
end Go.Proofs.YtcgcljmnnjalpaaGreat
