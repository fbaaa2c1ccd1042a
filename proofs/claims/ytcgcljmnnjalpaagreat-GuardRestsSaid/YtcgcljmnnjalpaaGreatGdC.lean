/- The quiet manager of one thread: Waiting when nothing waits, Retire then, Out when one address waits. -/
import Derived.Test.YtcgcljmnnjalpaaGreatGdB
set_option linter.unusedVariables false
set_option linter.unusedSimpArgs false
namespace Go.Proofs.YtcgcljmnnjalpaaGreat
open Go.RowKit Go.Kx
open Go.ChangeMaps (setBlock)
set_option maxRecDepth 100000 in
theorem qWaitingNil {w : World} {M : Nat} {i : Bool} (h : QAt w M i (.slice none 0 0)) : Calls Tryz.prog 78 #[.pointer (some ⟨M, 0, none⟩)] w fun e w' => e = .returned (.slice none 0 0) ∧ w = w' := by
  refine cph fun R HR => ?_
  have HH := Lib.hid (qHas h)
  have k5 := blk_cell h 5
  simp only [List.getElem?_toArray, List.getElem?_cons_zero, List.getElem?_cons_succ] at k5
  clear h
  go_enter Tryz.func78, Tryz.ntmps78
  go_wp2_with (go_at_call 114; refine HH.out.mono ?_; rintro e w' ⟨rfl, rfl⟩)
  refine wp_loop_rounds 1 ?_
  rw [rounds_succ]
  go_wp2_with fail
  exact HR.out _ _ ⟨rfl, rfl⟩
theorem index_nil (w : World) (x : Int) : Calls Tryz.prog 135 #[.slice none 0 0, .int .i64 x] w fun e w' => e = .returned (.int .i64 (-1)) ∧ w = w' := by
  refine cph fun R HR => ?_
  go_enter Tryz.func135, Tryz.ntmps135
  go_wp2_with fail
  refine wp_loop_rounds 1 ?_
  rw [rounds_succ]
  go_wp2_with fail
  exact HR.out _ _ ⟨rfl, rfl⟩
theorem contains_nil (w : World) (x : Int) : Calls Tryz.prog 106 #[.slice none 0 0, .int .i64 x] w fun e w' => e = .returned (.bool false) ∧ w = w' := by
  refine cph fun R HR => ?_
  go_enter Tryz.func106, Tryz.ntmps106
  go_wp2_with (go_at_call 135; refine (index_nil _ _).mono ?_; rintro e w' ⟨rfl, rfl⟩)
  exact HR.out _ _ ⟨rfl, rfl⟩
theorem wrow_of_own {w : World} {base g cap : Nat} {a : Int} {t : Bool} (h : w.ownsRow base 150 5 (.slice (some ⟨g, 0, none⟩) 1 cap) 1 (wrow a t)) : WRow w g a t := by
  intro j u hu
  have := h.cells (g := g) (by simp [Value.ownBlock]) j u hu
  rw [Addr.add_lit] at this
  simpa using this
theorem own_some {w : World} {base : Nat} {e : TypeId} {sz n : Nat} {v : Value} {xs : List Value} (h : w.ownsRow base e sz v (n + 1) xs) : ∃ g cap, v = .slice (some ⟨g, 0, none⟩) (n + 1) cap := by
  rcases h.2 with ⟨_, hz⟩ | ⟨g, cap, cur, rfl, _⟩
  · cases hz
  · exact ⟨g, cap, rfl⟩
def QRetP (w : World) (M : Nat) (a : Int) (e : Ending) (w' : World) : Prop :=
  ∃ v v', e = .returned (.tuple #[v, .int .i64 0]) ∧ w'.ownsRow w.heap.size 3 1 v 0 [] ∧ QAt w' M true v' ∧ w'.ownsRow w.heap.size 150 5 v' 1 (wrow a true) ∧ Fr (· = M) w w'
set_option maxRecDepth 100000 in
set_option maxHeartbeats 2000000 in
theorem qRetire {w : World} {M : Nat} (h : QAt w M true (.slice none 0 0)) : Calls Tryz.prog 73 #[.pointer (some ⟨M, 0, none⟩), .int .i64 0, .int .i64 100] w (QRetP w M 100) := by
  refine cph fun R HR => ?_
  have HH := Lib.hid (qHas h)
  have HW := Lib.hid (qWaitingNil h)
  have k0 := blk_cell h 1
  have k2 := blk_cell h 2
  have k3 := blk_cell h 3
  have k4 := blk_cell h 4
  have k5 := blk_cell h 5
  have f5 := blk_free h 5
  simp only [List.getElem?_toArray, List.getElem?_cons_zero, List.getElem?_cons_succ] at k0 k2 k3 k4 k5
  have hM := blk_lt h
  have H := Lib.hid h
  clear h
  obtain ⟨i1, hi, hz0, hz1, hz2⟩ := info_parts infoW
  have HJ := Lib.hid (And.intro hi (And.intro hz0 (And.intro hz1 hz2)))
  clear hi hz0 hz1 hz2
  go_enter Tryz.func73, Tryz.ntmps73
  go_wp2_with (first | (go_at_call 114; refine HH.out.mono ?_; rintro e w' ⟨rfl, rfl⟩) | (go_at_call 78; refine HW.out.mono ?_; rintro e w' ⟨rfl, rfl⟩) | (go_at_call 106; refine (contains_nil _ _).mono ?_; rintro e w' ⟨rfl, rfl⟩))
  go_region_law ((refine step_append_own rfl (.tmp 24) (.tmp 31) 134 rfl w.heap.size 150 i1 (.agg #[.int .i64 0, .bool false, .bool false, .bool false, .bool false]) 5 16 Tryz.underlying134 HJ.out.1 HJ.out.2.1 HJ.out.2.2.1 HJ.out.2.2.2 rfl (by decide) _ 0 [] rfl (World.ownsRow_nil _ _ _ _) ⟨w.heap.size, 0, none⟩ 1 1 (wrow 100 true) rfl rfl (cells_new w.drew (wrow 100 true) 150) (by simp [Value.oneCell', wrow]) (by unfold maxLen; omega) (by omega) (by simp) ?_); intro v1 w3 hown hgrow _ hat; obtain ⟨g, cap, rfl⟩ := own_some hown; have hq3 : QAt w3 M true (.slice none 0 0) := (((Grow.refl w).drew).alloc _ |>.grown hgrow (fun j e => by cases e)).at_ H.out; have k5' := blk_cell hq3 5; have f5' := blk_free hq3 5; simp only [List.getElem?_toArray, List.getElem?_cons_zero, List.getElem?_cons_succ] at k5'; have H8 := Lib.hid (And.intro hq3 (And.intro hown hgrow)); clear hq3 hown hgrow hat)
  all_goals
    have hO := H8.out.2.1.kept (grownBy_set w3 M 5 (.slice (some ⟨g, 0, none⟩) 1 cap)) (.inr fun e => by have := (H8.out.2.1.lt M e).1; omega)
    have HOV := Lib.hid (qOver (i := true) (t := true) (a := 100) (blk_set H8.out.1 5 _) (wrow_of_own hO))
    have hF : Fr (· = M) w (w3.setCell ⟨M, 5, none⟩ (.slice (some ⟨g, 0, none⟩) 1 cap)) := ((((Fr.refl _ w).drew).alloc _).grown H8.out.2.2 (fun k e => by cases e)).setCell _ _ (.inr rfl)
    have HF := Lib.hid hF
    clear hO hF
    go_wp2_with (go_at_call 115; refine HOV.out.mono ?_; rintro e w9 ⟨v, v', rfl, ho1, hq, ho2, hf⟩; have H9 := Lib.hid (And.intro ho1 (And.intro hq (And.intro ho2 (HF.out.trans hf)))); clear ho1 hq ho2 hf)
    exact HR.out _ _ ⟨v, v', rfl, own_base_le H9.out.1 HF.out.size, H9.out.2.1, own_base_le H9.out.2.2.1 HF.out.size, H9.out.2.2.2⟩
end Go.Proofs.YtcgcljmnnjalpaaGreat
