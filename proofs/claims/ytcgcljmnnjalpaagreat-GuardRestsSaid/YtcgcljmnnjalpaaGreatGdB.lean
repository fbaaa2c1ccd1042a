/- The quiet manager of one thread: what over does with one address that waits, or with none. -/
import Derived.Test.YtcgcljmnnjalpaaGreatGdA
import Derived.LoopN
set_option linter.unusedVariables false
set_option linter.unusedSimpArgs false
namespace Go.Proofs.YtcgcljmnnjalpaaGreat
open Go.RowKit Go.Kx
open Go.ChangeMaps (setBlock)
theorem info3x : (Tryz.prog.info? 3).map (fun i => (i.zero, i.size, i.bytes)) = some (some (.int .i64 0), 1, 8) := by kernel_rfl
theorem infoW : (Tryz.prog.info? 150).map (fun i => (i.zero, i.size, i.bytes)) = some (some (.agg #[.int .i64 0, .bool false, .bool false, .bool false, .bool false]), 5, 16) := by kernel_rfl
def wrow (a : Int) (t : Bool) : List Value := [.int .i64 a, .bool t, .bool false, .bool false, .bool false]
/-- One address that waits, in memory. -/
def WRow (w : World) (b : Nat) (a : Int) (t : Bool) : Prop := ∀ j u, (wrow a t)[j]? = some u → w.cell? ⟨b, j, none⟩ = some u
theorem WRow.parts {w : World} {b : Nat} {a : Int} {t : Bool} (h : WRow w b a t) : w.cell? ⟨b, 0, none⟩ = some (.int .i64 a) ∧ w.cell? ⟨b, 1, none⟩ = some (.bool t) ∧ w.cell? ⟨b, 2, none⟩ = some (.bool false) ∧ w.cell? ⟨b, 3, none⟩ = some (.bool false) ∧ w.cell? ⟨b, 4, none⟩ = some (.bool false) :=
  ⟨h 0 _ rfl, h 1 _ rfl, h 2 _ rfl, h 3 _ rfl, h 4 _ rfl⟩
def OverP (w : World) (M : Nat) (i : Bool) (a : Int) (t : Bool) (e : Ending) (w' : World) : Prop :=
  ∃ v v', e = .returned v ∧ w'.ownsRow w.heap.size 3 1 v (if t then 0 else 1) (if t then [] else [.int .i64 a]) ∧ QAt w' M i v' ∧ w'.ownsRow w.heap.size 150 5 v' (if t then 1 else 0) (if t then wrow a t else []) ∧ Fr (· = M) w w'
theorem grownBy_set (w : World) (M j : Nat) (v : Value) : w.grownBy (w.setCell ⟨M, j, none⟩ v) (some M) :=
  ⟨rfl, rfl, rfl, by rw [size_set]; exact Nat.le_refl _, fun k _ hk => blk_set_other (a := ⟨M, j, none⟩) (fun e => hk (by rw [e])) _⟩
set_option maxRecDepth 100000 in
set_option maxHeartbeats 2000000 in
theorem qOver {w : World} {M b c : Nat} {i t : Bool} {a : Int} (h : QAt w M i (.slice (some ⟨b, 0, none⟩) 1 c)) (hw : WRow w b a t) :
    Calls Tryz.prog 115 #[.pointer (some ⟨M, 0, none⟩)] w (OverP w M i a t) := by
  refine cph fun R HR => ?_
  have k5 := blk_cell h 5
  have f5 := blk_free h 5
  simp only [List.getElem?_toArray, List.getElem?_cons_zero, List.getElem?_cons_succ] at k5
  obtain ⟨c0, c1, c2, c3, c4⟩ := hw.parts
  have hM := blk_lt h
  have H := Lib.hid h
  clear h hw
  obtain ⟨i0, hi, hz0, hz1, hz2⟩ := info_parts info3x
  have HI := Lib.hid (And.intro hi (And.intro hz0 (And.intro hz1 hz2)))
  clear hi hz0 hz1 hz2
  obtain ⟨i1, hi, hz0, hz1, hz2⟩ := info_parts infoW
  have HJ := Lib.hid (And.intro hi (And.intro hz0 (And.intro hz1 hz2)))
  clear hi hz0 hz1 hz2
  have hnil3 := Lib.hid (fun W : World => World.ownsRow_nil W w.heap.size 3 1)
  have hnilW := Lib.hid (fun W : World => World.ownsRow_nil W w.heap.size 150 5)
  cases t
  · go_enter Tryz.func115, Tryz.ntmps115
    go_wp2_with fail
    refine wp_loop_rounds 2 ?_
    rw [rounds_succ]
    go_wp2_with (at_builtin; refine wpList_append_own_at _ rfl (.tmp 20) (.tmp 23) 34 rfl w.heap.size 3 i0 (.int .i64 0) 1 8 Tryz.underlying34 HI.out.1 HI.out.2.1 HI.out.2.2.1 HI.out.2.2.2 rfl (by decide) _ 0 [] rfl (World.ownsRow_nil _ _ _ _) ⟨w.heap.size + 1, 0, none⟩ 1 1 [.int .i64 a] rfl rfl ?c2 (by simp [Value.oneCell']) (by unfold maxLen; omega) (by omega) (by simp; omega) ?_)
    case c2 =>
      have := cell_one_new (w.alloc (Obj.cells #[.int .i64 a, .bool false, .bool false, .bool false, .bool false] 150)) (.int .i64 a) 3
      rw [size_alloc] at this
      exact this
    intro v1 w3 hown hgrow _ hat
    have H7 := Lib.hid (And.intro hown hgrow)
    clear hown hgrow hat
    go_wp2_with fail
    rw [rounds_succ]
    have hq3 : QAt w3 M i (.slice (some ⟨b, 0, none⟩) 1 c) := (((Grow.refl w).alloc _).alloc _ |>.grown H7.out.2 (fun j e => by cases e)).at_ H.out
    have k5' := blk_cell hq3 5
    have f5' := blk_free hq3 5
    simp only [List.getElem?_toArray, List.getElem?_cons_zero, List.getElem?_cons_succ] at k5'
    have H8 := Lib.hid hq3
    clear hq3
    go_wp2_with fail
    refine HR.out _ _ ⟨v1, .slice none 0 0, rfl, ?_, blk_set H8.out 5 _, World.ownsRow_nil _ _ _ _, ?_⟩
    · exact H7.out.1.kept (grownBy_set w3 M 5 _) (.inr fun e => by have := (H7.out.1.lt M e).1; omega)
    · exact (((((Fr.refl _ w).alloc _).alloc _).grown H7.out.2 (fun k e => by cases e)).setCell _ _ (.inr rfl))
  · go_enter Tryz.func115, Tryz.ntmps115
    go_wp2_with fail
    refine wp_loop_rounds 2 ?_
    rw [rounds_succ]
    go_wp2_with (at_builtin; refine wpList_append_own_at _ rfl (.tmp 25) (.tmp 27) 134 rfl w.heap.size 150 i1 (.agg #[.int .i64 0, .bool false, .bool false, .bool false, .bool false]) 5 16 Tryz.underlying134 HJ.out.1 HJ.out.2.1 HJ.out.2.2.1 HJ.out.2.2.2 rfl (by decide) _ 0 [] rfl (World.ownsRow_nil _ _ _ _) ⟨w.heap.size + 1, 0, none⟩ 1 1 (wrow a true) rfl rfl ?c2 (by simp [Value.oneCell', wrow]) (by unfold maxLen; omega) (by omega) (by simp; omega) ?_)
    case c2 =>
      have := cells_new (w.alloc (Obj.cells #[.int .i64 a, .bool true, .bool false, .bool false, .bool false] 150)) (wrow a true) 150
      rw [size_alloc] at this
      exact this
    intro v1 w3 hown hgrow _ hat
    rcases hown.2 with ⟨_, hz⟩ | ⟨g, cap, cur, rfl, _⟩
    · cases hz
    have H7 := Lib.hid (And.intro hown hgrow)
    clear hown hgrow hat
    go_wp2_with fail
    rw [rounds_succ]
    have hq3 : QAt w3 M i (.slice (some ⟨b, 0, none⟩) 1 c) := (((Grow.refl w).alloc _).alloc _ |>.grown H7.out.2 (fun j e => by cases e)).at_ H.out
    have k5' := blk_cell hq3 5
    have f5' := blk_free hq3 5
    simp only [List.getElem?_toArray, List.getElem?_cons_zero, List.getElem?_cons_succ] at k5'
    have H8 := Lib.hid hq3
    clear hq3
    go_wp2_with fail
    refine HR.out _ _ ⟨.slice none 0 0, .slice (some ⟨g, 0, none⟩) 1 cap, rfl, World.ownsRow_nil _ _ _ _, blk_set H8.out 5 _, ?_, ?_⟩
    · exact H7.out.1.kept (grownBy_set w3 M 5 _) (.inr fun e => by have := (H7.out.1.lt M e).1; omega)
    · exact (((((Fr.refl _ w).alloc _).alloc _).grown H7.out.2 (fun k e => by cases e)).setCell _ _ (.inr rfl))
end Go.Proofs.YtcgcljmnnjalpaaGreat
