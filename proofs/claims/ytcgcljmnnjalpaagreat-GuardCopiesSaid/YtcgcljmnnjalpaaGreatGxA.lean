/- The quiet manager of one thread, as the statements' awake runs it: New, In, Retire, Out at the states that come about. The quiet manager of one thread: what over does with one address that waits, or with none. The quiet manager of one thread: Waiting when nothing waits, Retire then, Out when one address waits. The quiet manager of one thread: Out when one address waits; the guard around it: New, In, Retire, Out. The guard around the quiet manager of one thread: Retire, Out; the deeds that awake does. Play of the three deeds that awake does. The statements' awake answers true, in whatever memory. -/
import Derived.Test.YtcgcljmnnjalpaaGreatProg
import Derived.Test.YtcgcljmnnjalpaaGreatKxD
import Derived.Maps.AppendAt
import Derived.Deep.DeepCutAuto
import Derived.BigQuiet
import Derived.StillTailTactics
import Derived.Deep.RegionLaw
import Derived.LoopN
set_option linter.unusedVariables false
set_option linter.unusedSimpArgs false
namespace Go.Proofs.YtcgcljmnnjalpaaGreat
open Go.RowKit Go.Kx
open Go.ChangeMaps (setBlock)
/-- A quiet manager of one thread in memory: whether thread 0 is inside, and what waits. -/
def QAt (w : World) (M : Nat) (inside : Bool) (waits : Value) : Prop := w.heap[M]? = some (.cells #[.int .i64 1, .bool inside, .bool false, .bool false, .bool false, waits] 136 (0, 0))
def QNewP (w : World) (e : Ending) (w' : World) : Prop := e = .returned (.tuple #[.pointer (some ⟨w.heap.size, 0, none⟩), .int .i64 0]) ∧ QAt w' w.heap.size false (.slice none 0 0) ∧ Grow w w' ∧ w'.heap.size = w.heap.size + 1
set_option maxRecDepth 100000 in
set_option maxHeartbeats 1000000 in
theorem qNew (w : World) : Calls Tryz.prog 52 #[.int .i64 1] w (QNewP w) := by
  refine cph fun R HR => ?_
  go_enter Tryz.func52, Tryz.ntmps52
  go_wp2_with fail
  refine HR.out _ _ ⟨rfl, ?_, (Grow.refl _).alloc _, by simp⟩
  exact blk_new _ _
theorem QAt.grow {w w' : World} {M : Nat} {i : Bool} {v : Value} (h : QAt w M i v) (hg : Grow w w') : QAt w' M i v := hg.at_ h
theorem qHas {w : World} {M : Nat} {i : Bool} {v : Value} (h : QAt w M i v) : Calls Tryz.prog 114 #[.pointer (some ⟨M, 0, none⟩), .int .i64 0] w fun e w' => e = .returned (.bool true) ∧ w = w' := by
  refine cph fun R HR => ?_
  have k0 := blk_cell h 0
  simp only [List.getElem?_toArray, List.getElem?_cons_zero, List.getElem?_cons_succ] at k0
  clear h
  go_enter Tryz.func114, Tryz.ntmps114
  go_wp2_with fail
  exact HR.out _ _ ⟨rfl, rfl⟩
def QInP (w : World) (M : Nat) (v : Value) (e : Ending) (w' : World) : Prop := e = .returned (.tuple #[.slice none 0 0, .int .i64 0]) ∧ QAt w' M true v ∧ Fr (· = M) w w'
theorem qIn {w : World} {M : Nat} {v : Value} (h : QAt w M false v) : Calls Tryz.prog 71 #[.pointer (some ⟨M, 0, none⟩), .int .i64 0] w (QInP w M v) := by
  refine cph fun R HR => ?_
  have k1 := blk_cell h 1
  have f1 := blk_free h 1
  simp only [List.getElem?_toArray, List.getElem?_cons_zero, List.getElem?_cons_succ] at k1
  have HH := Lib.hid (qHas h)
  have H := Lib.hid h
  clear h
  go_enter Tryz.func71, Tryz.ntmps71
  go_wp2_with (go_at_call 114; refine HH.out.mono ?_; rintro e w' ⟨rfl, rfl⟩)
  refine HR.out _ _ ⟨rfl, blk_set H.out 1 _, (Fr.refl _ _).setCell _ _ (.inr rfl)⟩
@[go_sem] theorem eq133 (a b c d a' b' c' d' : Bool) (w : World) : (Op.equalIn 10000 133 (.agg #[.bool a, .bool b, .bool c, .bool d]) (.agg #[.bool a', .bool b', .bool c', .bool d'])).run Tryz.prog w = .ok (a == a' && b == b' && c == c' && d == d') w := by
  have u3 := Tryz.underlying4
  have a3 := Tryz.isAgg4
  have z3 := Tryz.sizeOf4
  rw [show (10000 : Nat) = 9999 + 1 from rfl, Op.equalIn]
  simp only [Sem.run_bind, run_underlying Tryz.underlying133, Result.andThen_ok]
  simp only [Std.Legacy.Range.forIn_eq_forIn_range', Std.Legacy.Range.size, Nat.sub_zero, Nat.add_sub_cancel, Nat.div_one, List.range'_succ, List.range'_zero, List.forIn_cons, List.forIn_nil]
  go_simp
  cases a <;> cases b <;> cases c <;> cases d <;> cases a' <;> cases b' <;> cases c' <;> cases d' <;> rfl
end Go.Proofs.YtcgcljmnnjalpaaGreat
set_option linter.unusedVariables false
set_option linter.unusedSimpArgs false
namespace Go.Proofs.YtcgcljmnnjalpaaGreat
open Go.RowKit Go.Kx
open Go.ChangeMaps (setBlock)
theorem info3x : (Tryz.prog.info? 3).map (fun i => (i.zero, i.size, i.bytes)) = some (some (.int .i64 0), 1, 8) := by kernel_rfl
theorem infoW : (Tryz.prog.info? 150).map (fun i => (i.zero, i.size, i.bytes)) = some (some (.agg #[.int .i64 0, .bool false, .bool false, .bool false, .bool false]), 5, 16) := by kernel_rfl
def wrow (a : Int) (t : Bool) : List Value := [.int .i64 a, .bool t, .bool false, .bool false, .bool false]
/-- One address that waits, in memory. -/
def WRow (w : World) (b : Nat) (a : Int) (t : Bool) : Prop := ∀ j u, (wrow a t)[j]? = some u → w.cell? ⟨b, j, none⟩ = some u
theorem WRow.parts {w : World} {b : Nat} {a : Int} {t : Bool} (h : WRow w b a t) : w.cell? ⟨b, 0, none⟩ = some (.int .i64 a) ∧ w.cell? ⟨b, 1, none⟩ = some (.bool t) ∧ w.cell? ⟨b, 2, none⟩ = some (.bool false) ∧ w.cell? ⟨b, 3, none⟩ = some (.bool false) ∧ w.cell? ⟨b, 4, none⟩ = some (.bool false) :=
  ⟨h 0 _ rfl, h 1 _ rfl, h 2 _ rfl, h 3 _ rfl, h 4 _ rfl⟩
def OverP (w : World) (M : Nat) (i : Bool) (a : Int) (t : Bool) (e : Ending) (w' : World) : Prop :=
  ∃ v v', e = .returned v ∧ w'.ownsRow w.heap.size 3 1 v (if t then 0 else 1) (if t then [] else [.int .i64 a]) ∧ QAt w' M i v' ∧ w'.ownsRow w.heap.size 150 5 v' (if t then 1 else 0) (if t then wrow a t else []) ∧ Fr (· = M) w w'
theorem grownBy_set (w : World) (M j : Nat) (v : Value) : w.grownBy (w.setCell ⟨M, j, none⟩ v) (some M) :=
  ⟨rfl, rfl, rfl, by rw [size_set]; exact Nat.le_refl _, fun k _ hk => blk_set_other (a := ⟨M, j, none⟩) (fun e => hk (by rw [e])) _⟩
set_option maxRecDepth 100000 in
set_option maxHeartbeats 2000000 in
theorem qOver {w : World} {M b c : Nat} {i t : Bool} {a : Int} (h : QAt w M i (.slice (some ⟨b, 0, none⟩) 1 c)) (hw : WRow w b a t) :
    Calls Tryz.prog 115 #[.pointer (some ⟨M, 0, none⟩)] w (OverP w M i a t) := by
  refine cph fun R HR => ?_
  have k5 := blk_cell h 5
  have f5 := blk_free h 5
  simp only [List.getElem?_toArray, List.getElem?_cons_zero, List.getElem?_cons_succ] at k5
  obtain ⟨c0, c1, c2, c3, c4⟩ := hw.parts
  have hM := blk_lt h
  have H := Lib.hid h
  clear h hw
  obtain ⟨i0, hi, hz0, hz1, hz2⟩ := info_parts info3x
  have HI := Lib.hid (And.intro hi (And.intro hz0 (And.intro hz1 hz2)))
  clear hi hz0 hz1 hz2
  obtain ⟨i1, hi, hz0, hz1, hz2⟩ := info_parts infoW
  have HJ := Lib.hid (And.intro hi (And.intro hz0 (And.intro hz1 hz2)))
  clear hi hz0 hz1 hz2
  have hnil3 := Lib.hid (fun W : World => World.ownsRow_nil W w.heap.size 3 1)
  have hnilW := Lib.hid (fun W : World => World.ownsRow_nil W w.heap.size 150 5)
  cases t
  · go_enter Tryz.func115, Tryz.ntmps115
    go_wp2_with fail
    refine wp_loop_rounds 2 ?_
    rw [rounds_succ]
    go_wp2_with (at_builtin; refine wpList_append_own_at _ rfl (.tmp 20) (.tmp 23) 34 rfl w.heap.size 3 i0 (.int .i64 0) 1 8 Tryz.underlying34 HI.out.1 HI.out.2.1 HI.out.2.2.1 HI.out.2.2.2 rfl (by decide) _ 0 [] rfl (World.ownsRow_nil _ _ _ _) ⟨w.heap.size + 1, 0, none⟩ 1 1 [.int .i64 a] rfl rfl ?c2 (by simp [Value.oneCell']) (by unfold maxLen; omega) (by omega) (by simp; omega) ?_)
    case c2 =>
      have := cell_one_new (w.alloc (Obj.cells #[.int .i64 a, .bool false, .bool false, .bool false, .bool false] 150)) (.int .i64 a) 3
      rw [size_alloc] at this
      exact this
    intro v1 w3 hown hgrow _ hat
    have H7 := Lib.hid (And.intro hown hgrow)
    clear hown hgrow hat
    go_wp2_with fail
    rw [rounds_succ]
    have hq3 : QAt w3 M i (.slice (some ⟨b, 0, none⟩) 1 c) := (((Grow.refl w).alloc _).alloc _ |>.grown H7.out.2 (fun j e => by cases e)).at_ H.out
    have k5' := blk_cell hq3 5
    have f5' := blk_free hq3 5
    simp only [List.getElem?_toArray, List.getElem?_cons_zero, List.getElem?_cons_succ] at k5'
    have H8 := Lib.hid hq3
    clear hq3
    go_wp2_with fail
    refine HR.out _ _ ⟨v1, .slice none 0 0, rfl, ?_, blk_set H8.out 5 _, World.ownsRow_nil _ _ _ _, ?_⟩
    · exact H7.out.1.kept (grownBy_set w3 M 5 _) (.inr fun e => by have := (H7.out.1.lt M e).1; omega)
    · exact (((((Fr.refl _ w).alloc _).alloc _).grown H7.out.2 (fun k e => by cases e)).setCell _ _ (.inr rfl))
  · go_enter Tryz.func115, Tryz.ntmps115
    go_wp2_with fail
    refine wp_loop_rounds 2 ?_
    rw [rounds_succ]
    go_wp2_with (at_builtin; refine wpList_append_own_at _ rfl (.tmp 25) (.tmp 27) 134 rfl w.heap.size 150 i1 (.agg #[.int .i64 0, .bool false, .bool false, .bool false, .bool false]) 5 16 Tryz.underlying134 HJ.out.1 HJ.out.2.1 HJ.out.2.2.1 HJ.out.2.2.2 rfl (by decide) _ 0 [] rfl (World.ownsRow_nil _ _ _ _) ⟨w.heap.size + 1, 0, none⟩ 1 1 (wrow a true) rfl rfl ?c2 (by simp [Value.oneCell', wrow]) (by unfold maxLen; omega) (by omega) (by simp; omega) ?_)
    case c2 =>
      have := cells_new (w.alloc (Obj.cells #[.int .i64 a, .bool true, .bool false, .bool false, .bool false] 150)) (wrow a true) 150
      rw [size_alloc] at this
      exact this
    intro v1 w3 hown hgrow _ hat
    rcases hown.2 with ⟨_, hz⟩ | ⟨g, cap, cur, rfl, _⟩
    · cases hz
    have H7 := Lib.hid (And.intro hown hgrow)
    clear hown hgrow hat
    go_wp2_with fail
    rw [rounds_succ]
    have hq3 : QAt w3 M i (.slice (some ⟨b, 0, none⟩) 1 c) := (((Grow.refl w).alloc _).alloc _ |>.grown H7.out.2 (fun j e => by cases e)).at_ H.out
    have k5' := blk_cell hq3 5
    have f5' := blk_free hq3 5
    simp only [List.getElem?_toArray, List.getElem?_cons_zero, List.getElem?_cons_succ] at k5'
    have H8 := Lib.hid hq3
    clear hq3
    go_wp2_with fail
    refine HR.out _ _ ⟨.slice none 0 0, .slice (some ⟨g, 0, none⟩) 1 cap, rfl, World.ownsRow_nil _ _ _ _, blk_set H8.out 5 _, ?_, ?_⟩
    · exact H7.out.1.kept (grownBy_set w3 M 5 _) (.inr fun e => by have := (H7.out.1.lt M e).1; omega)
    · exact (((((Fr.refl _ w).alloc _).alloc _).grown H7.out.2 (fun k e => by cases e)).setCell _ _ (.inr rfl))
end Go.Proofs.YtcgcljmnnjalpaaGreat
set_option linter.unusedVariables false
set_option linter.unusedSimpArgs false
namespace Go.Proofs.YtcgcljmnnjalpaaGreat
open Go.RowKit Go.Kx
open Go.ChangeMaps (setBlock)
set_option maxRecDepth 100000 in
theorem qWaitingNil {w : World} {M : Nat} {i : Bool} (h : QAt w M i (.slice none 0 0)) : Calls Tryz.prog 78 #[.pointer (some ⟨M, 0, none⟩)] w fun e w' => e = .returned (.slice none 0 0) ∧ w = w' := by
  refine cph fun R HR => ?_
  have HH := Lib.hid (qHas h)
  have k5 := blk_cell h 5
  simp only [List.getElem?_toArray, List.getElem?_cons_zero, List.getElem?_cons_succ] at k5
  clear h
  go_enter Tryz.func78, Tryz.ntmps78
  go_wp2_with (go_at_call 114; refine HH.out.mono ?_; rintro e w' ⟨rfl, rfl⟩)
  refine wp_loop_rounds 1 ?_
  rw [rounds_succ]
  go_wp2_with fail
  exact HR.out _ _ ⟨rfl, rfl⟩
theorem index_nil (w : World) (x : Int) : Calls Tryz.prog 135 #[.slice none 0 0, .int .i64 x] w fun e w' => e = .returned (.int .i64 (-1)) ∧ w = w' := by
  refine cph fun R HR => ?_
  go_enter Tryz.func135, Tryz.ntmps135
  go_wp2_with fail
  refine wp_loop_rounds 1 ?_
  rw [rounds_succ]
  go_wp2_with fail
  exact HR.out _ _ ⟨rfl, rfl⟩
theorem contains_nil (w : World) (x : Int) : Calls Tryz.prog 106 #[.slice none 0 0, .int .i64 x] w fun e w' => e = .returned (.bool false) ∧ w = w' := by
  refine cph fun R HR => ?_
  go_enter Tryz.func106, Tryz.ntmps106
  go_wp2_with (go_at_call 135; refine (index_nil _ _).mono ?_; rintro e w' ⟨rfl, rfl⟩)
  exact HR.out _ _ ⟨rfl, rfl⟩
theorem wrow_of_own {w : World} {base g cap : Nat} {a : Int} {t : Bool} (h : w.ownsRow base 150 5 (.slice (some ⟨g, 0, none⟩) 1 cap) 1 (wrow a t)) : WRow w g a t := by
  intro j u hu
  have := h.cells (g := g) (by simp [Value.ownBlock]) j u hu
  rw [Addr.add_lit] at this
  simpa using this
theorem own_some {w : World} {base : Nat} {e : TypeId} {sz n : Nat} {v : Value} {xs : List Value} (h : w.ownsRow base e sz v (n + 1) xs) : ∃ g cap, v = .slice (some ⟨g, 0, none⟩) (n + 1) cap := by
  rcases h.2 with ⟨_, hz⟩ | ⟨g, cap, cur, rfl, _⟩
  · cases hz
  · exact ⟨g, cap, rfl⟩
def QRetP (w : World) (M : Nat) (a : Int) (e : Ending) (w' : World) : Prop :=
  ∃ v v', e = .returned (.tuple #[v, .int .i64 0]) ∧ w'.ownsRow w.heap.size 3 1 v 0 [] ∧ QAt w' M true v' ∧ w'.ownsRow w.heap.size 150 5 v' 1 (wrow a true) ∧ Fr (· = M) w w'
set_option maxRecDepth 100000 in
set_option maxHeartbeats 2000000 in
theorem qRetire {w : World} {M : Nat} (h : QAt w M true (.slice none 0 0)) : Calls Tryz.prog 73 #[.pointer (some ⟨M, 0, none⟩), .int .i64 0, .int .i64 100] w (QRetP w M 100) := by
  refine cph fun R HR => ?_
  have HH := Lib.hid (qHas h)
  have HW := Lib.hid (qWaitingNil h)
  have k0 := blk_cell h 1
  have k2 := blk_cell h 2
  have k3 := blk_cell h 3
  have k4 := blk_cell h 4
  have k5 := blk_cell h 5
  have f5 := blk_free h 5
  simp only [List.getElem?_toArray, List.getElem?_cons_zero, List.getElem?_cons_succ] at k0 k2 k3 k4 k5
  have hM := blk_lt h
  have H := Lib.hid h
  clear h
  obtain ⟨i1, hi, hz0, hz1, hz2⟩ := info_parts infoW
  have HJ := Lib.hid (And.intro hi (And.intro hz0 (And.intro hz1 hz2)))
  clear hi hz0 hz1 hz2
  go_enter Tryz.func73, Tryz.ntmps73
  go_wp2_with (first | (go_at_call 114; refine HH.out.mono ?_; rintro e w' ⟨rfl, rfl⟩) | (go_at_call 78; refine HW.out.mono ?_; rintro e w' ⟨rfl, rfl⟩) | (go_at_call 106; refine (contains_nil _ _).mono ?_; rintro e w' ⟨rfl, rfl⟩))
  go_region_law ((refine step_append_own rfl (.tmp 24) (.tmp 31) 134 rfl w.heap.size 150 i1 (.agg #[.int .i64 0, .bool false, .bool false, .bool false, .bool false]) 5 16 Tryz.underlying134 HJ.out.1 HJ.out.2.1 HJ.out.2.2.1 HJ.out.2.2.2 rfl (by decide) _ 0 [] rfl (World.ownsRow_nil _ _ _ _) ⟨w.heap.size, 0, none⟩ 1 1 (wrow 100 true) rfl rfl (cells_new w.drew (wrow 100 true) 150) (by simp [Value.oneCell', wrow]) (by unfold maxLen; omega) (by omega) (by simp) ?_); intro v1 w3 hown hgrow _ hat; obtain ⟨g, cap, rfl⟩ := own_some hown; have hq3 : QAt w3 M true (.slice none 0 0) := (((Grow.refl w).drew).alloc _ |>.grown hgrow (fun j e => by cases e)).at_ H.out; have k5' := blk_cell hq3 5; have f5' := blk_free hq3 5; simp only [List.getElem?_toArray, List.getElem?_cons_zero, List.getElem?_cons_succ] at k5'; have H8 := Lib.hid (And.intro hq3 (And.intro hown hgrow)); clear hq3 hown hgrow hat)
  all_goals
    have hO := H8.out.2.1.kept (grownBy_set w3 M 5 (.slice (some ⟨g, 0, none⟩) 1 cap)) (.inr fun e => by have := (H8.out.2.1.lt M e).1; omega)
    have HOV := Lib.hid (qOver (i := true) (t := true) (a := 100) (blk_set H8.out.1 5 _) (wrow_of_own hO))
    have hF : Fr (· = M) w (w3.setCell ⟨M, 5, none⟩ (.slice (some ⟨g, 0, none⟩) 1 cap)) := ((((Fr.refl _ w).drew).alloc _).grown H8.out.2.2 (fun k e => by cases e)).setCell _ _ (.inr rfl)
    have HF := Lib.hid hF
    clear hO hF
    go_wp2_with (go_at_call 115; refine HOV.out.mono ?_; rintro e w9 ⟨v, v', rfl, ho1, hq, ho2, hf⟩; have H9 := Lib.hid (And.intro ho1 (And.intro hq (And.intro ho2 (HF.out.trans hf)))); clear ho1 hq ho2 hf)
    exact HR.out _ _ ⟨v, v', rfl, own_base_le H9.out.1 HF.out.size, H9.out.2.1, own_base_le H9.out.2.2.1 HF.out.size, H9.out.2.2.2⟩
end Go.Proofs.YtcgcljmnnjalpaaGreat
set_option linter.unusedVariables false
set_option linter.unusedSimpArgs false
namespace Go.Proofs.YtcgcljmnnjalpaaGreat
open Go.RowKit Go.Kx
open Go.ChangeMaps (setBlock)
def QOutP (w : World) (M g : Nat) (e : Ending) (w' : World) : Prop :=
  ∃ v v', e = .returned (.tuple #[v, .int .i64 0]) ∧ w'.ownsRow w.heap.size 3 1 v 1 [.int .i64 100] ∧ QAt w' M false v' ∧ Fr (fun k => k = M ∨ k = g) w w'
set_option maxRecDepth 100000 in
set_option maxHeartbeats 2000000 in
theorem qOut {w : World} {M g cap base : Nat} (h : QAt w M true (.slice (some ⟨g, 0, none⟩) 1 cap)) (ho : w.ownsRow base 150 5 (.slice (some ⟨g, 0, none⟩) 1 cap) 1 (wrow 100 true)) (hMb : M < base) :
    Calls Tryz.prog 72 #[.pointer (some ⟨M, 0, none⟩), .int .i64 0] w (QOutP w M g) := by
  refine cph fun R HR => ?_
  have hgM : g ≠ M := by have := (ho.lt g (by simp [Value.ownBlock])).1; omega
  have hMg : M ≠ g := fun e => hgM e.symm
  have HH := Lib.hid (qHas h)
  have k1 := blk_cell h 1
  have k5 := blk_cell h 5
  have f1 := blk_free h 1
  simp only [List.getElem?_toArray, List.getElem?_cons_zero, List.getElem?_cons_succ] at k1 k5
  have g1 := (wrow_of_own ho).parts.2.1
  have e1 := ho.frozenAt 1
  have hQ2 : QAt ((w.setCell ⟨M, 1, none⟩ (.bool false)).setCell ⟨g, 1, none⟩ (.bool false)) M false (.slice (some ⟨g, 0, none⟩) 1 cap) := (blk_set_other (a := ⟨g, 1, none⟩) hMg _).trans (blk_set h 1 _)
  have hO2 := ((ho.kept (grownBy_set w M 1 (.bool false)) (.inr (by simp [Value.ownBlock]; exact hgM))).stored 1 (.bool false)).1
  have HOV := Lib.hid (qOver (i := false) (t := false) (a := 100) hQ2 (wrow_of_own hO2))
  have HF : Hid (Fr (fun k => k = M ∨ k = g) w ((w.setCell ⟨M, 1, none⟩ (.bool false)).setCell ⟨g, 1, none⟩ (.bool false))) := ((Fr.refl _ w).setCell _ _ (.inr (.inl rfl))).setCell _ _ (.inr (.inr rfl))
  clear h ho hQ2 hO2
  go_enter Tryz.func72, Tryz.ntmps72
  go_wp2_with (go_at_call 114; refine HH.out.mono ?_; rintro e w' ⟨rfl, rfl⟩)
  refine wp_loop_rounds 2 ?_
  rw [rounds_succ]
  go_wp2_with fail
  rw [rounds_succ]
  go_wp2_with (go_at_call 115; refine HOV.out.mono ?_; rintro e w9 ⟨v, v', rfl, ho1, hq, ho2, hf⟩; have H9 := Lib.hid (And.intro ho1 (And.intro hq (HF.out.trans (hf.mono fun i _ hi => .inl hi)))); clear ho1 hq ho2 hf)
  exact HR.out _ _ ⟨v, v', rfl, own_base_le H9.out.1 HF.out.size, H9.out.2.1, H9.out.2.2⟩
/-- A guard of the kind quiet in memory, its manager at M. -/
def GAt (w : World) (G M : Nat) : Prop := w.heap[G]? = some (.cells #[.int .i64 5, .iface 103 (.pointer (some ⟨M, 0, none⟩))] 66 (0, 0))
def GNewP (w : World) (e : Ending) (w' : World) : Prop := ∃ G M, e = .returned (.tuple #[.pointer (some ⟨G, 0, none⟩), .int .i64 0]) ∧ GAt w' G M ∧ QAt w' M false (.slice none 0 0) ∧ Grow w w' ∧ w.heap.size ≤ M ∧ w.heap.size ≤ G ∧ G ≠ M
set_option maxRecDepth 100000 in
set_option maxHeartbeats 2000000 in
theorem gNew (w : World) : Calls Tryz.prog 18 #[.int .i64 5, .int .i64 1] w (GNewP w) := by
  refine cph fun R HR => ?_
  have HN := Lib.hid (qNew w)
  go_enter Tryz.func18, Tryz.ntmps18
  go_wp2_with (go_at_call 52; refine HN.out.mono ?_; rintro e w1 ⟨rfl, hq, hg, hs⟩; have H1 := Lib.hid (And.intro hq (And.intro hg hs)); clear hq hg hs)
  exact HR.out _ _ ⟨w1.heap.size, w.heap.size, rfl, blk_new _ _, H1.out.1.grow ((Grow.refl _).alloc _), H1.out.2.1.alloc _, Nat.le_refl _, H1.out.2.1.size, by have := H1.out.2.2; omega⟩
@[go_sem] theorem mIn (w : World) (p : Addr) : Sem.run Tryz.prog (method 299 103 (.pointer (some p)) "In") w = .ok (71, .pointer (some p)) w := by kernel_rfl
@[go_sem] theorem mRetire (w : World) (p : Addr) : Sem.run Tryz.prog (method 299 103 (.pointer (some p)) "Retire") w = .ok (73, .pointer (some p)) w := by kernel_rfl
@[go_sem] theorem mOut (w : World) (p : Addr) : Sem.run Tryz.prog (method 299 103 (.pointer (some p)) "Out") w = .ok (72, .pointer (some p)) w := by kernel_rfl
theorem gThere {w : World} {G M : Nat} (h : GAt w G M) : Calls Tryz.prog 79 #[.pointer (some ⟨G, 0, none⟩)] w fun e w' => e = .returned (.bool true) ∧ w = w' := by
  refine cph fun R HR => ?_
  have k1 := blk_cell h 1
  simp only [List.getElem?_toArray, List.getElem?_cons_zero, List.getElem?_cons_succ] at k1
  clear h
  go_enter Tryz.func79, Tryz.ntmps79
  go_wp2_with fail
  exact HR.out _ _ ⟨rfl, rfl⟩
set_option maxRecDepth 100000 in
set_option maxHeartbeats 2000000 in
theorem gIn {w : World} {G M : Nat} {v : Value} (h : GAt w G M) (hq : QAt w M false v) : Calls Tryz.prog 23 #[.pointer (some ⟨G, 0, none⟩), .int .i64 0] w (QInP w M v) := by
  refine cph fun R HR => ?_
  have k1 := blk_cell h 1
  simp only [List.getElem?_toArray, List.getElem?_cons_zero, List.getElem?_cons_succ] at k1
  have HT := Lib.hid (gThere h)
  have HI := Lib.hid (qIn hq)
  clear h hq
  go_enter Tryz.func23, Tryz.ntmps23
  go_wp2_with (first | (go_at_call 79; refine HT.out.mono ?_; rintro e w' ⟨rfl, rfl⟩) | (go_at_call 71; refine HI.out.mono ?_; rintro e w' ⟨rfl, hq, hf⟩; have H1 := Lib.hid (And.intro hq hf); clear hq hf))
  exact HR.out _ _ ⟨rfl, H1.out⟩
end Go.Proofs.YtcgcljmnnjalpaaGreat
set_option linter.unusedVariables false
set_option linter.unusedSimpArgs false
namespace Go.Proofs.YtcgcljmnnjalpaaGreat
open Go.RowKit Go.Kx
open Go.ChangeMaps (setBlock)
set_option maxRecDepth 100000 in
set_option maxHeartbeats 2000000 in
theorem gRetire {w : World} {G M : Nat} (h : GAt w G M) (hq : QAt w M true (.slice none 0 0)) : Calls Tryz.prog 38 #[.pointer (some ⟨G, 0, none⟩), .int .i64 0, .int .i64 100] w (QRetP w M 100) := by
  refine cph fun R HR => ?_
  have k1 := blk_cell h 1
  simp only [List.getElem?_toArray, List.getElem?_cons_zero, List.getElem?_cons_succ] at k1
  have HT := Lib.hid (gThere h)
  have HI := Lib.hid (qRetire hq)
  clear h hq
  go_enter Tryz.func38, Tryz.ntmps38
  go_wp2_with (first | (go_at_call 79; refine HT.out.mono ?_; rintro e w' ⟨rfl, rfl⟩) | (go_at_call 73; refine HI.out.mono ?_; rintro e w' ⟨v, v', rfl, hr⟩; have H1 := Lib.hid hr; clear hr))
  exact HR.out _ _ ⟨_, _, rfl, H1.out⟩
set_option maxRecDepth 100000 in
set_option maxHeartbeats 2000000 in
theorem gOut {w : World} {G M g cap base : Nat} (h : GAt w G M) (hq : QAt w M true (.slice (some ⟨g, 0, none⟩) 1 cap)) (ho : w.ownsRow base 150 5 (.slice (some ⟨g, 0, none⟩) 1 cap) 1 (wrow 100 true)) (hMb : M < base) :
    Calls Tryz.prog 26 #[.pointer (some ⟨G, 0, none⟩), .int .i64 0] w (QOutP w M g) := by
  refine cph fun R HR => ?_
  have k1 := blk_cell h 1
  simp only [List.getElem?_toArray, List.getElem?_cons_zero, List.getElem?_cons_succ] at k1
  have HT := Lib.hid (gThere h)
  have HI := Lib.hid (qOut hq ho hMb)
  clear h hq ho
  go_enter Tryz.func26, Tryz.ntmps26
  go_wp2_with (first | (go_at_call 79; refine HT.out.mono ?_; rintro e w' ⟨rfl, rfl⟩) | (go_at_call 72; refine HI.out.mono ?_; rintro e w' ⟨v, v', rfl, hr⟩; have H1 := Lib.hid hr; clear hr))
  exact HR.out _ _ ⟨_, _, rfl, H1.out⟩
/-- A deed that In, Retire or Out of the guard does. -/
def D1P (w : World) (M : Nat) (v : Value) (e : Ending) (w' : World) : Prop := e = .returned (.slice none 0 0) ∧ QAt w' M true v ∧ Fr (· = M) w w'
def D2P (w : World) (M : Nat) (e : Ending) (w' : World) : Prop :=
  ∃ v v', e = .returned v ∧ w'.ownsRow w.heap.size 3 1 v 0 [] ∧ QAt w' M true v' ∧ w'.ownsRow w.heap.size 150 5 v' 1 (wrow 100 true) ∧ Fr (· = M) w w'
def D3P (w : World) (M g : Nat) (e : Ending) (w' : World) : Prop :=
  ∃ v v', e = .returned v ∧ w'.ownsRow w.heap.size 3 1 v 1 [.int .i64 100] ∧ QAt w' M false v' ∧ Fr (fun k => k = M ∨ k = g) w w'
set_option maxRecDepth 100000 in
set_option maxHeartbeats 2000000 in
theorem does1 {w : World} {G M : Nat} {v : Value} (h : GAt w G M) (hq : QAt w M false v) : Calls Tryz.prog 40 #[.pointer (some ⟨G, 0, none⟩), .agg #[.int .i64 0, .int .i64 0, .int .i64 0, .int .i64 0]] w (D1P w M v) := by
  refine cph fun R HR => ?_
  have HI := Lib.hid (fun o : Obj => gIn (w := w.alloc o) (h := ((Grow.refl w).alloc o).at_ h) (hq.grow ((Grow.refl w).alloc o)))
  have HF := Lib.hid (fun o : Obj => (Grow.refl w).alloc o)
  clear h hq
  go_enter Tryz.func40, Tryz.ntmps40
  go_wp2_with (go_at_call 23; refine (HI.out _).mono ?_; rintro e w' ⟨rfl, hq, hf⟩; have H1 := Lib.hid (And.intro hq (Fr.then ((Fr.refl (· = M) w).alloc _) hf (fun i _ hs => hs))); clear hq hf)
  exact HR.out _ _ ⟨rfl, H1.out⟩
set_option maxRecDepth 100000 in
set_option maxHeartbeats 2000000 in
theorem does2 {w : World} {G M : Nat} (h : GAt w G M) (hq : QAt w M true (.slice none 0 0)) : Calls Tryz.prog 40 #[.pointer (some ⟨G, 0, none⟩), .agg #[.int .i64 4, .int .i64 0, .int .i64 0, .int .i64 100]] w (D2P w M) := by
  refine cph fun R HR => ?_
  have HI := Lib.hid (fun o : Obj => gRetire (w := w.alloc o) (h := ((Grow.refl w).alloc o).at_ h) (hq.grow ((Grow.refl w).alloc o)))
  clear h hq
  go_enter Tryz.func40, Tryz.ntmps40
  go_wp2_with (go_at_call 38; refine (HI.out _).mono ?_; rintro e w' ⟨v, v', rfl, h1, hq, h2, hf⟩; have H1 := Lib.hid (And.intro (own_base_le h1 (show w.heap.size ≤ _ by rw [size_alloc]; omega)) (And.intro hq (And.intro (own_base_le h2 (show w.heap.size ≤ _ by rw [size_alloc]; omega)) (Fr.then ((Fr.refl (· = M) w).alloc _) hf (fun i _ hs => hs))))); clear h1 h2 hq hf)
  exact HR.out _ _ ⟨_, _, rfl, H1.out⟩
set_option maxRecDepth 100000 in
set_option maxHeartbeats 2000000 in
theorem does3 {w : World} {G M g cap base : Nat} (h : GAt w G M) (hq : QAt w M true (.slice (some ⟨g, 0, none⟩) 1 cap)) (ho : w.ownsRow base 150 5 (.slice (some ⟨g, 0, none⟩) 1 cap) 1 (wrow 100 true)) (hMb : M < base) :
    Calls Tryz.prog 40 #[.pointer (some ⟨G, 0, none⟩), .agg #[.int .i64 1, .int .i64 0, .int .i64 0, .int .i64 0]] w (D3P w M g) := by
  refine cph fun R HR => ?_
  have HI := Lib.hid (fun o : Obj => gOut (w := w.alloc o) (h := ((Grow.refl w).alloc o).at_ h) (hq.grow ((Grow.refl w).alloc o)) (ho.alloc o) hMb)
  clear h hq ho
  go_enter Tryz.func40, Tryz.ntmps40
  go_wp2_with (go_at_call 26; refine (HI.out _).mono ?_; rintro e w' ⟨v, v', rfl, h1, hq, hf⟩; have H1 := Lib.hid (And.intro (own_base_le h1 (show w.heap.size ≤ _ by rw [size_alloc]; omega)) (And.intro hq (Fr.then ((Fr.refl (fun k => k = M ∨ k = g) w).alloc _) hf (fun i _ hs => hs)))); clear h1 hq hf)
  exact HR.out _ _ ⟨_, _, rfl, H1.out⟩
end Go.Proofs.YtcgcljmnnjalpaaGreat
set_option linter.unusedVariables false
set_option linter.unusedSimpArgs false
namespace Go.Proofs.YtcgcljmnnjalpaaGreat
open Go.RowKit Go.Kx
open Go.ChangeMaps (setBlock)
theorem infoL : (Tryz.prog.info? 34).map (fun i => (i.zero, i.size, i.bytes)) = some (some (.slice none 0 0), 1, 24) := by kernel_rfl
def deeds3 : Array Value := #[.int .i64 0, .int .i64 0, .int .i64 0, .int .i64 0, .int .i64 4, .int .i64 0, .int .i64 0, .int .i64 100, .int .i64 1, .int .i64 0, .int .i64 0, .int .i64 0]
def DeedsAt (w : World) (d : Nat) : Prop := w.heap[d]? = some (.cells deeds3 32 (0, 0))
def PlayP (w : World) (e : Ending) (w' : World) : Prop :=
  ∃ p c a2 c2 q c3, e = .returned (.tuple #[.slice (some ⟨p, 0, none⟩) 3 c, .int .i64 0]) ∧ w'.cell? ⟨p, 0, none⟩ = some (.slice none 0 0) ∧ w'.cell? ⟨p, 1, none⟩ = some (.slice a2 0 c2) ∧ w'.cell? ⟨p, 2, none⟩ = some (.slice (some ⟨q, 0, none⟩) 1 c3) ∧ w'.cell? ⟨q, 0, none⟩ = some (.int .i64 100) ∧ Grow w w'
theorem own_zero {w : World} {base : Nat} {e : TypeId} {sz : Nat} {v : Value} {xs : List Value} (h : w.ownsRow base e sz v 0 xs) : ∃ A cap, v = .slice A 0 cap := by
  rcases h.2 with ⟨rfl, hz⟩ | ⟨g, cap, cur, rfl, _⟩
  · exact ⟨none, 0, rfl⟩
  · exact ⟨_, cap, rfl⟩
/-- Where Play stands ahead of a round: the guard, the manager, what waits, the list so far. -/
structure PlS (w wr : World) (d G M B : Nat) (inside : Bool) (waits v : Value) (n : Nat) (out : List Value) : Prop where
  ga : GAt wr G M
  qa : QAt wr M inside waits
  da : DeedsAt wr d
  ro : wr.ownsRow B 34 1 v n out
  nG : G ≠ M
  nd : d ≠ M
  lG : G < B
  lM : M < B
  ld : d < B
  lB : B ≤ wr.heap.size
  lw : w.heap.size ≤ M
  gr : Grow w wr
section
variable {w wr : World} {d G M B n : Nat} {i : Bool} {ws v : Value} {out : List Value}
theorem PlS.alloc (h : PlS w wr d G M B i ws v n out) (o : Obj) : PlS w (wr.alloc o) d G M B i ws v n out :=
  ⟨((Grow.refl wr).alloc o).at_ h.ga, ((Grow.refl wr).alloc o).at_ h.qa, ((Grow.refl wr).alloc o).at_ h.da, h.ro.alloc o, h.nG, h.nd, h.lG, h.lM, h.ld, by rw [size_alloc]; have := h.lB; omega, h.lw, h.gr.alloc o⟩
theorem PlS.fr (h : PlS w wr d G M B i ws v n out) {w' : World} {i' : Bool} {ws' : Value} {S : Nat → Prop} (hf : Fr S wr w') (hq : QAt w' M i' ws') (hS : ∀ k, S k → k = M ∨ (B ≤ k ∧ v.ownBlock ≠ some k)) : PlS w w' d G M B i' ws' v n out := by
  have hn : ∀ k, k < B → k ≠ M → ¬ S k := fun k hk hkm hs => by rcases hS k hs with e | e <;> omega
  refine ⟨hf.at_ h.ga (hn _ h.lG h.nG), hq, hf.at_ h.da (hn _ h.ld h.nd), owns_fr h.ro hf (fun k hk hs => ?_), h.nG, h.nd, h.lG, h.lM, h.ld, Nat.le_trans h.lB hf.size, h.lw, h.gr.then hf (fun k hk hs => ?_)⟩
  · have hb := (h.ro.lt k hk).1
    rcases hS k hs with e | e
    · have := h.lM; omega
    · exact e.2 hk
  · have := h.lw; have := h.lM
    rcases hS k hs with e | e <;> omega
theorem PlS.app (h : PlS w wr d G M B i ws v n out) {tmp : Obj} {w1 : World} {v' rv : Value} (hown : w1.ownsRow B 34 1 v' (n + 1) (out ++ [rv])) (hgrow : (wr.alloc tmp).grownBy w1 v.ownBlock) : PlS w w1 d G M B i ws v' (n + 1) (out ++ [rv]) := by
  have hf : Fr (fun k => v.ownBlock = some k) wr w1 := ((Fr.refl _ wr).alloc tmp).grown hgrow (fun k e => .inr e)
  have hn : ∀ k, k < B → ¬ v.ownBlock = some k := fun k hk hs => by have := (h.ro.lt k hs).1; omega
  exact ⟨hf.at_ h.ga (hn _ h.lG), hf.at_ h.qa (hn _ h.lM), hf.at_ h.da (hn _ h.ld), hown, h.nG, h.nd, h.lG, h.lM, h.ld, Nat.le_trans h.lB hf.size, h.lw, h.gr.then hf (fun k hk hs => by have := (h.ro.lt k hs).1; have := h.lw; have := h.lM; omega)⟩
end
set_option maxRecDepth 100000 in
set_option maxHeartbeats 4000000 in
theorem play_any {w : World} {d : Nat} (hd : DeedsAt w d) : Calls Tryz.prog 14 #[.int .i64 5, .int .i64 1, .slice (some ⟨d, 0, none⟩) 3 3] w (PlayP w) := by
  refine cph fun R HR => ?_
  have hdl := blk_lt hd
  have HD := Lib.hid hd
  have HN := Lib.hid (gNew w)
  clear hd
  obtain ⟨i0, hi, hz0, hz1, hz2⟩ := info_parts infoL
  have HI := Lib.hid (And.intro hi (And.intro hz0 (And.intro hz1 hz2)))
  clear hi hz0 hz1 hz2
  go_enter Tryz.func14, Tryz.ntmps14
  go_wp2_with (go_at_call 18; refine HN.out.mono ?_)
  rintro e w1 ⟨G, M, rfl, hga, hqa, hg, hM, hG, hGM⟩
  have H1 : Hid (PlS w w1 d G M w1.heap.size false (.slice none 0 0) (.slice none 0 0) 0 []) := ⟨hga, hqa, hg.at_ HD.out, World.ownsRow_nil _ _ _ _, hGM, by omega, blk_lt hga, blk_lt hqa, blk_lt (hg.at_ HD.out), Nat.le_refl _, hM, hg⟩
  clear hga hqa hg hM hG hGM HN
  obtain ⟨B, hB⟩ : ∃ B, B = w1.heap.size := ⟨_, rfl⟩
  have HB : Hid (B ≤ w1.heap.size) := by show _ ≤ _; omega
  rw [← hB] at H1
  clear hB
  go_wp2_with fail
  refine wp_loop_rounds 4 ?_
  rw [rounds_succ]
  have c0 := blk_cell H1.out.da 0
  have c1 := blk_cell H1.out.da 1
  have c2 := blk_cell H1.out.da 2
  have c3 := blk_cell H1.out.da 3
  simp only [deeds3, List.getElem?_toArray, List.getElem?_cons_zero, List.getElem?_cons_succ] at c0 c1 c2 c3
  have HS1 := Lib.hid (fun o : Obj => does1 (w := w1.alloc o) (H1.out.alloc o).ga (H1.out.alloc o).qa)
  go_wp2_with (first | (go_at_call 40; refine (HS1.out _).mono ?_; rintro e w2 ⟨rfl, hq2, hf2⟩; have H2 := Lib.hid ((H1.out.alloc _).fr hf2 hq2 (fun k e => .inl e)); clear hq2 hf2) | (at_builtin; refine wpList_append_own_at _ rfl (.tmp 32) (.tmp 36) 24 rfl B 34 i0 (.slice none 0 0) 1 24 Tryz.underlying24 HI.out.1 HI.out.2.1 HI.out.2.2.1 HI.out.2.2.2 rfl (by decide) _ 0 [] rfl (H2.out.ro.alloc _) ⟨w2.heap.size, 0, none⟩ 1 1 [.slice none 0 0] rfl rfl (cell_one_new _ _ _) (by simp [Value.oneCell']) (by unfold maxLen; omega) (by omega) (by have := H2.out.lB; simp; omega) ?_))
  intro v3 w3 hown hgrow _ hat
  obtain ⟨g1, k1, rfl⟩ := own_some hown
  have H3 := Lib.hid (H2.out.app hown hgrow)
  clear hown hgrow hat c0 c1 c2 c3 HS1 H1
  go_wp2_with fail
  rw [rounds_succ]
  have c4 := blk_cell H3.out.da 4
  have c5 := blk_cell H3.out.da 5
  have c6 := blk_cell H3.out.da 6
  have c7 := blk_cell H3.out.da 7
  simp only [deeds3, List.getElem?_toArray, List.getElem?_cons_zero, List.getElem?_cons_succ] at c4 c5 c6 c7
  have HS2 := Lib.hid (fun o : Obj => does2 (w := w3.alloc o) (H3.out.alloc o).ga (H3.out.alloc o).qa)
  have hl3 := (H3.out.ro.lt g1 (by simp [Value.ownBlock])).2
  have hB3 := H3.out.lB
  have hM3 := H3.out.lM
  have HL3 : Hid (g1 < w3.heap.size ∧ B ≤ w3.heap.size ∧ M < B) := ⟨hl3, hB3, hM3⟩
  clear hl3 hB3 hM3
  go_wp2_with (go_at_call 40; refine (HS2.out _).mono ?_)
  rintro e w4 ⟨v4, v4', rfl, h1, hq, h2, hf⟩
  obtain ⟨A2, k2, rfl⟩ := own_zero h1
  obtain ⟨gw, kw, rfl⟩ := own_some h2
  have hlw := h2.lt gw (by simp [Value.ownBlock])
  rw [size_alloc] at h2 hlw
  have H4 := Lib.hid (And.intro ((H3.out.alloc _).fr hf hq (fun k e => .inl e)) (And.intro h2 hlw))
  clear h1 hq h2 hf hlw c4 c5 c6 c7 HS2
  go_wp2_with (at_builtin; refine wpList_append_own_at _ rfl (.tmp 32) (.tmp 36) 24 rfl B 34 i0 (.slice none 0 0) 1 24 Tryz.underlying24 HI.out.1 HI.out.2.1 HI.out.2.2.1 HI.out.2.2.2 rfl (by decide) _ 1 [.slice none 0 0] rfl (H4.out.1.ro.alloc _) ⟨w4.heap.size, 0, none⟩ 1 1 [.slice A2 0 k2] rfl rfl (cell_one_new _ _ _) (by simp [Value.oneCell']) (by unfold maxLen; omega) (by omega) (by have := H4.out.1.lB; simp; omega) ?_)
  intro v5 w5 hown hgrow _ hat
  have hne5 : v5.ownBlock ≠ some gw := by
    have a := H4.out.2.2; have b := HL3.out
    rcases hat with e | e <;> rw [e] <;> simp [Value.ownBlock] <;> omega
  have hw5 := (H4.out.2.1.alloc _).kept hgrow (.inr (by have a := H4.out.2.2; have b := HL3.out; simp [Value.ownBlock]; omega))
  obtain ⟨g2, k3, rfl⟩ := own_some hown
  have H5 := Lib.hid (And.intro (H4.out.1.app hown hgrow) (And.intro hne5 (And.intro hw5 (H4.out.2.2))))
  clear hown hgrow hat hne5 hw5 H4
  go_wp2_with fail
  rw [rounds_succ]
  have c8 := blk_cell H5.out.1.da 8
  have c9 := blk_cell H5.out.1.da 9
  have ca := blk_cell H5.out.1.da 10
  have cb := blk_cell H5.out.1.da 11
  simp only [deeds3, List.getElem?_toArray, List.getElem?_cons_zero, List.getElem?_cons_succ] at c8 c9 ca cb
  have HS3 := Lib.hid (fun o : Obj => does3 (w := w5.alloc o) (H5.out.1.alloc o).ga (H5.out.1.alloc o).qa (H5.out.2.2.1.alloc o) (by have := HL3.out; omega))
  go_wp2_with (go_at_call 40; refine (HS3.out _).mono ?_)
  rintro e w6 ⟨v6, v6', rfl, h1, hq, hf⟩
  obtain ⟨q, k6, rfl⟩ := own_some h1
  have hl5 := (H5.out.1.ro.lt g2 (by simp [Value.ownBlock])).2
  rw [size_alloc] at h1
  have hlq := h1.lt q (by simp [Value.ownBlock])
  have H6 := Lib.hid (And.intro ((H5.out.1.alloc _).fr hf hq (fun k e => e.elim .inl fun e => .inr ⟨by have a := H5.out.2.2.2; have b := HL3.out; omega, by rw [e]; exact H5.out.2.1⟩)) (And.intro h1 (And.intro hlq hl5)))
  clear h1 hq hf hlq hl5 c8 c9 ca cb HS3
  go_wp2_with (at_builtin; refine wpList_append_own_at _ rfl (.tmp 32) (.tmp 36) 24 rfl B 34 i0 (.slice none 0 0) 1 24 Tryz.underlying24 HI.out.1 HI.out.2.1 HI.out.2.2.1 HI.out.2.2.2 rfl (by decide) _ 2 [.slice none 0 0, .slice A2 0 k2] rfl (H6.out.1.ro.alloc _) ⟨w6.heap.size, 0, none⟩ 1 1 [.slice (some ⟨q, 0, none⟩) 1 k6] rfl rfl (cell_one_new _ _ _) (by simp [Value.oneCell']) (by unfold maxLen; omega) (by omega) (by have := H6.out.1.lB; simp; omega) ?_)
  intro v7 w7 hown hgrow _ hat
  have hw7 := (H6.out.2.1.alloc _).kept hgrow (.inr (by have a := H6.out.2.2; simp [Value.ownBlock]; omega))
  obtain ⟨p, k7, rfl⟩ := own_some hown
  have H7 := Lib.hid (And.intro (H6.out.1.app hown hgrow) hw7)
  clear hown hgrow hat hw7
  go_wp2_with fail
  rw [rounds_succ]
  go_wp2_with fail
  have hc := fun j u hu => H7.out.1.ro.cells (g := p) (by simp [Value.ownBlock]) j u hu
  have hc2 := H7.out.2.cells (g := q) (by simp [Value.ownBlock]) 0 _ rfl
  simp only [Addr.add_lit] at hc hc2
  exact HR.out _ _ ⟨p, k7, A2, k2, q, k6, rfl, hc 0 _ rfl, hc 1 _ rfl, hc 2 _ rfl, hc2, H7.out.1.gr⟩
end Go.Proofs.YtcgcljmnnjalpaaGreat
set_option linter.unusedVariables false
set_option linter.unusedSimpArgs false
namespace Go.Proofs.YtcgcljmnnjalpaaGreat
open Go.RowKit Go.Kx
open Go.ChangeMaps (setBlock)
def TrueP (w : World) (e : Ending) (w' : World) : Prop := e = .returned (.bool true) ∧ Grow w w'
set_option maxHeartbeats 1000000 in
theorem same1 {w : World} {q r c d : Nat} (h1 : w.cell? ⟨q, 0, none⟩ = some (.int .i64 100)) (h2 : w.cell? ⟨r, 0, none⟩ = some (.int .i64 100)) :
    Calls Tryz.prog 16 #[.slice (some ⟨q, 0, none⟩) 1 c, .slice (some ⟨r, 0, none⟩) 1 d] w (TrueP w) := by
  refine cph fun R HR => ?_
  go_enter Tryz.func16, Tryz.ntmps16
  go_wp2_with fail
  refine wp_loop_rounds 2 ?_
  rw [rounds_succ]
  go_wp2_with fail
  go_quiet (fail)
  go_wp2_with fail
  rw [rounds_succ]
  go_wp2_with fail
  exact HR.out _ _ ⟨rfl, (Grow.refl w).drewN _⟩
set_option maxRecDepth 100000 in
set_option maxHeartbeats 2000000 in
theorem awake_any (w : World) : Calls Tryz.prog 13 #[] w (TrueP w) := by
  refine cph fun R HR => ?_
  have HP := Lib.hid (play_any (w := w.alloc (.cells deeds3 32)) (d := w.heap.size) (blk_new _ _))
  go_enter Tryz.func13, Tryz.ntmps13
  go_wp2_with (go_at_call 14; refine HP.out.mono ?_)
  rintro e w2 ⟨p, c, a2, c2, q, c3, rfl, k0, k1, k2, kq, hg⟩
  have HG := Lib.hid (((Grow.refl w).alloc _).trans hg)
  have HS : Hid (Calls Tryz.prog 16 #[.slice (some ⟨q, 0, none⟩) 1 c3, .slice (some ⟨w2.heap.size, 0, none⟩) 1 1] (w2.alloc (.cells #[.int .i64 100] 3)) (TrueP (w2.alloc (.cells #[.int .i64 100] 3)))) := by
    refine same1 (((Grow.refl w2).alloc _).cell kq) ?_
    simp
  clear hg kq HP
  go_wp2_with (go_at_call 16; refine HS.out.mono ?_; rintro e w3 ⟨rfl, hg3⟩; have H3 := Lib.hid ((HG.out.alloc _).trans hg3); clear hg3)
  exact HR.out _ _ ⟨rfl, H3.out⟩
end Go.Proofs.YtcgcljmnnjalpaaGreat
