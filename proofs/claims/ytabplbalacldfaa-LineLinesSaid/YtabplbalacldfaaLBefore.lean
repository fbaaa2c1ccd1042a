/- The contract of the reference's before: how a line stands with a thread, for every valid list. -/
import Derived.Test.YtabplbalacldfaaLRefValid
set_option linter.unusedVariables false
set_option linter.unusedSimpArgs false
namespace Go.Proofs.Ytabplbalacldfaa
open Go.RowKit Go.Kx
open Go.ChangeMaps (setBlock)
/-- How a line stands with a thread. -/
structure Mark where
  inn : Bool
  own : Bool
  had : Bool
  lost : Int
def mark0 : Mark := ⟨false, false, false, -1⟩
def markStep (size t n : Int) (m : Mark) (j : Nat) (a : A3) : Mark :=
  if a.2.1 / size = n then
    if a.1 = t then
      if a.2.2 = 1 then ⟨true, true, true, -1⟩ else if m.inn then m else ⟨true, false, false, -1⟩
    else if a.2.2 = 1 then (if m.inn then ⟨false, false, m.had, j⟩ else m)
    else if m.own then ⟨m.inn, false, m.had, j⟩ else m
  else m
def marks (size t n : Int) (l : List A3) : Nat → Mark
  | 0 => mark0
  | k + 1 => match l[k]? with
    | some a => markStep size t n (marks size t n l k) k a
    | none => marks size t n l k
def markCells (m : Mark) : Array Value := #[.bool m.inn, .bool m.own, .bool m.had, .int .i64 m.lost]
/-- The walk's world: a mark in a block of its own. -/
structure MarkAt (w wr : World) (b : Nat) (m : Mark) : Prop where
  blk : wr.heap[b]? = some (.cells (markCells m) 94 (0, 0))
  fr : Grow w wr
  ge : w.heap.size < b
  res : wr.heap[w.heap.size]? = some (.cells #[.bool false, .bool false, .bool false, .int .i64 0] 94 (0, 0))
theorem MarkAt.alloc {w wr : World} {b : Nat} {m : Mark} (h : MarkAt w wr b m) (o : Obj) : MarkAt w (wr.alloc o) b m :=
  ⟨blk_alloc' _ h.blk, h.fr.alloc _, h.ge, blk_alloc' _ h.res⟩
theorem MarkAt.drewN {w wr : World} {b : Nat} {m : Mark} (h : MarkAt w wr b m) (n : Nat) : MarkAt w (wr.drewN n) b m := ⟨h.blk, h.fr.drewN _, h.ge, h.res⟩
theorem MarkAt.set {w wr : World} {b : Nat} {m m' : Mark} (h : MarkAt w wr b m) (o : Nat) (v : Value) (hm : (markCells m).setIfInBounds o v = markCells m') : MarkAt w (wr.setCell ⟨b, o, none⟩ v) b m' := by
  refine ⟨?_, h.fr.setCell _ _ (by have := h.ge; show _ ≤ b; omega), h.ge, ?_⟩
  · rw [blk_set h.blk, hm]
  · rw [blk_set_other (by have := h.ge; show _ ≠ b; omega)]; exact h.res
theorem MarkAt.all {w wr : World} {b : Nat} {m : Mark} (h : MarkAt w wr b m) (i o d : Bool) (z : Int) :
    MarkAt w ((((wr.setCell ⟨b, 0, none⟩ (.bool i)).setCell ⟨b, 1, none⟩ (.bool o)).setCell ⟨b, 2, none⟩ (.bool d)).setCell ⟨b, 3, none⟩ (.int .i64 z)) b ⟨i, o, d, z⟩ := by
  exact (((h.set (m' := ⟨i, m.own, m.had, m.lost⟩) 0 (.bool i) rfl).set (m' := ⟨i, o, m.had, m.lost⟩) 1 (.bool o) rfl).set (m' := ⟨i, o, d, m.lost⟩) 2 (.bool d) rfl).set 3 (.int .i64 z) rfl
theorem MarkAt.gone {w wr : World} {b : Nat} {m : Mark} (h : MarkAt w wr b m) (z : Int) :
    MarkAt w (((wr.setCell ⟨b, 0, none⟩ (.bool false)).setCell ⟨b, 1, none⟩ (.bool false)).setCell ⟨b, 3, none⟩ (.int .i64 z)) b ⟨false, false, m.had, z⟩ :=
  ((h.set (m' := ⟨false, m.own, m.had, m.lost⟩) 0 (.bool false) rfl).set (m' := ⟨false, false, m.had, m.lost⟩) 1 (.bool false) rfl).set 3 (.int .i64 z) rfl
theorem MarkAt.less {w wr : World} {b : Nat} {m : Mark} (h : MarkAt w wr b m) (z : Int) :
    MarkAt w ((wr.setCell ⟨b, 1, none⟩ (.bool false)).setCell ⟨b, 3, none⟩ (.int .i64 z)) b ⟨m.inn, false, m.had, z⟩ :=
  (h.set (m' := ⟨m.inn, false, m.had, m.lost⟩) 1 (.bool false) rfl).set 3 (.int .i64 z) rfl
theorem markStep_inv {size t n : Int} {m : Mark} {j : Nat} {a : A3} (h : m.own = true → m.inn = true) : (markStep size t n m j a).own = true → (markStep size t n m j a).inn = true := by
  unfold markStep
  repeat' split
  all_goals simp_all
theorem marks_inv (size t n : Int) (l : List A3) : ∀ k, (marks size t n l k).own = true → (marks size t n l k).inn = true := by
  intro k
  induction k with
  | zero => intro h; cases h
  | succ k ih =>
    unfold marks
    split
    · exact markStep_inv ih
    · exact ih
set_option maxHeartbeats 4000000 in
theorem before_any (w : World) (b off : Nat) (l : List A3) (cap : Nat) (size : Int) (at_ : Nat) (x : A3) (hA : AccAt w b off l) (hx : l[at_]? = some x) (hn : l.length ≤ 2000) (h1 : 1 ≤ size) (h16 : size ≤ 16) (hok : ∀ x ∈ l, bad x = false) :
    Calls Try.prog 51 #[.int .i64 size, .slice (some ⟨b, off, none⟩) l.length cap, .int .i64 at_] w fun e w' => e = .returned (.agg (markCells (marks size x.1 (x.2.1 / size) l at_))) ∧ Grow w w' := by
  refine cph fun R HR => ?_
  have hat : at_ < l.length := (List.getElem?_eq_some_iff.1 hx).1
  have hbx := hok _ (List.mem_of_getElem? hx)
  have hcx := hA _ _ hx
  have HX := Lib.hid hx
  have HA := Lib.hid hA
  have HOK := Lib.hid hok
  clear hA hx hok
  obtain ⟨t, cl, zz⟩ := x
  simp [bad] at hbx
  obtain ⟨⟨⟨⟨⟨bx1, bx2⟩, bx3⟩, bx4⟩, bx5⟩, bx6⟩ := hbx
  obtain ⟨cx0, cx1, cx2⟩ := hcx
  dsimp only at cx0 cx1 cx2 ⊢
  have hbl := World.block_lt_of_cell? _ _ cx0
  dsimp only at hbl
  go_enter Try.func51, Try.ntmps51
  go_wp2_with fail
  go_loopw [9] (fun i wr => ∃ k : Nat, k ≤ at_ ∧ i = .int .i64 k ∧ Hid (MarkAt w wr (w.heap.size + 1) (marks size t (cl / size) l k)) ∧ w.heap.size + 1 < wr.heap.size) (fun i _ => at_ - (intOf i).toNat)
  case atStart =>
    refine ⟨0, by omega, rfl, ?_, by simp⟩
    have := blk_new (w.alloc (Obj.cells #[Value.bool false, Value.bool false, Value.bool false, Value.int IntKind.i64 0] 94)) (Obj.cells #[Value.bool false, Value.bool false, Value.bool false, Value.int IntKind.i64 (-1)] 94)
    rw [size_alloc] at this
    exact ⟨this, ((Grow.refl _).alloc _).alloc _, by omega, blk_alloc' _ (blk_new _ _)⟩
  case round =>
    obtain ⟨k, hk, rfl, HI, hlt2⟩ := hrel
    by_cases hlt : k < at_
    · obtain ⟨⟨x, y, z⟩, hx⟩ : ∃ x, l[k]? = some x := ⟨l[k]'(by omega), by simp⟩
      obtain ⟨c0, c1, c2⟩ := (HA.out.grow HI.out.fr) k _ hx
      obtain ⟨d0, d1, d2⟩ := (HA.out.grow HI.out.fr) at_ _ HX.out
      dsimp only at c0 c1 c2 d0 d1 d2
      have hb := HOK.out _ (List.mem_of_getElem? hx)
      simp [bad] at hb
      obtain ⟨⟨⟨⟨⟨b1, b2⟩, b3⟩, b4⟩, b5⟩, b6⟩ := hb
      have HXK := Lib.hid hx
      clear hx
      have hbk := HI.out.blk
      have hinv := marks_inv size t (cl / size) l k
      have hnext : marks size t (cl / size) l (k + 1) = markStep size t (cl / size) (marks size t (cl / size) l k) k (x, y, z) := by
        show (match l[k]? with | some a => markStep size t (cl / size) (marks size t (cl / size) l k) k a | none => _) = _
        rw [HXK.out]
      have HNX := Lib.hid hnext
      clear hnext
      obtain ⟨mm, hmm⟩ : ∃ mm, mm = marks size t (cl / size) l k := ⟨_, rfl⟩
      rw [← hmm] at hbk hinv
      have HMM := Lib.hid hmm
      clear hmm
      obtain ⟨inn, own, had, lost⟩ := mm
      dsimp only at hinv
      have HB := Lib.hid hbk
      have q0 := blk_cell hbk 0
      have q1 := blk_cell hbk 1
      have q2 := blk_cell hbk 2
      have q3 := blk_cell hbk 3
      have f0 := blk_free hbk 0
      have f1 := blk_free hbk 1
      have f2 := blk_free hbk 2
      have f3 := blk_free hbk 3
      simp only [markCells, List.getElem?_toArray, List.getElem?_cons_zero, List.getElem?_cons_succ] at q0 q1 q2 q3
      clear hbk cx0 cx1 cx2
      have hlti : (k : Int) < (l.length : Int) := by omega
      have hati : (at_ : Int) < (l.length : Int) := by omega
      have hk0 : (0 : Int) ≤ (k : Int) := by omega
      have hat0 : (0 : Int) ≤ (at_ : Int) := by omega
      have hblr : b < wr.heap.size := by have := HI.out.fr.size; omega
      by_cases hline : y / size = cl / size
      · by_cases hth : x = t
        · subst hth
          have hxx : ((x : Int) == x) = true := by simp
          have hll : (y / size != cl / size) = false := by simp [hline]
          rcases (show z = 0 ∨ z = 1 by omega) with hz | hz <;> subst hz
          · cases inn <;> cases own
            · go_wp2_with fail
              go_quiet (fail)
              go_wp2_with fail
              go_roundw
              case rel =>
                refine ⟨k + 1, by omega, by go_num, ?_, by simp; omega⟩
                show MarkAt _ _ _ _
                rw [HNX.out, ← HMM.out]
                have hI := (HI.out.alloc (.cells #[.int .i64 x, .int .i64 y, .int .i64 0] 24))
                rw [← HMM.out] at hI
                have e : markStep size x (cl / size) ⟨false, false, had, lost⟩ k (x, y, 0) = ⟨true, false, false, -1⟩ := by simp [markStep, hline]
                rw [e]
                exact (hI.drewN _).all true false false (-1)
              case measure => simp [intOf]; omega
            · exact absurd (hinv rfl) (by decide)
            · go_wp2_with fail
              go_quiet (fail)
              go_wp2_with fail
              go_roundw
              case rel =>
                refine ⟨k + 1, by omega, by go_num, ?_, by simp; omega⟩
                show MarkAt _ _ _ _
                rw [HNX.out, ← HMM.out]
                have hI := (HI.out.alloc (.cells #[.int .i64 x, .int .i64 y, .int .i64 0] 24))
                rw [← HMM.out] at hI
                have e : markStep size x (cl / size) ⟨true, false, had, lost⟩ k (x, y, 0) = ⟨true, false, had, lost⟩ := by simp [markStep, hline]
                rw [e]
                exact hI.drewN _
              case measure => simp [intOf]; omega
            · go_wp2_with fail
              go_quiet (fail)
              go_wp2_with fail
              go_roundw
              case rel =>
                refine ⟨k + 1, by omega, by go_num, ?_, by simp; omega⟩
                show MarkAt _ _ _ _
                rw [HNX.out, ← HMM.out]
                have hI := (HI.out.alloc (.cells #[.int .i64 x, .int .i64 y, .int .i64 0] 24))
                rw [← HMM.out] at hI
                have e : markStep size x (cl / size) ⟨true, true, had, lost⟩ k (x, y, 0) = ⟨true, true, had, lost⟩ := by simp [markStep, hline]
                rw [e]
                exact hI.drewN _
              case measure => simp [intOf]; omega
          · cases inn <;> cases own
            · go_wp2_with fail
              go_quiet (fail)
              go_wp2_with fail
              go_roundw
              case rel =>
                refine ⟨k + 1, by omega, by go_num, ?_, by simp; omega⟩
                show MarkAt _ _ _ _
                rw [HNX.out, ← HMM.out]
                have hI := (HI.out.alloc (.cells #[.int .i64 x, .int .i64 y, .int .i64 1] 24))
                rw [← HMM.out] at hI
                have e : markStep size x (cl / size) ⟨false, false, had, lost⟩ k (x, y, 1) = ⟨true, true, true, -1⟩ := by simp [markStep, hline]
                rw [e]
                exact ((hI.drewN _).all true false false (-1)).all true true true (-1)
              case measure => simp [intOf]; omega
            · exact absurd (hinv rfl) (by decide)
            · go_wp2_with fail
              go_quiet (fail)
              go_wp2_with fail
              go_roundw
              case rel =>
                refine ⟨k + 1, by omega, by go_num, ?_, by simp; omega⟩
                show MarkAt _ _ _ _
                rw [HNX.out, ← HMM.out]
                have hI := (HI.out.alloc (.cells #[.int .i64 x, .int .i64 y, .int .i64 1] 24))
                rw [← HMM.out] at hI
                have e : markStep size x (cl / size) ⟨true, false, had, lost⟩ k (x, y, 1) = ⟨true, true, true, -1⟩ := by simp [markStep, hline]
                rw [e]
                exact (hI.drewN _).all true true true (-1)
              case measure => simp [intOf]; omega
            · go_wp2_with fail
              go_quiet (fail)
              go_wp2_with fail
              go_roundw
              case rel =>
                refine ⟨k + 1, by omega, by go_num, ?_, by simp; omega⟩
                show MarkAt _ _ _ _
                rw [HNX.out, ← HMM.out]
                have hI := (HI.out.alloc (.cells #[.int .i64 x, .int .i64 y, .int .i64 1] 24))
                rw [← HMM.out] at hI
                have e : markStep size x (cl / size) ⟨true, true, had, lost⟩ k (x, y, 1) = ⟨true, true, true, -1⟩ := by simp [markStep, hline]
                rw [e]
                exact (hI.drewN _).all true true true (-1)
              case measure => simp [intOf]; omega
        · have hxx : ((x : Int) == t) = false := by simp [hth]
          have hll : (y / size != cl / size) = false := by simp [hline]
          rcases (show z = 0 ∨ z = 1 by omega) with hz | hz <;> subst hz
          · cases inn <;> cases own
            · go_wp2_with fail
              go_quiet (fail)
              go_wp2_with fail
              go_roundw
              case rel =>
                refine ⟨k + 1, by omega, by go_num, ?_, by simp; omega⟩
                show MarkAt _ _ _ _
                rw [HNX.out, ← HMM.out]
                have hI := (HI.out.alloc (.cells #[.int .i64 x, .int .i64 y, .int .i64 0] 24))
                rw [← HMM.out] at hI
                have e : markStep size t (cl / size) ⟨false, false, had, lost⟩ k (x, y, 0) = ⟨false, false, had, lost⟩ := by simp [markStep, hline, hth]
                rw [e]
                exact hI.drewN _
              case measure => simp [intOf]; omega
            · exact absurd (hinv rfl) (by decide)
            · go_wp2_with fail
              go_quiet (fail)
              go_wp2_with fail
              go_roundw
              case rel =>
                refine ⟨k + 1, by omega, by go_num, ?_, by simp; omega⟩
                show MarkAt _ _ _ _
                rw [HNX.out, ← HMM.out]
                have hI := (HI.out.alloc (.cells #[.int .i64 x, .int .i64 y, .int .i64 0] 24))
                rw [← HMM.out] at hI
                have e : markStep size t (cl / size) ⟨true, false, had, lost⟩ k (x, y, 0) = ⟨true, false, had, lost⟩ := by simp [markStep, hline, hth]
                rw [e]
                exact hI.drewN _
              case measure => simp [intOf]; omega
            · go_wp2_with fail
              go_quiet (fail)
              go_wp2_with fail
              go_roundw
              case rel =>
                refine ⟨k + 1, by omega, by go_num, ?_, by simp; omega⟩
                show MarkAt _ _ _ _
                rw [HNX.out, ← HMM.out]
                have hI := (HI.out.alloc (.cells #[.int .i64 x, .int .i64 y, .int .i64 0] 24))
                rw [← HMM.out] at hI
                have e : markStep size t (cl / size) ⟨true, true, had, lost⟩ k (x, y, 0) = ⟨true, false, had, k⟩ := by simp [markStep, hline, hth]
                rw [e]
                exact (hI.drewN _).less k
              case measure => simp [intOf]; omega
          · cases inn <;> cases own
            · go_wp2_with fail
              go_quiet (fail)
              go_wp2_with fail
              go_roundw
              case rel =>
                refine ⟨k + 1, by omega, by go_num, ?_, by simp; omega⟩
                show MarkAt _ _ _ _
                rw [HNX.out, ← HMM.out]
                have hI := (HI.out.alloc (.cells #[.int .i64 x, .int .i64 y, .int .i64 1] 24))
                rw [← HMM.out] at hI
                have e : markStep size t (cl / size) ⟨false, false, had, lost⟩ k (x, y, 1) = ⟨false, false, had, lost⟩ := by simp [markStep, hline, hth]
                rw [e]
                exact hI.drewN _
              case measure => simp [intOf]; omega
            · exact absurd (hinv rfl) (by decide)
            · go_wp2_with fail
              go_quiet (fail)
              go_wp2_with fail
              go_roundw
              case rel =>
                refine ⟨k + 1, by omega, by go_num, ?_, by simp; omega⟩
                show MarkAt _ _ _ _
                rw [HNX.out, ← HMM.out]
                have hI := (HI.out.alloc (.cells #[.int .i64 x, .int .i64 y, .int .i64 1] 24))
                rw [← HMM.out] at hI
                have e : markStep size t (cl / size) ⟨true, false, had, lost⟩ k (x, y, 1) = ⟨false, false, had, k⟩ := by simp [markStep, hline, hth]
                rw [e]
                exact (hI.drewN _).gone k
              case measure => simp [intOf]; omega
            · go_wp2_with fail
              go_quiet (fail)
              go_wp2_with fail
              go_roundw
              case rel =>
                refine ⟨k + 1, by omega, by go_num, ?_, by simp; omega⟩
                show MarkAt _ _ _ _
                rw [HNX.out, ← HMM.out]
                have hI := (HI.out.alloc (.cells #[.int .i64 x, .int .i64 y, .int .i64 1] 24))
                rw [← HMM.out] at hI
                have e : markStep size t (cl / size) ⟨true, true, had, lost⟩ k (x, y, 1) = ⟨false, false, had, k⟩ := by simp [markStep, hline, hth]
                rw [e]
                exact (hI.drewN _).gone k
              case measure => simp [intOf]; omega
      · go_wp2_with fail
        go_quiet (fail)
        go_wp2_with fail
        go_roundw
        case rel =>
          refine ⟨k + 1, by omega, by go_num, ?_, ?_⟩
          · show MarkAt _ _ _ _
            rw [HNX.out]
            have e : markStep size t (cl / size) (marks size t (cl / size) l k) k (x, y, z) = marks size t (cl / size) l k := by simp [markStep, hline]
            rw [e]
            exact (HI.out.alloc _).drewN _
          · simp; omega
        case measure => simp [intOf]; omega
    · obtain rfl : k = at_ := by omega
      have hbk := HI.out.blk
      have HF := Lib.hid HI.out.fr
      obtain ⟨mm, hmm⟩ : ∃ mm, mm = marks size t (cl / size) l k := ⟨_, rfl⟩
      rw [← hmm] at hbk HR
      obtain ⟨inn, own, had, lost⟩ := mm
      have q0 := blk_cell hbk 0
      have q1 := blk_cell hbk 1
      have q2 := blk_cell hbk 2
      have q3 := blk_cell hbk 3
      have hr := HI.out.res
      have r0 := blk_cell hr 0
      have r1 := blk_cell hr 1
      have r2 := blk_cell hr 2
      have r3 := blk_cell hr 3
      have g0 := blk_free hr 0
      have g1 := blk_free hr 1
      have g2 := blk_free hr 2
      have g3 := blk_free hr 3
      simp only [markCells, List.getElem?_toArray, List.getElem?_cons_zero, List.getElem?_cons_succ] at q0 q1 q2 q3 r0 r1 r2 r3
      clear hr hbk
      go_wp2_with fail
      obtain ⟨wf, hwf⟩ : ∃ wf, wf = ((((wr.setCell { block := w.heap.size, off := 0 } (Value.bool inn)).setCell { block := w.heap.size, off := 1 } (Value.bool own)).setCell { block := w.heap.size, off := 2 } (Value.bool had)).setCell { block := w.heap.size, off := 3 } (Value.int IntKind.i64 lost)) := ⟨_, rfl⟩
      have hfin : wf.heap[w.heap.size]? = some (.cells #[Value.bool inn, .bool own, .bool had, .int .i64 lost] 94 (0, 0)) := by
        rw [hwf, blk_set (blk_set (blk_set (blk_set HI.out.res 0 _) 1 _) 2 _) 3 _]; rfl
      have hgr : Grow w wf := by
        rw [hwf]; exact (((HF.out.setCell _ _ (Nat.le_refl _)).setCell _ _ (Nat.le_refl _)).setCell _ _ (Nat.le_refl _)).setCell _ _ (Nat.le_refl _)
      rw [← hwf]
      have r0 := blk_cell hfin 0
      have r1 := blk_cell hfin 1
      have r2 := blk_cell hfin 2
      have r3 := blk_cell hfin 3
      simp only [List.getElem?_toArray, List.getElem?_cons_zero, List.getElem?_cons_succ] at r0 r1 r2 r3
      clear hwf
      exact bodyPost_ret (v := .agg #[.bool inn, .bool own, .bool had, .int .i64 lost]) (by simp [results, Try.results51, go_sem, r0, r1, r2, r3]) rfl (HR.out _ _ ⟨rfl, hgr⟩)
end Go.Proofs.Ytabplbalacldfaa
