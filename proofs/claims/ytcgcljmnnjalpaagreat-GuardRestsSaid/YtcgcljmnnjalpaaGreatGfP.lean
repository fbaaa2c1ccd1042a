/- math/bits.Mul at small numbers, slices.Repeat of [-1]; the epoch manager: New. -/
import Derived.Test.YtcgcljmnnjalpaaGreatGfO
import Derived.Laws.CopyOwn
set_option linter.unusedVariables false
set_option linter.unusedSimpArgs false
namespace Go.Proofs.YtcgcljmnnjalpaaGreat
open Go.RowKit Go.Kx
open Go.ChangeMaps (setBlock)
theorem mul64 (w : World) {n : Nat} (h1 : 1 ≤ n) (h4 : n ≤ 4) : Calls Tryz.prog 145 #[.int .u64 1, .int .u64 n] w fun e w' => e = .returned (.tuple #[.int .u64 0, .int .u64 n]) ∧ w = w' := by
  refine cph fun R HR => ?_
  obtain rfl | rfl | rfl | rfl : n = 1 ∨ n = 2 ∨ n = 3 ∨ n = 4 := by omega
  all_goals
    go_enter Tryz.func145, Tryz.ntmps145
    go_wp2_with fail
    exact HR.out _ _ ⟨by first | rfl | decide, rfl⟩
theorem mulU (w : World) {n : Nat} (h1 : 1 ≤ n) (h4 : n ≤ 4) : Calls Tryz.prog 128 #[.int .u64 1, .int .u64 n] w fun e w' => e = .returned (.tuple #[.int .u64 0, .int .u64 n]) ∧ w = w' := by
  refine cph fun R HR => ?_
  have HM := Lib.hid (mul64 w h1 h4)
  go_enter Tryz.func128, Tryz.ntmps128
  go_wp2_with (go_at_call 145; refine HM.out.mono ?_; rintro e w' ⟨rfl, rfl⟩)
  exact HR.out _ _ ⟨rfl, rfl⟩
def negs (k n : Nat) : List Value := List.replicate k (.int .i64 (-1)) ++ List.replicate (n - k) (.int .i64 0)
theorem mk34 (n : Nat) (h1 : 1 ≤ n) (h4 : n ≤ 4) (w : World) : (Instr.makeSlice 34 (.int .i64 n) (.int .i64 n)).run Tryz.prog w = .ok (.slice (some ⟨w.heap.size, 0, none⟩) n n) (w.alloc (.cells (negs 0 n).toArray 3)) := by
  obtain rfl | rfl | rfl | rfl : n = 1 ∨ n = 2 ∨ n = 3 ∨ n = 4 := by omega
  all_goals kernel_rfl
theorem size1 : (Tryz.prog.info? 3).map (·.size) = some 1 := by kernel_rfl
theorem below_grow {w w' : World} (h : RowKit.Below w.heap.size w w') : Grow w w' := ⟨h.os, h.tape, h.output, h.size, fun i hi _ => h.block i hi⟩
theorem one_src {w : World} {b o : Nat} {v : Value} (h : w.cell? ⟨b, o, none⟩ = some v) : ∀ j u, [v][j]? = some u → w.cell? ((⟨b, o, none⟩ : Addr).add j) = some u := fun j u hj => by
  match j, hj with
  | 0, hj => cases hj; exact h
  | j + 1, hj => simp at hj
theorem negs_src {w : World} {g k n m : Nat} (hk : m ≤ k) (hb : w.heap[g]? = some (.cells (negs k n).toArray 3 (0, 0))) : ∀ j u, (List.replicate m (Value.int .i64 (-1)))[j]? = some u → w.cell? ((⟨g, 0, none⟩ : Addr).add j) = some u := fun j u hj => by
  rw [Addr.add_lit, blk_cell hb]
  have hm : j < m := by
    have := (List.getElem?_eq_some_iff.1 hj).1
    simpa using this
  rw [List.getElem?_replicate, if_pos hm] at hj
  rw [List.getElem?_toArray, Nat.zero_add]
  unfold negs
  rw [List.getElem?_append_left (by simp; omega), List.getElem?_replicate, if_pos (by omega)]
  exact hj
theorem negs_splice {k m N : Nat} (h : k + m ≤ N) (h4 : N ≤ 4) : ((negs k N).toArray.toList.take k ++ List.replicate m (Value.int .i64 (-1)) ++ (negs k N).toArray.toList.drop (k + (List.replicate m (Value.int .i64 (-1))).length)) = negs (k + m) N := by
  unfold negs
  simp [List.take_append, List.drop_append, List.drop_replicate, List.take_replicate]
  omega
theorem copy_step {w0 W : World} {g k N m : Nat} {ad : Addr} {dLen dCap sLen sCap : Nat} (hW : Grow w0 W) (hg0 : w0.heap.size ≤ g) (hb : W.heap[g]? = some (.cells (negs k N).toArray 3 (0, 0))) (hm : m = Nat.min sLen dLen) (hkm : k + m ≤ N) (h4 : N ≤ 4) (hsrc : ∀ j u, (List.replicate m (Value.int .i64 (-1)))[j]? = some u → W.cell? (ad.add j) = some u) :
    ∃ W', (Builtin.copy_ #[34, 34] 3 #[.slice (some ⟨g, k, none⟩) dLen dCap, .slice (some ad) sLen sCap]).run Tryz.prog W = .ok (.int .i64 m) W' ∧ W'.heap[g]? = some (.cells (negs (k + m) N).toArray 3 (0, 0)) ∧ Grow w0 W' := by
  have hr := run_copy_row (P := Tryz.prog) W 34 34 3 3 g k dLen dCap ad sLen sCap (negs k N).toArray 3 (List.replicate m (.int .i64 (-1))) Tryz.underlying34 size1 hb (by simpa using hm) hsrc (by unfold negs; simp; omega) (by intro v hv; rw [List.eq_of_mem_replicate hv]; rfl)
  rw [negs_splice hkm h4, List.length_replicate] at hr
  refine ⟨_, hr, ?_, ?_⟩
  · simpa using setRow_heap W g _ (negs (k + m) N).toArray 3 _ hb
  · have hbl : RowKit.Below w0.heap.size W (W.setRow g (negs (k + m) N).toArray) := below_setRow (RowKit.Below.refl _ _) hg0 _
    exact ⟨hbl.os.trans hW.os, hbl.tape.trans hW.tape, hbl.output.trans hW.output, Nat.le_trans hW.size hbl.size, fun i hi hn => (hbl.block i hi).trans (hW.blk i hi hn)⟩
set_option maxRecDepth 100000 in
set_option maxHeartbeats 4000000 in
theorem repeat_1 (w : World) {b : Nat} (hb : w.cell? ⟨b, 0, none⟩ = some (.int .i64 (-1))) : Calls Tryz.prog 100 #[.slice (some ⟨b, 0, none⟩) 1 1, .int .i64 1] w fun e w' => e = .returned (.slice (some ⟨w.heap.size, 0, none⟩) 1 1) ∧ w'.heap[w.heap.size]? = some (.cells (negs 1 1).toArray 3 (0, 0)) ∧ Grow w w' := by
  refine cph fun R HR => ?_
  have HM : Hid (Calls Tryz.prog 128 #[.int .u64 1, .int .u64 1] w fun e w' => e = .returned (.tuple #[.int .u64 0, .int .u64 1]) ∧ w = w') := mulU w (n := 1) (by decide) (by decide)
  have hmk : (Instr.makeSlice 34 (.int .i64 1) (.int .i64 1)).run Tryz.prog w = .ok (.slice (some ⟨w.heap.size, 0, none⟩) 1 1) (w.alloc (.cells (negs 0 1).toArray 3)) := mk34 1 (by decide) (by decide) w
  have hn1 := blk_new w (Obj.cells (negs 0 1).toArray 3)
  have hg1 := (Grow.refl w).alloc (Obj.cells (negs 0 1).toArray 3)
  obtain ⟨w1, hw1⟩ : ∃ w1, w.alloc (Obj.cells (negs 0 1).toArray 3) = w1 := ⟨_, rfl⟩
  rw [hw1] at hmk hn1 hg1
  have hb1 := hg1.cell hb
  obtain ⟨w2, hr, hb2, hg2⟩ := copy_step (dLen := 1) (dCap := 1) (sLen := 1) (sCap := 1) (ad := ⟨b, 0, none⟩) (m := 1) hg1 (Nat.le_refl _) hn1 (by decide) (by decide) (by decide) (one_src hb1)
  have H2 := Lib.hid (And.intro hb2 hg2)
  clear hn1 hg1 hb hb2 hg2 hw1 hb1
  go_enter Tryz.func100, Tryz.ntmps100
  go_wp2_with (go_at_call 128; refine HM.out.mono ?_; rintro e w' ⟨rfl, rfl⟩)
  go_loopw [8] (fun i wr => ∃ k : Nat, 1 ≤ k ∧ k ≤ 1 ∧ i = .int .i64 k ∧ Hid (wr.heap[w.heap.size]? = some (.cells (negs k 1).toArray 3 (0, 0)) ∧ Grow w wr)) (fun i _ => 5 - (intOf i).toNat)
  case atStart => exact ⟨1, by decide, by decide, rfl, H2.out⟩
  case round =>
    obtain ⟨k, hk1, hk2, rfl, HO⟩ := hrel
    have hks : k = 1 := by omega
    rcases hks with rfl
    · go_wp2_with fail
      exact HR.out _ _ ⟨rfl, HO.out.1, HO.out.2⟩
set_option maxRecDepth 100000 in
set_option maxHeartbeats 4000000 in
theorem repeat_2 (w : World) {b : Nat} (hb : w.cell? ⟨b, 0, none⟩ = some (.int .i64 (-1))) : Calls Tryz.prog 100 #[.slice (some ⟨b, 0, none⟩) 1 1, .int .i64 2] w fun e w' => e = .returned (.slice (some ⟨w.heap.size, 0, none⟩) 2 2) ∧ w'.heap[w.heap.size]? = some (.cells (negs 2 2).toArray 3 (0, 0)) ∧ Grow w w' := by
  refine cph fun R HR => ?_
  have HM : Hid (Calls Tryz.prog 128 #[.int .u64 1, .int .u64 2] w fun e w' => e = .returned (.tuple #[.int .u64 0, .int .u64 2]) ∧ w = w') := mulU w (n := 2) (by decide) (by decide)
  have hmk : (Instr.makeSlice 34 (.int .i64 2) (.int .i64 2)).run Tryz.prog w = .ok (.slice (some ⟨w.heap.size, 0, none⟩) 2 2) (w.alloc (.cells (negs 0 2).toArray 3)) := mk34 2 (by decide) (by decide) w
  have hn1 := blk_new w (Obj.cells (negs 0 2).toArray 3)
  have hg1 := (Grow.refl w).alloc (Obj.cells (negs 0 2).toArray 3)
  obtain ⟨w1, hw1⟩ : ∃ w1, w.alloc (Obj.cells (negs 0 2).toArray 3) = w1 := ⟨_, rfl⟩
  rw [hw1] at hmk hn1 hg1
  have hb1 := hg1.cell hb
  obtain ⟨w2, hr, hb2, hg2⟩ := copy_step (dLen := 2) (dCap := 2) (sLen := 1) (sCap := 1) (ad := ⟨b, 0, none⟩) (m := 1) hg1 (Nat.le_refl _) hn1 (by decide) (by decide) (by decide) (one_src hb1)
  have H2 := Lib.hid (And.intro hb2 hg2)
  clear hn1 hg1 hb hb2 hg2 hw1 hb1
  go_enter Tryz.func100, Tryz.ntmps100
  go_wp2_with (go_at_call 128; refine HM.out.mono ?_; rintro e w' ⟨rfl, rfl⟩)
  go_loopw [8] (fun i wr => ∃ k : Nat, 1 ≤ k ∧ k ≤ 2 ∧ i = .int .i64 k ∧ Hid (wr.heap[w.heap.size]? = some (.cells (negs k 2).toArray 3 (0, 0)) ∧ Grow w wr)) (fun i _ => 5 - (intOf i).toNat)
  case atStart => exact ⟨1, by decide, by decide, rfl, H2.out⟩
  case round =>
    obtain ⟨k, hk1, hk2, rfl, HO⟩ := hrel
    have hks : k = 1 ∨ k = 2 := by omega
    rcases hks with rfl | rfl
    · obtain ⟨W', hr, hb', hg'⟩ := copy_step (dLen := 1) (dCap := 1) (sLen := 1) (sCap := 2) (W := wr.drew) (m := 1) HO.out.2.drew (Nat.le_refl _) HO.out.1 (by decide) (by decide) (by decide) (negs_src (k := 1) (by decide) HO.out.1)
      have H8 := Lib.hid (And.intro hb' hg')
      clear hb' hg'
      go_upto_region 9 with fail
      go_region_law fail
      all_goals
        simp only [Act.put, List.getElem_toArray, List.getElem_cons_zero, List.getElem_cons_succ, List.setIfInBounds_toArray, List.set_cons_zero, List.set_cons_succ]
        go_wp2_with fail
        go_roundw
        case rel => exact ⟨2, by decide, by decide, rfl, H8.out⟩
        case measure => (simp [intOf]; decide)
    · go_wp2_with fail
      exact HR.out _ _ ⟨rfl, HO.out.1, HO.out.2⟩
set_option maxRecDepth 100000 in
set_option maxHeartbeats 4000000 in
theorem repeat_3 (w : World) {b : Nat} (hb : w.cell? ⟨b, 0, none⟩ = some (.int .i64 (-1))) : Calls Tryz.prog 100 #[.slice (some ⟨b, 0, none⟩) 1 1, .int .i64 3] w fun e w' => e = .returned (.slice (some ⟨w.heap.size, 0, none⟩) 3 3) ∧ w'.heap[w.heap.size]? = some (.cells (negs 3 3).toArray 3 (0, 0)) ∧ Grow w w' := by
  refine cph fun R HR => ?_
  have HM : Hid (Calls Tryz.prog 128 #[.int .u64 1, .int .u64 3] w fun e w' => e = .returned (.tuple #[.int .u64 0, .int .u64 3]) ∧ w = w') := mulU w (n := 3) (by decide) (by decide)
  have hmk : (Instr.makeSlice 34 (.int .i64 3) (.int .i64 3)).run Tryz.prog w = .ok (.slice (some ⟨w.heap.size, 0, none⟩) 3 3) (w.alloc (.cells (negs 0 3).toArray 3)) := mk34 3 (by decide) (by decide) w
  have hn1 := blk_new w (Obj.cells (negs 0 3).toArray 3)
  have hg1 := (Grow.refl w).alloc (Obj.cells (negs 0 3).toArray 3)
  obtain ⟨w1, hw1⟩ : ∃ w1, w.alloc (Obj.cells (negs 0 3).toArray 3) = w1 := ⟨_, rfl⟩
  rw [hw1] at hmk hn1 hg1
  have hb1 := hg1.cell hb
  obtain ⟨w2, hr, hb2, hg2⟩ := copy_step (dLen := 3) (dCap := 3) (sLen := 1) (sCap := 1) (ad := ⟨b, 0, none⟩) (m := 1) hg1 (Nat.le_refl _) hn1 (by decide) (by decide) (by decide) (one_src hb1)
  have H2 := Lib.hid (And.intro hb2 hg2)
  clear hn1 hg1 hb hb2 hg2 hw1 hb1
  go_enter Tryz.func100, Tryz.ntmps100
  go_wp2_with (go_at_call 128; refine HM.out.mono ?_; rintro e w' ⟨rfl, rfl⟩)
  go_loopw [8] (fun i wr => ∃ k : Nat, 1 ≤ k ∧ k ≤ 3 ∧ i = .int .i64 k ∧ Hid (wr.heap[w.heap.size]? = some (.cells (negs k 3).toArray 3 (0, 0)) ∧ Grow w wr)) (fun i _ => 5 - (intOf i).toNat)
  case atStart => exact ⟨1, by decide, by decide, rfl, H2.out⟩
  case round =>
    obtain ⟨k, hk1, hk2, rfl, HO⟩ := hrel
    have hks : k = 1 ∨ k = 2 ∨ k = 3 := by omega
    rcases hks with rfl | rfl | rfl
    · obtain ⟨W', hr, hb', hg'⟩ := copy_step (dLen := 2) (dCap := 2) (sLen := 1) (sCap := 3) (W := wr.drew) (m := 1) HO.out.2.drew (Nat.le_refl _) HO.out.1 (by decide) (by decide) (by decide) (negs_src (k := 1) (by decide) HO.out.1)
      have H8 := Lib.hid (And.intro hb' hg')
      clear hb' hg'
      go_upto_region 9 with fail
      go_region_law fail
      all_goals
        simp only [Act.put, List.getElem_toArray, List.getElem_cons_zero, List.getElem_cons_succ, List.setIfInBounds_toArray, List.set_cons_zero, List.set_cons_succ]
        go_wp2_with fail
        go_roundw
        case rel => exact ⟨2, by decide, by decide, rfl, H8.out⟩
        case measure => (simp [intOf]; decide)
    · obtain ⟨W', hr, hb', hg'⟩ := copy_step (dLen := 1) (dCap := 1) (sLen := 2) (sCap := 3) (W := wr.drew) (m := 1) HO.out.2.drew (Nat.le_refl _) HO.out.1 (by decide) (by decide) (by decide) (negs_src (k := 2) (by decide) HO.out.1)
      have H8 := Lib.hid (And.intro hb' hg')
      clear hb' hg'
      go_upto_region 9 with fail
      go_region_law fail
      all_goals
        simp only [Act.put, List.getElem_toArray, List.getElem_cons_zero, List.getElem_cons_succ, List.setIfInBounds_toArray, List.set_cons_zero, List.set_cons_succ]
        go_wp2_with fail
        go_roundw
        case rel => exact ⟨3, by decide, by decide, rfl, H8.out⟩
        case measure => (simp [intOf]; decide)
    · go_wp2_with fail
      exact HR.out _ _ ⟨rfl, HO.out.1, HO.out.2⟩
set_option maxRecDepth 100000 in
set_option maxHeartbeats 4000000 in
theorem repeat_4 (w : World) {b : Nat} (hb : w.cell? ⟨b, 0, none⟩ = some (.int .i64 (-1))) : Calls Tryz.prog 100 #[.slice (some ⟨b, 0, none⟩) 1 1, .int .i64 4] w fun e w' => e = .returned (.slice (some ⟨w.heap.size, 0, none⟩) 4 4) ∧ w'.heap[w.heap.size]? = some (.cells (negs 4 4).toArray 3 (0, 0)) ∧ Grow w w' := by
  refine cph fun R HR => ?_
  have HM : Hid (Calls Tryz.prog 128 #[.int .u64 1, .int .u64 4] w fun e w' => e = .returned (.tuple #[.int .u64 0, .int .u64 4]) ∧ w = w') := mulU w (n := 4) (by decide) (by decide)
  have hmk : (Instr.makeSlice 34 (.int .i64 4) (.int .i64 4)).run Tryz.prog w = .ok (.slice (some ⟨w.heap.size, 0, none⟩) 4 4) (w.alloc (.cells (negs 0 4).toArray 3)) := mk34 4 (by decide) (by decide) w
  have hn1 := blk_new w (Obj.cells (negs 0 4).toArray 3)
  have hg1 := (Grow.refl w).alloc (Obj.cells (negs 0 4).toArray 3)
  obtain ⟨w1, hw1⟩ : ∃ w1, w.alloc (Obj.cells (negs 0 4).toArray 3) = w1 := ⟨_, rfl⟩
  rw [hw1] at hmk hn1 hg1
  have hb1 := hg1.cell hb
  obtain ⟨w2, hr, hb2, hg2⟩ := copy_step (dLen := 4) (dCap := 4) (sLen := 1) (sCap := 1) (ad := ⟨b, 0, none⟩) (m := 1) hg1 (Nat.le_refl _) hn1 (by decide) (by decide) (by decide) (one_src hb1)
  have H2 := Lib.hid (And.intro hb2 hg2)
  clear hn1 hg1 hb hb2 hg2 hw1 hb1
  go_enter Tryz.func100, Tryz.ntmps100
  go_wp2_with (go_at_call 128; refine HM.out.mono ?_; rintro e w' ⟨rfl, rfl⟩)
  go_loopw [8] (fun i wr => ∃ k : Nat, 1 ≤ k ∧ k ≤ 4 ∧ i = .int .i64 k ∧ Hid (wr.heap[w.heap.size]? = some (.cells (negs k 4).toArray 3 (0, 0)) ∧ Grow w wr)) (fun i _ => 5 - (intOf i).toNat)
  case atStart => exact ⟨1, by decide, by decide, rfl, H2.out⟩
  case round =>
    obtain ⟨k, hk1, hk2, rfl, HO⟩ := hrel
    have hks : k = 1 ∨ k = 2 ∨ k = 3 ∨ k = 4 := by omega
    rcases hks with rfl | rfl | rfl | rfl
    · obtain ⟨W', hr, hb', hg'⟩ := copy_step (dLen := 3) (dCap := 3) (sLen := 1) (sCap := 4) (W := wr.drew) (m := 1) HO.out.2.drew (Nat.le_refl _) HO.out.1 (by decide) (by decide) (by decide) (negs_src (k := 1) (by decide) HO.out.1)
      have H8 := Lib.hid (And.intro hb' hg')
      clear hb' hg'
      go_upto_region 9 with fail
      go_region_law fail
      all_goals
        simp only [Act.put, List.getElem_toArray, List.getElem_cons_zero, List.getElem_cons_succ, List.setIfInBounds_toArray, List.set_cons_zero, List.set_cons_succ]
        go_wp2_with fail
        go_roundw
        case rel => exact ⟨2, by decide, by decide, rfl, H8.out⟩
        case measure => (simp [intOf]; decide)
    · obtain ⟨W', hr, hb', hg'⟩ := copy_step (dLen := 2) (dCap := 2) (sLen := 2) (sCap := 4) (W := wr.drew) (m := 2) HO.out.2.drew (Nat.le_refl _) HO.out.1 (by decide) (by decide) (by decide) (negs_src (k := 2) (by decide) HO.out.1)
      have H8 := Lib.hid (And.intro hb' hg')
      clear hb' hg'
      go_upto_region 9 with fail
      go_region_law fail
      all_goals
        simp only [Act.put, List.getElem_toArray, List.getElem_cons_zero, List.getElem_cons_succ, List.setIfInBounds_toArray, List.set_cons_zero, List.set_cons_succ]
        go_wp2_with fail
        go_roundw
        case rel => exact ⟨4, by decide, by decide, rfl, H8.out⟩
        case measure => (simp [intOf]; decide)
    · obtain ⟨W', hr, hb', hg'⟩ := copy_step (dLen := 1) (dCap := 1) (sLen := 3) (sCap := 4) (W := wr.drew) (m := 1) HO.out.2.drew (Nat.le_refl _) HO.out.1 (by decide) (by decide) (by decide) (negs_src (k := 3) (by decide) HO.out.1)
      have H8 := Lib.hid (And.intro hb' hg')
      clear hb' hg'
      go_upto_region 9 with fail
      go_region_law fail
      all_goals
        simp only [Act.put, List.getElem_toArray, List.getElem_cons_zero, List.getElem_cons_succ, List.setIfInBounds_toArray, List.set_cons_zero, List.set_cons_succ]
        go_wp2_with fail
        go_roundw
        case rel => exact ⟨4, by decide, by decide, rfl, H8.out⟩
        case measure => (simp [intOf]; decide)
    · go_wp2_with fail
      exact HR.out _ _ ⟨rfl, HO.out.1, HO.out.2⟩
theorem repeat_any (w : World) {b n : Nat} (h1 : 1 ≤ n) (h4 : n ≤ 4) (hb : w.cell? ⟨b, 0, none⟩ = some (.int .i64 (-1))) : Calls Tryz.prog 100 #[.slice (some ⟨b, 0, none⟩) 1 1, .int .i64 n] w fun e w' => e = .returned (.slice (some ⟨w.heap.size, 0, none⟩) n n) ∧ w'.heap[w.heap.size]? = some (.cells (negs n n).toArray 3 (0, 0)) ∧ Grow w w' := by
  obtain rfl | rfl | rfl | rfl : n = 1 ∨ n = 2 ∨ n = 3 ∨ n = 4 := by omega
  · exact repeat_1 w hb
  · exact repeat_2 w hb
  · exact repeat_3 w hb
  · exact repeat_4 w hb
theorem thr_new {n : Nat} : (thr (newS 2 n)).map (Value.int .i64) = negs n n := by
  unfold thr negs
  rw [List.map_map, Nat.sub_self, List.replicate_zero, List.append_nil]
  apply List.ext_getElem
  · simp [newS]
  · intro i h1 h2
    simp [newS]
set_option maxHeartbeats 1000000 in
theorem epNew (w : World) (t : Int) : Calls Tryz.prog 49 #[.int .i64 t] w (NewP EM 2 w t) := by
  refine cph fun R HR => ?_
  by_cases h1 : t < 1
  · go_enter Tryz.func49, Tryz.ntmps49
    go_wp2_with fail
    exact HR.out _ _ (NewP.no (by omega) (Grow.refl _))
  by_cases h4 : 4 < t
  · go_enter Tryz.func49, Tryz.ntmps49
    go_wp2_with fail
    exact HR.out _ _ (NewP.no (by omega) (Grow.refl _))
  obtain ⟨n, rfl⟩ := Int.eq_ofNat_of_zero_le (a := t) (by omega)
  have hga := (Grow.refl w).alloc (Obj.cells #[.int .i64 (-1)] 3)
  have hna := blk_new w (Obj.cells #[.int .i64 (-1)] 3)
  have hsa := size_alloc w (Obj.cells #[.int .i64 (-1)] 3)
  obtain ⟨wa, hwa⟩ : ∃ wa, w.alloc (Obj.cells #[.int .i64 (-1)] 3) = wa := ⟨_, rfl⟩
  rw [hwa] at hga hna hsa
  have HP := Lib.hid (repeat_any wa (n := n) (by omega) (by omega) ((blk_cell hna 0).trans (rfl : _ = some (Value.int .i64 (-1)))))
  have HG := Lib.hid hga
  have HS := Lib.hid hsa
  clear hga hna hsa
  go_enter Tryz.func49, Tryz.ntmps49
  go_wp2_with (go_at_call 100; refine HP.out.mono ?_; rintro e w1 ⟨rfl, hb, hg⟩; have H1 := Lib.hid (And.intro hb hg); clear hb hg)
  refine HR.out _ _ (NewP.yes (F := fun k => k = w1.heap.size ∨ k = wa.heap.size ∨ (Value.slice none 0 0).ownBlock = some k) ⟨by omega, by omega⟩ ?_ ((HG.out.trans H1.out.2).alloc _) (fun j hj => by
    have h1 := HS.out
    have h2 := H1.out.2.size
    rcases hj with e | e | e
    · omega
    · omega
    · simp [Value.ownBlock] at e))
  have hl : (negs n n).length = n := by simp [negs]
  refine ⟨wa.heap.size, .slice none 0 0, rfl, ok_new 2 (by omega) (by omega), fun t ht => by simp [newS] at ht, blk_new w1 _, ?_, World.ownsRow_nil _ _ _ _, fun k => Iff.rfl⟩
  show World.ownsRow _ 0 3 1 (.slice (some ⟨wa.heap.size, 0, none⟩) n n) n ((thr (newS 2 n)).map (Value.int .i64))
  rw [thr_new]
  exact ⟨by rw [hl]; omega, .inr ⟨wa.heap.size, n, _, rfl, Nat.zero_le _, ((Grow.refl w1).alloc _).at_ H1.out.1, Nat.le_refl _, by unfold maxLen; omega, by simp [negs], by simp; exact List.take_of_length_le (by omega)⟩⟩
end Go.Proofs.YtcgcljmnnjalpaaGreat
