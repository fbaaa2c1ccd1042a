/- The contract of the reference's Counts, for every size and every list of accesses that memory holds. -/
import Derived.Test.YtabplbalacldfaaLSame
import Derived.Test.YtabplbalacldfaaLAlone
import Derived.BigRegion
set_option linter.unusedVariables false
set_option linter.unusedSimpArgs false
namespace Go.Proofs.Ytabplbalacldfaa
open Go.RowKit Go.Kx
/-- The array of the reference's four counts. -/
def CAt (w : World) (b : Nat) (f : Nat → Nat → Int) : Prop :=
  ∃ c, w.heap[b]? = some (.cells c 41 (0, 0)) ∧ c.size = 16 ∧ ∀ t j, t < 4 → j < 4 → c[t * 4 + j]? = some (.int .i64 (f t j))
theorem CAt.set {w : World} {b : Nat} {f : Nat → Nat → Int} (h : CAt w b f) {t j : Nat} (ht : t < 4) (hj : j < 4) (v : Int) : CAt (w.setCell ⟨b, t * 4 + j, none⟩ (.int .i64 v)) b (fun t' j' => if t' = t ∧ j' = j then v else f t' j') := by
  obtain ⟨c, h1, h2, h3⟩ := h
  refine ⟨_, blk_set h1 _ _, by simpa using h2, fun t' j' ht' hj' => ?_⟩
  rw [arr_get_set]
  by_cases e : t' = t ∧ j' = j
  · obtain ⟨rfl, rfl⟩ := e
    simp [h2]; omega
  · rw [if_neg (by omega)]; simp only [if_neg e]; exact h3 t' j' ht' hj'
theorem CAt.fr {w w' : World} {b : Nat} {f : Nat → Nat → Int} (h : CAt w b f) {S : Nat → Prop} (hf : Fr S w w') (hn : ¬ S b) : CAt w' b f := by
  obtain ⟨c, h1, h2, h3⟩ := h
  exact ⟨c, hf.at_ h1 hn, h2, h3⟩
theorem CAt.cell {w : World} {b : Nat} {f : Nat → Nat → Int} (h : CAt w b f) {t j : Nat} (ht : t < 4) (hj : j < 4) : w.cell? ⟨b, t * 4 + j, none⟩ = some (.int .i64 (f t j)) := by
  obtain ⟨c, h1, h2, h3⟩ := h
  rw [blk_cell h1]; exact h3 t j ht hj
theorem CAt.free {w : World} {b : Nat} {f : Nat → Nat → Int} (h : CAt w b f) (o : Nat) : w.frozen? ⟨b, o, none⟩ = false := by
  obtain ⟨c, h1, h2, h3⟩ := h
  exact blk_free h1 o
theorem CAt.lt {w : World} {b : Nat} {f : Nat → Nat → Int} (h : CAt w b f) : b < w.heap.size := by
  obtain ⟨c, h1, h2, h3⟩ := h
  exact blk_lt h1
theorem CAt.row {w : World} {b : Nat} {f : Nat → Nat → Int} (h : CAt w b f) {t : Nat} (ht : t < 4) (v0 v1 v2 v3 : Int) :
    CAt ((((w.setCell ⟨b, t * 4, none⟩ (.int .i64 v0)).setCell ⟨b, t * 4 + 1, none⟩ (.int .i64 v1)).setCell ⟨b, t * 4 + 2, none⟩ (.int .i64 v2)).setCell ⟨b, t * 4 + 3, none⟩ (.int .i64 v3)) b
      (fun t' j => if t' = t then (match j with | 0 => v0 | 1 => v1 | 2 => v2 | _ => v3) else f t' j) := by
  have h4 := (((h.set ht (show 0 < 4 by omega) v0).set ht (show 1 < 4 by omega) v1).set ht (show 2 < 4 by omega) v2).set ht (show 3 < 4 by omega) v3
  obtain ⟨c, h1, h2, h3⟩ := h4
  refine ⟨c, h1, h2, fun t' j ht' hj => ?_⟩
  rw [h3 t' j ht' hj]
  by_cases e : t' = t
  · subst e
    match j, hj with
    | 0, _ | 1, _ | 2, _ | 3, _ => simp
  · simp [e]
theorem bumpC {w : World} {b : Nat} {ps : List Tg} {p : Tg} {t : Nat} {y z : Int} {m g : Bool} (hp : p = (((t : Int), y, z), m, g)) {r0 r1 r2 r3 : Int} (hr : cnt ps t 0 = r0 ∧ cnt ps t 1 = r1 ∧ cnt ps t 2 = r2 ∧ cnt ps t 3 = r3)
    (h : CAt w b (fun t' j => if t' = t then (match j with | 0 => r0 + (if z == 1 then 0 else 1) | 1 => r1 + (if z == 1 then 1 else 0) | 2 => r2 + (if m then 1 else 0) | _ => r3 + (if g then 1 else 0)) else cnt ps t' j)) : CAt w b (cnt (ps ++ [p])) := by
  obtain ⟨c, h1, h2, h3⟩ := h
  refine ⟨c, h1, h2, fun t' j ht hj => ?_⟩
  rw [h3 t' j ht hj, cnt_snoc, hp]
  by_cases e : t' = t
  · subst e
    simp only [if_true, beq_self_eq_true, Bool.true_and]
    obtain ⟨e0, e1, e2, e3⟩ := hr
    match j, hj with
    | 0, _ => rw [e0]; cases hz : z == 1 <;> simp [inc, hz]
    | 1, _ => rw [e1]; cases hz : z == 1 <;> simp [inc, hz]
    | 2, _ => rw [e2]; cases m <;> simp [inc]
    | 3, _ => rw [e3]; cases g <;> simp [inc]
  · have : ((t : Int) == (t' : Int)) = false := by simp; omega
    simp [e, this]
theorem make33 (w : World) : (Instr.makeSlice 33 (.int .i64 4) (.int .i64 4)).run Try.prog w = .ok (.slice (some ⟨w.heap.size, 0, none⟩) 4 4) (w.alloc (.cells #[.int .i64 0, .int .i64 0, .int .i64 0, .int .i64 0, .int .i64 0, .int .i64 0, .int .i64 0, .int .i64 0, .int .i64 0, .int .i64 0, .int .i64 0, .int .i64 0, .int .i64 0, .int .i64 0, .int .i64 0, .int .i64 0] 41)) := by kernel_rfl
theorem cStart (w : World) : CAt (w.alloc (.cells #[.int .i64 0, .int .i64 0, .int .i64 0, .int .i64 0, .int .i64 0, .int .i64 0, .int .i64 0, .int .i64 0, .int .i64 0, .int .i64 0, .int .i64 0, .int .i64 0, .int .i64 0, .int .i64 0, .int .i64 0, .int .i64 0] 41)) w.heap.size (cnt []) := by
  refine ⟨_, blk_new w _, rfl, fun t j ht hj => ?_⟩
  match t, ht, j, hj with
  | 0, _, 0, _ | 0, _, 1, _ | 0, _, 2, _ | 0, _, 3, _ | 1, _, 0, _ | 1, _, 1, _ | 1, _, 2, _ | 1, _, 3, _ | 2, _, 0, _ | 2, _, 1, _ | 2, _, 2, _ | 2, _, 3, _ | 3, _, 0, _ | 3, _, 1, _ | 3, _, 2, _ | 3, _, 3, _ => rfl
def boxOf (a b c d : Int) : Obj := .cells #[.int .i64 a, .int .i64 b, .int .i64 c, .int .i64 d] 41 (0, 0)
set_option maxHeartbeats 4000000 in
set_option maxRecDepth 100000 in
theorem refCounts_any (w : World) (A : Option Addr) (l : List A3) (cap : Nat) (size : Int) (hl : Acc w A l) (hn : l.length ≤ 1000) :
    Calls Try.prog 12 #[.int .i64 size, .slice A l.length cap] w (CountsP w size l) := by
  refine cph fun R HR => ?_
  have HV := Lib.hid (right_any w A l cap size hl (by unfold maxLen; omega))
  have HL := Lib.hid hl
  clear hl
  cases hgood : goodB size l
  · go_enter Try.func12, Try.ntmps12
    go_wp2_with (go_at_call 30; refine HV.out.mono ?_)
    rintro e w1 ⟨rfl, hg⟩
    have HG := Lib.hid hg
    clear hg
    rw [hgood]
    go_wp2_with fail
    exact HR.out _ _ (.inr ⟨hgood, rfl, HG.out⟩)
  · obtain ⟨p1, p2, p3, p4⟩ := good_parts hgood
    have HOK := Lib.hid p4
    have HGD := Lib.hid hgood
    clear p4
    rw [hgood] at HV
    clear hgood
    go_enter Try.func12, Try.ntmps12
    go_wp2_with (go_at_call 30; refine HV.out.mono ?_)
    rintro e w1 ⟨rfl, hg⟩
    have HG := Lib.hid hg
    clear hg
    have hmk := make33
    go_wp2_with fail
    clear hmk
    go_loopw [7] (fun i wr => ∃ k : Nat, k ≤ l.length ∧ i = .int .i64 k ∧ Hid (CAt wr w1.heap.size (cnt ((tg size l).take k)) ∧ Grow w1 wr) ∧ w1.heap.size < wr.heap.size) (fun i _ => l.length - (intOf i).toNat)
    case atStart => exact ⟨0, by omega, rfl, ⟨cStart _, (Grow.refl _).alloc _⟩, by simp⟩
    case round =>
      obtain ⟨k, hk, rfl, HI, hlt3⟩ := hrel
      by_cases hlt : k < l.length
      · obtain ⟨⟨x, y, z⟩, hx⟩ : ∃ x, l[k]? = some x := ⟨l[k]'(by omega), by simp⟩
        obtain ⟨b, off, hAe, hacc⟩ := HL.out.resolve_left (by rintro rfl; simp at hlt)
        subst hAe
        have hacc2 := hacc.grow (HG.out.trans HI.out.2)
        obtain ⟨c0, c1, c2⟩ := hacc2 k _ hx
        have hbw := World.block_lt_of_cell? _ _ (hacc.grow HG.out k _ hx).1
        dsimp only at c0 c1 c2 hbw
        have hb := HOK.out _ (List.mem_of_getElem? hx)
        simp [bad] at hb
        obtain ⟨⟨⟨⟨⟨b1, b2⟩, b3⟩, b4⟩, b5⟩, b6⟩ := hb
        obtain ⟨t, rfl⟩ := Int.eq_ofNat_of_zero_le b1
        have ht : t < 4 := by omega
        have HX := Lib.hid hx
        have HACC := Lib.hid hacc
        clear hx hacc hacc2
        have hat := HI.out.1
        have d0 := hat.cell ht (show 0 < 4 by omega)
        have d1 := hat.cell ht (show 1 < 4 by omega)
        have d2 := hat.cell ht (show 2 < 4 by omega)
        have d3 := hat.cell ht (show 3 < 4 by omega)
        have n0 := cnt_bound ((tg size l).take k) t 0
        have n1 := cnt_bound ((tg size l).take k) t 1
        have n2 := cnt_bound ((tg size l).take k) t 2
        have n3 := cnt_bound ((tg size l).take k) t 3
        have n4 : ((tg size l).take k).length ≤ 2000 := by have := List.length_take_le k (tg size l); omega
        generalize hr0 : cnt ((tg size l).take k) t 0 = r0 at d0 n0
        generalize hr1 : cnt ((tg size l).take k) t 1 = r1 at d1 n1
        generalize hr2 : cnt ((tg size l).take k) t 2 = r2 at d2 n2
        generalize hr3 : cnt ((tg size l).take k) t 3 = r3 at d3 n3
        have n01 := n0.1
        have n02 : r0 ≤ 2000 := by omega
        have n11 := n1.1
        have n12 : r1 ≤ 2000 := by omega
        have n21 := n2.1
        have n22 : r2 ≤ 2000 := by omega
        have n31 := n3.1
        have n32 : r3 ≤ 2000 := by omega
        have HCN := Lib.hid (And.intro hr0 (And.intro hr1 (And.intro hr2 hr3)))
        clear n0 n1 n2 n3 n4 hr0 hr1 hr2 hr3 hat
        rw [Nat.add_zero] at d0
        have hki : (k : Int) < (l.length : Int) := by omega
        have hk0 : (0 : Int) ≤ (k : Int) := by omega
        have hbr : b < wr.heap.size := by have := HI.out.2.size; omega
        have HJ := fun wx (hgx : Grow w1 wx) => Lib.hid (judge_any wx b off l cap size k (t, y, z) (HACC.out.grow (HG.out.trans hgx)) HX.out (by omega) p1 p2 HOK.out)
        go_wp2_with (go_at_call 31; refine (HJ _ (HI.out.2.alloc _)).out.mono ?_)
        rintro e w2 ⟨rfl, hg2⟩
        have hbx := hg2.at_ (blk_new wr (.cells #[.int .i64 r0, .int .i64 r1, .int .i64 r2, .int .i64 r3] 41))
        generalize hm : (judgeOf size l k (t, y, z)).1 = m
        generalize hgf : (judgeOf size l k (t, y, z)).2 = g
        have HMG := Lib.hid (And.intro hm hgf)
        have HG2 := Lib.hid (((Grow.refl wr).alloc _).trans hg2)
        have hs2 : wr.heap.size < w2.heap.size := blk_lt hbx
        have hs3 : b < w2.heap.size := by omega
        have e0 := blk_cell hbx 0
        have e1 := blk_cell hbx 1
        have e2 := blk_cell hbx 2
        have e3 := blk_cell hbx 3
        have f0 := blk_free hbx 0
        have f1 := blk_free hbx 1
        have f2 := blk_free hbx 2
        have f3 := blk_free hbx 3
        simp only [List.getElem?_toArray, List.getElem?_cons_zero, List.getElem?_cons_succ] at e0 e1 e2 e3
        have k0 := HG2.out.cell c0
        have k1 := HG2.out.cell c1
        have k2 := HG2.out.cell c2
        have HBX := Lib.hid hbx
        clear hm hgf hg2 c0 c1 c2 d0 d1 d2 d3 hbx
        go_upto_if 42 with fail
        go_cut [] (fun wx => Hid (Fr (· = wr.heap.size) w2 wx ∧ wx.heap[wr.heap.size]? = some (boxOf (r0 + (if z == 1 then 0 else 1)) (r1 + (if z == 1 then 1 else 0)) r2 r3)))
        case first =>
          rcases (show z = 0 ∨ z = 1 by omega) with hz | hz <;> subst hz
          · go_wp2; go_meet
            exact ⟨(Fr.refl _ _).setCell _ _ (.inr rfl), by rw [blk_set HBX.out]; simp [boxOf]⟩
          · go_wp2; go_meet
            exact ⟨(Fr.refl _ _).setCell _ _ (.inr rfl), by rw [blk_set HBX.out]; simp [boxOf]⟩
        case rest =>
        generalize ha0 : (r0 + (if z == 1 then 0 else 1) : Int) = a0 at hcut
        generalize ha1 : (r1 + (if z == 1 then 1 else 0) : Int) = a1 at hcut
        have q01 : 0 ≤ a0 := by subst ha0; split <;> omega
        have q11 : 0 ≤ a1 := by subst ha1; split <;> omega
        have HQ := Lib.hid (And.intro ha0 ha1)
        clear e0 e1 e2 e3 f0 f1 f2 f3 k0 k1 k2 ha0 ha1
        obtain ⟨w3, hw3⟩ : ∃ w3, w3 = wc := ⟨_, rfl⟩
        subst hw3
        have H3 := Lib.hid hcut.out
        have e0 := blk_cell hcut.out.2 0
        have e1 := blk_cell hcut.out.2 1
        have e2 := blk_cell hcut.out.2 2
        have e3 := blk_cell hcut.out.2 3
        have f2 := blk_free hcut.out.2 2
        simp only [List.getElem?_toArray, List.getElem?_cons_zero, List.getElem?_cons_succ] at e0 e1 e2 e3
        clear hcut
        go_upto_if 51 with fail
        go_cut [] (fun wx => Hid (Fr (· = wr.heap.size) w2 wx ∧ wx.heap[wr.heap.size]? = some (boxOf a0 a1 (r2 + (if m then 1 else 0)) r3)))
        case first =>
          cases m
          · go_wp2; go_meet
            exact ⟨H3.out.1, by rw [H3.out.2]; simp⟩
          · go_wp2; go_meet
            exact ⟨H3.out.1.setCell _ _ (.inr rfl), by rw [blk_set H3.out.2]; simp [boxOf]⟩
        case rest =>
        generalize ha2 : (r2 + (if m then 1 else 0) : Int) = a2 at hcut
        have q21 : 0 ≤ a2 := by subst ha2; split <;> omega
        have HQ2 := Lib.hid ha2
        clear e0 e1 e2 e3 f2 ha2
        obtain ⟨w4, hw4⟩ : ∃ w4, w4 = wc := ⟨_, rfl⟩
        subst hw4
        have H4 := Lib.hid hcut.out
        have e0 := blk_cell hcut.out.2 0
        have e1 := blk_cell hcut.out.2 1
        have e2 := blk_cell hcut.out.2 2
        have e3 := blk_cell hcut.out.2 3
        have f3 := blk_free hcut.out.2 3
        simp only [List.getElem?_toArray, List.getElem?_cons_zero, List.getElem?_cons_succ] at e0 e1 e2 e3
        clear hcut
        go_upto_if 56 with fail
        go_cut [] (fun wx => Hid (Fr (· = wr.heap.size) w2 wx ∧ wx.heap[wr.heap.size]? = some (boxOf a0 a1 a2 (r3 + (if g then 1 else 0)))))
        case first =>
          cases g
          · go_wp2; go_meet
            exact ⟨H4.out.1, by rw [H4.out.2]; simp⟩
          · go_wp2; go_meet
            exact ⟨H4.out.1.setCell _ _ (.inr rfl), by rw [blk_set H4.out.2]; simp [boxOf]⟩
        case rest =>
        generalize ha3 : (r3 + (if g then 1 else 0) : Int) = a3 at hcut
        have HQ3 := Lib.hid ha3
        clear e0 e1 e2 e3 f3 ha3
        obtain ⟨w5, hw5⟩ : ∃ w5, w5 = wc := ⟨_, rfl⟩
        subst hw5
        have H5 := Lib.hid hcut.out
        have e0 := blk_cell hcut.out.2 0
        have e1 := blk_cell hcut.out.2 1
        have e2 := blk_cell hcut.out.2 2
        have e3 := blk_cell hcut.out.2 3
        simp only [List.getElem?_toArray, List.getElem?_cons_zero, List.getElem?_cons_succ] at e0 e1 e2 e3
        clear hcut
        have hgr5 : Grow wr w5 := Fr.then HG2.out H5.out.1 (fun i hi hs => by omega)
        have hat5 : CAt w5 w1.heap.size (cnt ((tg size l).take k)) := HI.out.1.fr hgr5 (fun h => h)
        have hs5 := hgr5.size
        obtain ⟨c0, _, _⟩ := (HACC.out.grow (HG.out.trans (HI.out.2.trans hgr5))) k _ HX.out
        have g0 := hat5.free (t * 4)
        have g1 := hat5.free (t * 4 + 1)
        have g2 := hat5.free (t * 4 + 2)
        have g3 := hat5.free (t * 4 + 3)
        have d0 := hat5.cell ht (show 0 < 4 by omega)
        have d1 := hat5.cell ht (show 1 < 4 by omega)
        have d2 := hat5.cell ht (show 2 < 4 by omega)
        have d3 := hat5.cell ht (show 3 < 4 by omega)
        rw [Nat.add_zero] at d0
        dsimp only at c0
        have HE := Lib.hid (And.intro hgr5 hat5)
        clear hgr5 hat5
        have ht4 : (t : Int) < 4 := by omega
        have ht0 : (0 : Int) ≤ (t : Int) := by omega
        go_wp2_with fail
        go_region
        all_goals go_wp2_with fail
        all_goals go_roundw
        case rel =>
          have hrow := HE.out.2.row ht a0 a1 a2 a3
          refine ⟨k + 1, by omega, by go_num, ⟨?_, ?_⟩, by simp; omega⟩
          · obtain ⟨q0, q1⟩ := HQ.out
            have q2 := HQ2.out
            have q3 := HQ3.out
            have hmg := HMG.out
            have htg : (tg size l)[k]? = some (((t : Int), y, z), m, g) := by
              unfold tg
              rw [List.getElem?_zip_eq_some]
              refine ⟨HX.out, ?_⟩
              rw [judge_eq HOK.out HX.out, ← hmg.1, ← hmg.2]
            rw [take_snoc htg]
            refine bumpC rfl HCN.out (r0 := r0) (r1 := r1) (r2 := r2) (r3 := r3) (t := t) (y := y) (z := z) (m := m) (g := g) ?_
            rw [q0, q1, q2, q3]
            exact hrow
          · exact ((((HI.out.2.trans HE.out.1).setCell ⟨w1.heap.size, t * 4, none⟩ _ (Nat.le_refl _)).setCell ⟨w1.heap.size, t * 4 + 1, none⟩ _ (Nat.le_refl _)).setCell ⟨w1.heap.size, t * 4 + 2, none⟩ _ (Nat.le_refl _)).setCell ⟨w1.heap.size, t * 4 + 3, none⟩ _ (Nat.le_refl _) |>.drew
        case measure => simp [intOf]; omega
      · obtain rfl : k = l.length := by omega
        go_wp2_with fail
        refine HR.out _ _ (.inl ⟨HGD.out, _, _, rfl, Nat.le_refl _, fun t j ht hj => ?_, HG.out.trans HI.out.2, hlt3⟩)
        have := HI.out.1.cell ht hj
        rwa [List.take_of_length_le (by rw [tg_length]; exact Nat.le_refl _)] at this
end Go.Proofs.Ytabplbalacldfaa
