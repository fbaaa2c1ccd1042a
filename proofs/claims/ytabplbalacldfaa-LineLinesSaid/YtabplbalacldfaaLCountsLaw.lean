/- The statement LineCounts answers true, for every size and list of accesses that memory holds. -/
import Derived.Test.YtabplbalacldfaaLRefCounts
set_option linter.unusedVariables false
set_option linter.unusedSimpArgs false
namespace Go.Proofs.Ytabplbalacldfaa
open Go.RowKit Go.Kx
theorem outs_imp (size : Int) (l : List A3) : ∀ st, ∀ p ∈ outs size l st, p.2 = true → p.1 = true := by
  induction l with
  | nil => intro st p hp; simp [outs] at hp
  | cons a l ih =>
    intro st p hp h
    simp only [outs, List.mem_cons] at hp
    rcases hp with rfl | hp
    · simp only [wgOf, Copy.wrong, Bool.and_eq_true] at h
      exact h.1.1
    · exact ih _ p hp h
theorem cnt_le (size : Int) (l : List A3) (t : Nat) : cnt (tg size l) t 3 ≤ cnt (tg size l) t 2 := by
  unfold cnt
  rw [← List.countP_eq_length_filter, ← List.countP_eq_length_filter]
  have : List.countP (fun p : Tg => p.1.1 == (t : Int) && inc 3 p) (tg size l) ≤ List.countP (fun p : Tg => p.1.1 == (t : Int) && inc 2 p) (tg size l) := by
    refine List.countP_mono_left fun p hp h => ?_
    simp only [Bool.and_eq_true] at h ⊢
    refine ⟨h.1, ?_⟩
    have hm : p.2 ∈ outs size l st0 := (List.of_mem_zip hp).2
    exact outs_imp size l st0 _ hm h.2
  omega
def trues (l : List Bool) : Int := ((l.filter id).length : Int)
theorem trues_snoc (l : List Bool) (b : Bool) : trues (l ++ [b]) = trues l + if b then 1 else 0 := by
  unfold trues
  cases b <;> simp
theorem trues_bound (l : List Bool) : 0 ≤ trues l ∧ trues l ≤ l.length := by
  unfold trues
  have := List.length_filter_le id l
  omega
def sumTo (f : Nat → Int) : Nat → Int
  | 0 => 0
  | n + 1 => sumTo f n + f n
theorem sumTo_bound {f : Nat → Int} {B : Int} (h : ∀ n, 0 ≤ f n ∧ f n ≤ B) (n : Nat) : 0 ≤ sumTo f n ∧ sumTo f n ≤ n * B := by
  induction n with
  | zero => simp [sumTo]
  | succ n ih =>
    have := h n
    have e : ((n + 1 : Nat) : Int) * B = n * B + B := by rw [Int.natCast_add, Int.add_mul]; simp
    simp only [sumTo]
    rw [e]
    omega
theorem total {size : Int} {l : List A3} (hok : ∀ x ∈ l, bad x = false) : ∀ k, k ≤ l.length → sumTo (fun t => cnt ((tg size l).take k) t 2) 4 = trues ((mvs size l).take k) := by
  intro k
  induction k with
  | zero => intro _; rfl
  | succ k ih =>
    intro hk
    obtain ⟨⟨x, y, z⟩, hx⟩ : ∃ x, l[k]? = some x := ⟨l[k]'(by omega), by simp⟩
    obtain ⟨⟨m, g⟩, hmg⟩ : ∃ p, (outs size l st0)[k]? = some p := ⟨(outs size l st0)[k]'(by rw [outs_length]; omega), by simp⟩
    have hb := hok _ (List.mem_of_getElem? hx)
    simp [bad] at hb
    have htg : (tg size l)[k]? = some ((x, y, z), m, g) := by
      unfold tg
      rw [List.getElem?_zip_eq_some]
      exact ⟨hx, hmg⟩
    have hmv : (mvs size l)[k]? = some m := by simp [mvs, hmg]
    rw [take_snoc htg, take_snoc hmv, trues_snoc, ← ih (by omega)]
    simp only [sumTo, cnt_snoc, inc]
    cases m
    · simp
    · simp only [Bool.and_true]
      rcases (show x = 0 ∨ x = 1 ∨ x = 2 ∨ x = 3 by omega) with rfl | rfl | rfl | rfl <;> simp <;> omega
theorem cnt_at {w w' : World} {size : Int} {l : List A3} {g : Nat} (hc : ∀ t j, t < 4 → j < 4 → w.cell? ⟨g, t * 4 + j, none⟩ = some (.int .i64 (cnt (tg size l) t j))) (hg : Grow w w') : ∀ t j, t < 4 → j < 4 → w'.cell? ⟨g, t * 4 + j, none⟩ = some (.int .i64 (cnt (tg size l) t j)) :=
  fun t j ht hj => hg.cell (hc t j ht hj)
def BadP (w : World) (e : Ending) (w' : World) : Prop := e = .returned (.tuple #[.slice none 0 0, .int .i64 1]) ∧ Grow w w'
def MovesGood (w : World) (size : Int) (l : List A3) (e : Ending) (w' : World) : Prop := ∃ A c, e = .returned (.tuple #[.slice A l.length c, .int .i64 0]) ∧ w'.ownsRow w.heap.size 4 1 (.slice A l.length c) l.length (bools (mvs size l)) ∧ Grow w w'
theorem CountsP.good {w : World} {size : Int} {l : List A3} {e : Ending} {w' : World} (h : CountsP w size l e w') (hg : goodB size l = true) : CountsGood w size l e w' := by
  rcases h with h | h
  · exact h.2
  · exact absurd (hg.symm.trans h.1) (by decide)
theorem CountsP.bad {w : World} {size : Int} {l : List A3} {e : Ending} {w' : World} (h : CountsP w size l e w') (hg : goodB size l = false) : BadP w e w' := by
  rcases h with h | h
  · exact absurd (hg.symm.trans h.1) (by decide)
  · exact h.2
theorem MovesP.good {w : World} {size : Int} {l : List A3} {e : Ending} {w' : World} (h : MovesP w size l e w') (hg : goodB size l = true) : MovesGood w size l e w' := by
  obtain ⟨h1, v, err, rfl, h2, _⟩ := h
  obtain ⟨rfl, h3⟩ := h2 hg
  obtain ⟨A, c, rfl⟩ := bools_shape h3
  exact ⟨A, c, rfl, h3, h1⟩
theorem MovesP.bad {w : World} {size : Int} {l : List A3} {e : Ending} {w' : World} (h : MovesP w size l e w') (hg : goodB size l = false) : BadP w e w' := by
  obtain ⟨h1, v, err, rfl, _, h2⟩ := h
  obtain ⟨rfl, rfl⟩ := h2 hg
  exact ⟨rfl, h1⟩
theorem same_self (w : World) (A B : Option Addr) (l : List A3) (cap cap2 : Nat) (hl : Acc w A l) (hm : Acc w B l) (hn : l.length ≤ 4000) : Calls Try.prog 17 #[.slice A l.length cap, .slice B l.length cap2] w (TrueP w) :=
  (same_any w A B l l cap cap2 hl hm hn hn).mono fun e w' ⟨h1, h2⟩ => ⟨by rw [h1, decide_eq_true rfl], h2⟩
set_option maxRecDepth 100000 in
set_option maxHeartbeats 4000000 in
theorem counts_law (w : World) (A : Option Addr) (l : List A3) (cap : Nat) (size : Int) (hA : Arg w A l cap) :
    Calls Try.prog 4 #[.int .i64 size, .slice A l.length cap] w (TrueP w) := by
  refine cph fun R HR => ?_
  have HA := Lib.hid hA
  clear hA
  by_cases h1 : (300 : Int) < (l.length : Int)
  · go_enter Try.func4, Try.ntmps4
    go_wp2_with (go_at_call 9; refine (sane_p _).mono ?_)
    rintro e w1 ⟨rfl, hg⟩
    have HG := Lib.hid hg
    clear hg
    go_wp2_with fail
    exact HR.out _ _ ⟨rfl, HG.out⟩
  · have h1' : (l.length : Int) ≤ 300 := by omega
    clear h1
    have HO := Lib.hid (own_any w A l cap HA.out (by omega))
    go_enter Try.func4, Try.ntmps4
    go_wp2_with (go_at_call 11; refine HO.out.mono ?_)
    rintro e w1 ⟨v1, rfl, hown, hg1⟩
    obtain ⟨B, cap2, rfl, hB, _⟩ := acc_owns hown
    have HB := fun wx (hgx : Grow w1 wx) => Lib.hid (hB.grow hgx)
    have H1 := Lib.hid hg1
    clear hown hg1 HO
    have HAC := fun wx (hgx : Grow w wx) => Lib.hid (HA.out.acc.grow hgx)
    have hmax : Hid (l.length ≤ maxLen) := by show _ ≤ _; unfold maxLen; omega
    cases hgood : goodB size l
    · have HGD := Lib.hid hgood
      clear hgood
      go_wp2_with (go_at_call 10; refine ((counts_p w1 A l cap size (HAC _ H1.out).out (by omega)).mono fun _ _ h => h.bad HGD.out).mono ?_)
      rintro e w2 ⟨rfl, hg⟩
      have H2 := Lib.hid hg
      clear hg
      go_wp2_with (go_at_call 12; refine ((refCounts_any w2 B l cap2 size (HB _ H2.out).out (by omega)).mono fun _ _ h => h.bad HGD.out).mono ?_)
      rintro e w3 ⟨rfl, hg⟩
      have H3 := Lib.hid (H2.out.trans hg)
      clear hg
      go_wp2_with (go_at_call 13; refine ((moves_p w3 A l cap size (HAC _ (H1.out.trans H3.out)).out (by omega)).mono fun _ _ h => h.bad HGD.out).mono ?_)
      rintro e w4 ⟨rfl, hg⟩
      have H4 := Lib.hid (H3.out.trans hg)
      clear hg
      go_wp2_with (go_at_call 14; refine ((refMoves_any w4 B l cap2 size (HB _ H4.out).out (by omega)).mono fun _ _ h => h.bad HGD.out).mono ?_)
      rintro e w5 ⟨rfl, hg⟩
      have H5 := Lib.hid (H4.out.trans hg)
      clear hg
      go_wp2_with (go_at_call 15; refine (valid_any w5 A l cap (HAC _ (H1.out.trans H5.out)).out hmax.out).mono ?_)
      rintro e w6 ⟨rfl, hg⟩
      have H6 := Lib.hid (H5.out.trans hg)
      clear hg
      go_wp2_with (go_at_call 16; refine (refValid_any w6 B l cap2 (HB _ H6.out).out hmax.out).mono ?_)
      rintro e w7 ⟨rfl, hg⟩
      have H7 := Lib.hid (H6.out.trans hg)
      clear hg
      go_wp2_with (go_at_call 17; refine (same_self w7 A B l cap cap2 (HAC _ (H1.out.trans H7.out)).out (HB _ H7.out).out (by omega)).mono ?_)
      rintro e w8 ⟨rfl, hg⟩
      have H8 := Lib.hid (H7.out.trans hg)
      clear hg
      go_wp2_with fail
      refine wp_loop_once ?_
      go_wp2_with fail
      refine wp_loop_once ?_
      go_wp2_with (go_at_call 9; refine (sane_p _).mono ?_)
      rintro e w9 ⟨rfl, hg⟩
      have H9 := Lib.hid (H8.out.trans hg)
      clear hg
      go_wp2_with fail
      exact HR.out _ _ ⟨rfl, H1.out.trans H9.out⟩
    · obtain ⟨p1, p2, p3, p4⟩ := good_parts hgood
      have HGD := Lib.hid hgood
      have HOK := Lib.hid p4
      clear hgood p4
      go_wp2_with (go_at_call 10; refine ((counts_p w1 A l cap size (HAC _ H1.out).out (by omega)).mono fun _ _ h => h.good HGD.out).mono ?_)
      rintro e w2 ⟨g1, ca1, rfl, hca1, hc1, hg, hl1⟩
      have H2 := Lib.hid hg
      have HC1 := Lib.hid hc1
      clear hg hc1
      go_wp2_with (go_at_call 12; refine ((refCounts_any w2 B l cap2 size (HB _ H2.out).out (by omega)).mono fun _ _ h => h.good HGD.out).mono ?_)
      rintro e w3 ⟨g2, ca2, rfl, hca2, hc2, hg, hl2⟩
      have H3 := Lib.hid hg
      have HC2 := Lib.hid hc2
      clear hg hc2
      have H3a := Lib.hid (H2.out.trans H3.out)
      go_wp2_with (go_at_call 13; refine ((moves_p w3 A l cap size (HAC _ (H1.out.trans H3a.out)).out (by omega)).mono fun _ _ h => h.good HGD.out).mono ?_)
      rintro e w4 ⟨M1, cm1, rfl, hm1, hg⟩
      have H4 := Lib.hid hg
      have HM1 := Lib.hid hm1
      clear hg hm1
      have H4a := Lib.hid (H3a.out.trans H4.out)
      go_wp2_with (go_at_call 14; refine ((refMoves_any w4 B l cap2 size (HB _ H4a.out).out (by omega)).mono fun _ _ h => h.good HGD.out).mono ?_)
      rintro e w5 ⟨M2, cm2, rfl, hm2, hg⟩
      have H5 := Lib.hid hg
      have HM2 := Lib.hid hm2
      clear hg hm2
      have H5a := Lib.hid (H4a.out.trans H5.out)
      go_wp2_with (go_at_call 15; refine (valid_any w5 A l cap (HAC _ (H1.out.trans H5a.out)).out hmax.out).mono ?_)
      rintro e w6 ⟨rfl, hg⟩
      have H6 := Lib.hid hg
      clear hg
      have H6a := Lib.hid (H5a.out.trans H6.out)
      go_wp2_with (go_at_call 16; refine (refValid_any w6 B l cap2 (HB _ H6a.out).out hmax.out).mono ?_)
      rintro e w7 ⟨rfl, hg⟩
      have H7 := Lib.hid (H6.out.trans hg)
      clear hg
      have H7a := Lib.hid (H5a.out.trans H7.out)
      go_wp2_with (go_at_call 17; refine (same_self w7 A B l cap cap2 (HAC _ (H1.out.trans H7a.out)).out (HB _ H7a.out).out (by omega)).mono ?_)
      rintro e w8 ⟨rfl, hg⟩
      have H8 := Lib.hid (H7.out.trans hg)
      clear hg
      have H58 := Lib.hid (H5a.out.trans H8.out)
      have HD1 := Lib.hid (cnt_at HC1.out (H3.out.trans (H4.out.trans (H5.out.trans H8.out))))
      have HD2 := Lib.hid (cnt_at HC2.out (H4.out.trans (H5.out.trans H8.out)))
      have hs1 : g1 < w8.heap.size := by have := (H3.out.trans (H4.out.trans (H5.out.trans H8.out))).size; omega
      have hs2 : g2 < w8.heap.size := by have := (H4.out.trans (H5.out.trans H8.out)).size; omega
      go_wp2_with fail
      go_loopw [14, 15] (fun s i wr => ∃ k : Nat, k ≤ 4 ∧ i = .int .i64 k ∧ s = .int .i64 (sumTo (fun t => cnt (tg size l) t 2) k) ∧ Hid (Grow w8 wr)) (fun _ i _ => 4 - (intOf i).toNat)
      case atStart => exact ⟨0, by omega, rfl, rfl, Grow.refl _⟩
      case round =>
        obtain ⟨k, hk, rfl, rfl, HI⟩ := hrel
        have hsb := sumTo_bound (f := fun t => cnt (tg size l) t 2) (B := 300) (fun n => by have := cnt_bound (tg size l) n 2; rw [tg_length] at this; omega) k
        generalize hS : sumTo (fun t => cnt (tg size l) t 2) k = S at hsb
        have hsb1 := hsb.1
        have hsb2 : S ≤ 1200 := by have := hsb.2; omega
        have HS := Lib.hid hS
        clear hsb hS
        by_cases hlt : k < 4
        · have a0 := HI.out.cell (HD1.out k 0 hlt (by omega))
          have a1 := HI.out.cell (HD1.out k 1 hlt (by omega))
          have a2 := HI.out.cell (HD1.out k 2 hlt (by omega))
          have a3 := HI.out.cell (HD1.out k 3 hlt (by omega))
          have b0 := HI.out.cell (HD2.out k 0 hlt (by omega))
          have b1 := HI.out.cell (HD2.out k 1 hlt (by omega))
          have b2 := HI.out.cell (HD2.out k 2 hlt (by omega))
          have b3 := HI.out.cell (HD2.out k 3 hlt (by omega))
          have hle := cnt_le size l k
          have hb2 := cnt_bound (tg size l) k 2
          have hn2 : sumTo (fun t => cnt (tg size l) t 2) (k + 1) = S + cnt (tg size l) k 2 := by rw [← HS.out]; rfl
          rw [tg_length] at hb2
          generalize cnt (tg size l) k 0 = r0 at a0 b0
          generalize cnt (tg size l) k 1 = r1 at a1 b1
          generalize cnt (tg size l) k 2 = r2 at a2 b2 hle hb2 hn2
          generalize cnt (tg size l) k 3 = r3 at a3 b3 hle
          have hr1 := hb2.1
          have hr2 : r2 ≤ 300 := by have := hb2.2; omega
          have HN2 := Lib.hid hn2
          have hl1r : g1 < wr.heap.size := by have := HI.out.size; omega
          have hl2r : g2 < wr.heap.size := by have := HI.out.size; omega
          have hki : (k : Int) < 4 := by omega
          have hk0 : (0 : Int) ≤ (k : Int) := by omega
          clear hb2 hn2
          rw [Nat.add_zero] at a0 b0
          go_wp2_with fail
          go_region
          have hd : decide (r2 < r3) = false := decide_eq_false (by omega)
          go_wp2_with fail
          go_quiet (fail)
          go_wp2_with fail
          go_roundw
          case rel =>
            refine ⟨k + 1, by omega, by go_num, ?_, (HI.out.alloc _).drewN _⟩
            rw [HN2.out]
          case measure => simp [intOf]; omega
        · obtain rfl : k = 4 := by omega
          have hSt : S = trues (mvs size l) := by
            have := total (size := size) (l := l) HOK.out l.length (Nat.le_refl _)
            rw [List.take_of_length_le (by rw [tg_length]; exact Nat.le_refl _), List.take_of_length_le (by rw [mvs_length]; exact Nat.le_refl _)] at this
            rw [← HS.out]; exact this
          have HT := Lib.hid hSt
          clear hSt
          by_cases h0 : 0 < l.length
          · obtain ⟨q1, cq1, e1, hcq1, cur1, hb1, hx1⟩ := bools_at HM1.out h0
            obtain ⟨q2, cq2, e2, hcq2, cur2, hb2, hx2⟩ := bools_at HM2.out h0
            cases e1
            cases e2
            have hcell : ∀ k, k < l.length → ∃ x, (mvs size l)[k]? = some x ∧ w8.cell? ⟨q1, k, none⟩ = some (.bool x) ∧ w8.cell? ⟨q2, k, none⟩ = some (.bool x) := by
              intro k hk
              obtain ⟨x, hx⟩ : ∃ x, (mvs size l)[k]? = some x := ⟨(mvs size l)[k]'(by rw [mvs_length]; exact hk), by simp⟩
              refine ⟨x, hx, ?_, ?_⟩
              · rw [blk_cell ((H5.out.trans H8.out).at_ hb1)]; exact hx1 k x hx
              · rw [blk_cell (H8.out.at_ hb2)]; exact hx2 k x hx
            have HCELL := Lib.hid hcell
            clear hcell hx1 hx2 hb1 hb2
            go_wp2_with fail
            go_loopw [14, 17] (fun s i wx => ∃ k : Nat, k ≤ l.length ∧ i = .int .i64 k ∧ s = .int .i64 (S - trues ((mvs size l).take k)) ∧ Hid (Grow wr wx)) (fun _ i _ => l.length - (intOf i).toNat)
            case atStart => exact ⟨0, by omega, rfl, by simp [trues], Grow.refl _⟩
            case round =>
              obtain ⟨k, hk, rfl, rfl, HJ⟩ := hrel
              have htb := trues_bound ((mvs size l).take k)
              have htl : ((mvs size l).take k).length ≤ 300 := by rw [List.length_take, mvs_length]; omega
              have htb1 := htb.1
              have htb2 : trues ((mvs size l).take k) ≤ 300 := by have := htb.2; omega
              clear htb htl
              by_cases hlt : k < l.length
              · obtain ⟨x, hx, c1, c2⟩ := HCELL.out k hlt
                have c1 := HJ.out.cell (HI.out.cell c1)
                have c2 := HJ.out.cell (HI.out.cell c2)
                have hsn := trues_snoc ((mvs size l).take k) x
                rw [← take_snoc hx] at hsn
                have HSN := Lib.hid hsn
                clear hx hsn
                generalize hT : trues ((mvs size l).take k) = T at htb1 htb2 HSN
                have hki : (k : Int) < (l.length : Int) := by omega
                have hk0 : (0 : Int) ≤ (k : Int) := by omega
                go_wp2_with fail
                go_quiet (fail)
                cases x
                · go_wp2_with fail
                  go_roundw
                  case rel =>
                    refine ⟨k + 1, by omega, by go_num, ?_, HJ.out.drewN _⟩
                    rw [HSN.out]; simp
                  case measure => simp [intOf]; omega
                · go_wp2_with fail
                  go_roundw
                  case rel =>
                    refine ⟨k + 1, by omega, by go_num, ?_, HJ.out.drewN _⟩
                    rw [HSN.out]; simp; omega
                  case measure => simp [intOf]; omega
              · obtain rfl : k = l.length := by omega
                have hz : S - trues ((mvs size l).take l.length) = 0 := by
                  rw [List.take_of_length_le (by rw [mvs_length]; exact Nat.le_refl _), HT.out]; omega
                rw [hz]
                go_wp2_with (go_at_call 9; refine (sane_p _).mono ?_)
                rintro e w9 ⟨rfl, hg⟩
                have H9 := Lib.hid hg
                clear hg
                go_wp2_with fail
                exact HR.out _ _ ⟨rfl, H1.out.trans (H58.out.trans (HI.out.trans (HJ.out.trans H9.out)))⟩
          · have h00 : l = [] := List.eq_nil_of_length_eq_zero (by omega)
            have hz : S = 0 := by rw [HT.out, h00]; rfl
            subst h00
            subst hz
            go_wp2_with fail
            refine wp_loop_once ?_
            go_wp2_with (go_at_call 9; refine (sane_p _).mono ?_)
            rintro e w9 ⟨rfl, hg⟩
            have H9 := Lib.hid hg
            clear hg
            go_wp2_with fail
            exact HR.out _ _ ⟨rfl, H1.out.trans (H58.out.trans (HI.out.trans H9.out))⟩
end Go.Proofs.Ytabplbalacldfaa
