/- OddsSpreads answers true. -/
import Derived.Test.YtacfchepacfjnaaOdT
set_option linter.unusedVariables false
set_option linter.unusedSimpArgs false
namespace Go.Proofs.Ytacfchepacfjnaa
open Go.RowKit Go.Kx Go.Maps Go.Sort Go.Shelf
/-- The first three numbers, of which k are laid. -/
def x3 (nums : List Int) (k j : Nat) : Int := if j < k then nums[j]?.getD 0 else 0
def x3c (nums : List Int) (k : Nat) : Array Value := #[.int .i64 (x3 nums k 0), .int .i64 (x3 nums k 1), .int .i64 (x3 nums k 2)]
theorem x3_full {nums : List Int} {k j : Nat} (h : j < k ∨ nums.length ≤ k) : x3 nums k j = nums[j]?.getD 0 := by
  unfold x3
  split
  · rfl
  · next hn =>
    rcases h with h | h
    · exact absurd h hn
    · rw [List.getElem?_eq_none (by omega)]; rfl
theorem x3c_set {nums : List Int} {k : Nat} (hk : k < nums.length) (hk3 : k < 3) : (x3c nums k).setIfInBounds k (.int .i64 nums[k]) = x3c nums (k + 1) := by
  have h : ∀ j, j ≠ k → x3 nums k j = x3 nums (k + 1) j := fun j hj => by unfold x3; by_cases h : j < k
                                                                          · rw [if_pos h, if_pos (by omega)]
                                                                          · rw [if_neg h, if_neg (by omega)]
  have h2 : x3 nums (k + 1) k = nums[k] := by unfold x3; rw [if_pos (by omega), List.getElem?_eq_getElem hk]; rfl
  unfold x3c
  match k, hk3 with
  | 0, _ => rw [← h 1 (by omega), ← h 2 (by omega), h2]; rfl
  | 1, _ => rw [← h 0 (by omega), ← h 2 (by omega), h2]; rfl
  | 2, _ => rw [← h 0 (by omega), ← h 1 (by omega), h2]; rfl
set_option maxRecDepth 100000 in
set_option maxHeartbeats 800000 in
theorem spreads_any (w : World) (A B : Option Addr) (ca cb : Nat) (cs nums : List Int) (h1 : IntsAt w A cs) (h2 : IntsAt w B nums) :
    Calls Try.prog 9 #[.slice A cs.length ca, .slice B nums.length cb] w (TrueP w) := by
  refine cph fun R HR => ?_
  have HAW := Lib.hid (awake_any w)
  have HT := Lib.hid (fun (w1 : World) (hg : Grow w w1) => total_any (w := w1) (cap := ca) (h1.grow hg))
  by_cases hok : ¬ 0 < tot cs ∨ 20 < nums.length
  · have HS := Lib.hid (fun (w1 : World) (hg : Grow w w1) => spread_no (w := w1) (ca := ca) (cb := cb) (B := B) (h1.grow hg) hok)
    have htb := (tot_bd cs).1
    clear h1 h2
    by_cases hv : 0 < tot cs
    · have h20 : (20 : Int) < nums.length := by omega
      generalize tot cs = T at HT hv
      clear hok htb
      go_enter Try.func9, Try.ntmps9
      go_wp2_with (first | (go_at_call 14; refine HAW.out.mono ?_; rintro e w1 ⟨rfl, hg1⟩; have H1 := Lib.hid hg1; clear hg1) | (go_at_call 30; refine (HS.out _ H1.out).mono ?_; rintro e w2 ⟨rfl, hg2⟩; have H2 := Lib.hid (H1.out.trans hg2); clear hg2) | (go_at_call 17; refine (HT.out _ H2.out).mono ?_; rintro e w' ⟨rfl, rfl⟩))
      exact HR.out _ _ ⟨rfl, H2.out⟩
    · have hv0 : tot cs = 0 := by omega
      rw [hv0] at HT
      clear hok htb hv hv0
      go_enter Try.func9, Try.ntmps9
      go_wp2_with (first | (go_at_call 14; refine HAW.out.mono ?_; rintro e w1 ⟨rfl, hg1⟩; have H1 := Lib.hid hg1; clear hg1) | (go_at_call 30; refine (HS.out _ H1.out).mono ?_; rintro e w2 ⟨rfl, hg2⟩; have H2 := Lib.hid (H1.out.trans hg2); clear hg2) | (go_at_call 17; refine (HT.out _ H2.out).mono ?_; rintro e w' ⟨rfl, rfl⟩))
      exact HR.out _ _ ⟨rfl, H2.out⟩
  · have hv : 0 < tot cs := by omega
    have h20 : nums.length ≤ 20 := by omega
    obtain ⟨hm1, hm4, hvs, hts⟩ := tot_pos hv
    have htb := (tot_bd cs).2
    have HS := Lib.hid (fun (w1 : World) (hg : Grow w w1) => spread_yes (w := w1) (ca := ca) (cb := cb) (h1.grow hg) (h2.grow hg) hv h20)
    have HRo := Lib.hid (fun (w1 : World) => outs_ords cs.length hm4 ▸ refOrders_any w1 cs.length hm4)
    have hN0 := ords_pos cs.length hm4
    have hN24 := ords_len24 cs.length hm4
    have HI := Lib.hid (show ∀ l ∈ ords cs.length (numL cs.length), l.length ≤ 4 by rw [← outs_ords cs.length hm4]; exact (outs_ok cs.length hm4 cs.length (Nat.le_refl _)).2)
    have HPC : Hid (sprP cs nums = (ords cs.length (numL cs.length))[(pickN nums 0 ((ords cs.length (numL cs.length)).length : Int)).toNat]?.getD [] ∧ sprC cs nums = [pickN nums 1 (tot cs + 1) - 1, pickN nums 2 (tot cs + 1) - 1]) := ⟨rfl, rfl⟩
    have HB2 := Lib.hid h2
    clear h1 h2 hok hvs hts
    generalize ords cs.length (numL cs.length) = ls at HRo hN0 hN24 HI HPC
    generalize sprP cs nums = p at HPC HS
    generalize sprC cs nums = c at HPC HS
    generalize tot cs = T at HS HT hv htb HPC
    have hn20 : decide ((20 : Int) < nums.length) = false := by simp; omega
    have hT0 : (T == 0) = false := by simp; omega
    go_enter Try.func9, Try.ntmps9
    go_wp2_with (first | (go_at_call 14; refine HAW.out.mono ?_; rintro e w1 ⟨rfl, hg1⟩; have H1 := Lib.hid hg1; clear hg1) | (go_at_call 30; refine (HS.out _ H1.out).mono ?_; rintro e w2 ⟨A2, a2, B2, b2, rfl, hi2, hi3, hg2, hn1, hn2⟩; have H2 := Lib.hid (H1.out.trans hg2); have H3 := Lib.hid (And.intro hi2 hi3); clear hg2 hi2 hi3 hn1 hn2) | (go_at_call 17; refine (HT.out _ H2.out).mono ?_; rintro e w' ⟨rfl, rfl⟩))
    clear hn20 hT0
    have hx0 : Hid ((w2.alloc (.cells #[.int .i64 0, .int .i64 0, .int .i64 0] 51)).heap[w2.heap.size]? = some (.cells (x3c nums 0) 51 (0, 0))) := blk_new w2 _
    go_loopw [10] (fun i wr => ∃ k : Nat, k ≤ 3 ∧ k ≤ nums.length ∧ i = .int .i64 k ∧ Hid (wr.heap[w2.heap.size]? = some (.cells (x3c nums k) 51 (0, 0)) ∧ Grow w2 wr)) (fun i _ => 3 - (intOf i).toNat)
    case atStart => exact ⟨0, by omega, by omega, rfl, hx0.out, (Grow.refl w2).alloc _⟩
    case round =>
      obtain ⟨k, hk3, hkl, rfl, HO⟩ := hrel
      clear hx0
      by_cases h3 : k < 3
      · have hk3i : (k : Int) < 3 := by omega
        by_cases hlt : k < nums.length
        · have hkli : (k : Int) < (nums.length : Int) := by omega
          obtain ⟨b, off, rfl, hcx⟩ := (HB2.out.grow (H2.out.trans HO.out.2)).at_ hlt
          have hcy : wr.cell? ⟨w2.heap.size, k, none⟩ = some (.int .i64 0) := by
            rw [blk_cell HO.out.1]
            have : x3 nums k k = 0 := by unfold x3; rw [if_neg (by omega)]
            match k, h3, this with
            | 0, _, h => exact congrArg (fun z => some (Value.int .i64 z)) h
            | 1, _, h => exact congrArg (fun z => some (Value.int .i64 z)) h
            | 2, _, h => exact congrArg (fun z => some (Value.int .i64 z)) h
          have hfr := blk_free HO.out.1 k
          have HX := Lib.hid (x3c_set hlt h3)
          have HW := Lib.hid (fun v => blk_set HO.out.1 k v)
          generalize nums[k] = x at hcx HX
          go_wp2
          go_roundw
          case rel => exact ⟨k + 1, by omega, by omega, by go_num, by rw [← HX.out]; exact HW.out _, HO.out.2.setCell _ _ (Nat.le_refl _)⟩
          case measure => simp [intOf]; omega
        · have hkli : ¬ (k : Int) < (nums.length : Int) := by omega
          obtain ⟨y0, e0⟩ : ∃ y0, y0 = nums[0]?.getD 0 := ⟨_, rfl⟩
          obtain ⟨y1, e1⟩ : ∃ y1, y1 = nums[1]?.getD 0 := ⟨_, rfl⟩
          obtain ⟨y2, e2⟩ : ∃ y2, y2 = nums[2]?.getD 0 := ⟨_, rfl⟩
          have c0 : wr.cell? ⟨w2.heap.size, 0, none⟩ = some (.int .i64 y0) := (blk_cell HO.out.1 0).trans (by rw [e0, ← x3_full (k := k) (j := 0) (.inr (by omega))]; rfl)
          have c1 : wr.cell? ⟨w2.heap.size, 1, none⟩ = some (.int .i64 y1) := (blk_cell HO.out.1 1).trans (by rw [e1, ← x3_full (k := k) (j := 1) (.inr (by omega))]; rfl)
          have c2 : wr.cell? ⟨w2.heap.size, 2, none⟩ = some (.int .i64 y2) := (blk_cell HO.out.1 2).trans (by rw [e2, ← x3_full (k := k) (j := 2) (.inr (by omega))]; rfl)
          have hp0 := pickN_bd nums 0 (n := (ls.length : Int)) (by omega)
          have hp1 := pickN_bd nums 1 (n := T + 1) (by omega)
          have hp2 := pickN_bd nums 2 (n := T + 1) (by omega)
          have HM0 := Lib.hid (fun (w' : World) => mod_any w' y0 (ls.length : Int) (by omega) (by omega))
          have HM1 := Lib.hid (fun (w' : World) => mod_any w' y1 (T + 1) (by omega) (by omega))
          have HM2 := Lib.hid (fun (w' : World) => mod_any w' y2 (T + 1) (by omega) (by omega))
          rw [show y0 % (ls.length : Int) = pickN nums 0 (ls.length : Int) by rw [e0]; rfl] at HM0
          rw [show y1 % (T + 1) = pickN nums 1 (T + 1) by rw [e1]; rfl] at HM1
          rw [show y2 % (T + 1) = pickN nums 2 (T + 1) by rw [e2]; rfl] at HM2
          have HP1 := Lib.hid HPC.out
          obtain ⟨q0, hq0⟩ := Int.eq_ofNat_of_zero_le hp0.1
          rw [hq0] at HM0 hp0 HP1
          generalize pickN nums 1 (T + 1) = q1 at HM1 hp1 HP1
          generalize pickN nums 2 (T + 1) = q2 at HM2 hp2 HP1
          clear hq0 e0 e1 e2
          have hq : q0 < ls.length := by omega
          have hpe : p = ls[q0] := by have := HP1.out.1; rw [Int.toNat_natCast, List.getElem?_eq_getElem hq] at this; exact this
          have hce := HP1.out.2
          have hpl : p.length ≤ 4 := hpe ▸ HI.out _ (List.getElem_mem hq)
          have HPE := Lib.hid hpe
          have HG2 := Lib.hid HO.out.2
          clear hpe HP1
          have hq0i : (q0 : Int) < (ls.length : Int) := by omega
          have hw1 : IntKind.i64.wrap (q1 - 1) = q1 - 1 := by rw [IntKind.wrap_i64]; omega
          have hw2 : IntKind.i64.wrap (q2 - 1) = q2 - 1 := by rw [IntKind.wrap_i64]; omega
          have hw3 : IntKind.i64.wrap (T + 1) = T + 1 := by rw [IntKind.wrap_i64]; omega
          go_wp2_with (first | (go_at_call 28; refine (HRo.out _).mono ?_; rintro e w3 hp; obtain ⟨A3, a3, rfl, hl3, hg3⟩ := refOrdP_form hp; obtain ⟨b4, o4, rfl, A4, a4, hc4, hi4, _⟩ := hl3.at_ hq; have d0 := hg3.cell c0; have d1 := hg3.cell c1; have d2 := hg3.cell c2; have HL := Lib.hid (And.intro hi4 hg3); rw [← HPE.out] at hc4 HL; clear hp hl3 hi4 hg3 c0 c1 c2) | (go_at_call 31; refine (HM0.out _).mono ?_; rintro e w' ⟨rfl, rfl⟩))
          have hg0 : Grow w3 w3 := Grow.refl w3
          go_region_held3 (fun w' => w'.cell? ⟨w2.heap.size, 1, none⟩ = some (.int .i64 y1) ∧ w'.cell? ⟨w2.heap.size, 2, none⟩ = some (.int .i64 y2) ∧ Grow w3 w') (refine ⟨?_, ?_, ?_⟩ <;> first | assumption | exact d1 | exact d2 | exact (Grow.refl _).drew | exact Grow.drew (by assumption) | exact (Grow.alloc (by assumption) _) | exact Grow.cell (Grow.alloc (Grow.refl _) _) (by assumption) | exact Grow.drew (Grow.alloc (by assumption) _) | exact Grow.cell (Grow.drew (Grow.alloc (Grow.refl _) _)) (by assumption)) ((go_at_call 31; (first | with_reducible refine Calls.mono (HM1.out _) ?_ | with_reducible refine Calls.mono (HM2.out _) ?_); rintro e w' ⟨rfl, rfl⟩))
          subst hce
          have hgz : Grow w3 (w3.alloc (.cells #[.int .i64 (q1 - 1), .int .i64 (q2 - 1)] 3)).drew := ((Grow.refl w3).alloc _).drew
          have HZ := Lib.hid (show IntsAt (w3.alloc (.cells #[.int .i64 (q1 - 1), .int .i64 (q2 - 1)] 3)).drew (some ⟨w3.heap.size, 0, none⟩) [q1 - 1, q2 - 1] from ints_lit w3 [q1 - 1, q2 - 1])
          have HQ := Lib.hid (And.intro (H3.out.1.grow (HG2.out.trans (HL.out.2.trans hgz))) (And.intro (HL.out.1.grow hgz) (And.intro (H3.out.2.grow (HG2.out.trans (HL.out.2.trans hgz))) ((H2.out.trans HG2.out).trans (HL.out.2.trans hgz)))))
          clear hgz hg0 d0 d1 d2
          have HI1 := ints_any (c := a2) (d := a4) HQ.out.1 HQ.out.2.1 (by omega)
          rw [show (p == p) = true by simp] at HI1
          have HI1 := Lib.hid HI1
          have HI2 := Lib.hid (fun (w5 : World) (hg5 : Grow (w3.alloc (.cells #[.int .i64 (q1 - 1), .int .i64 (q2 - 1)] 3)).drew w5) => ints_any (c := b2) (d := 2) (HQ.out.2.2.1.grow hg5) (HZ.out.grow hg5) (by simp))
          rw [show ([q1 - 1, q2 - 1] == [q1 - 1, q2 - 1]) = true by simp] at HI2
          simp only [List.length_cons, List.length_nil, Nat.reduceAdd, Nat.zero_add] at HI2
          go_wp2_with (first | (go_at_call 19; (with_reducible refine Calls.mono HI1.out ?_); rintro e w5 ⟨rfl, hg5⟩; have H5 := Lib.hid hg5; clear hg5) | (go_at_call 19; (with_reducible refine Calls.mono (HI2.out _ H5.out) ?_); rintro e w6 ⟨rfl, hg6⟩; have H6 := Lib.hid hg6; clear hg6))
          exact HR.out _ _ ⟨rfl, HQ.out.2.2.2.trans (H5.out.trans H6.out)⟩
      · have hk3i : ¬ (k : Int) < 3 := by omega
        obtain ⟨y0, e0⟩ : ∃ y0, y0 = nums[0]?.getD 0 := ⟨_, rfl⟩
        obtain ⟨y1, e1⟩ : ∃ y1, y1 = nums[1]?.getD 0 := ⟨_, rfl⟩
        obtain ⟨y2, e2⟩ : ∃ y2, y2 = nums[2]?.getD 0 := ⟨_, rfl⟩
        have c0 : wr.cell? ⟨w2.heap.size, 0, none⟩ = some (.int .i64 y0) := (blk_cell HO.out.1 0).trans (by rw [e0, ← x3_full (k := k) (j := 0) (.inl (by omega))]; rfl)
        have c1 : wr.cell? ⟨w2.heap.size, 1, none⟩ = some (.int .i64 y1) := (blk_cell HO.out.1 1).trans (by rw [e1, ← x3_full (k := k) (j := 1) (.inl (by omega))]; rfl)
        have c2 : wr.cell? ⟨w2.heap.size, 2, none⟩ = some (.int .i64 y2) := (blk_cell HO.out.1 2).trans (by rw [e2, ← x3_full (k := k) (j := 2) (.inl (by omega))]; rfl)
        have hp0 := pickN_bd nums 0 (n := (ls.length : Int)) (by omega)
        have hp1 := pickN_bd nums 1 (n := T + 1) (by omega)
        have hp2 := pickN_bd nums 2 (n := T + 1) (by omega)
        have HM0 := Lib.hid (fun (w' : World) => mod_any w' y0 (ls.length : Int) (by omega) (by omega))
        have HM1 := Lib.hid (fun (w' : World) => mod_any w' y1 (T + 1) (by omega) (by omega))
        have HM2 := Lib.hid (fun (w' : World) => mod_any w' y2 (T + 1) (by omega) (by omega))
        rw [show y0 % (ls.length : Int) = pickN nums 0 (ls.length : Int) by rw [e0]; rfl] at HM0
        rw [show y1 % (T + 1) = pickN nums 1 (T + 1) by rw [e1]; rfl] at HM1
        rw [show y2 % (T + 1) = pickN nums 2 (T + 1) by rw [e2]; rfl] at HM2
        have HP1 := Lib.hid HPC.out
        obtain ⟨q0, hq0⟩ := Int.eq_ofNat_of_zero_le hp0.1
        rw [hq0] at HM0 hp0 HP1
        generalize pickN nums 1 (T + 1) = q1 at HM1 hp1 HP1
        generalize pickN nums 2 (T + 1) = q2 at HM2 hp2 HP1
        clear hq0 e0 e1 e2
        have hq : q0 < ls.length := by omega
        have hpe : p = ls[q0] := by have := HP1.out.1; rw [Int.toNat_natCast, List.getElem?_eq_getElem hq] at this; exact this
        have hce := HP1.out.2
        have hpl : p.length ≤ 4 := hpe ▸ HI.out _ (List.getElem_mem hq)
        have HPE := Lib.hid hpe
        have HG2 := Lib.hid HO.out.2
        clear hpe HP1
        have hq0i : (q0 : Int) < (ls.length : Int) := by omega
        have hw1 : IntKind.i64.wrap (q1 - 1) = q1 - 1 := by rw [IntKind.wrap_i64]; omega
        have hw2 : IntKind.i64.wrap (q2 - 1) = q2 - 1 := by rw [IntKind.wrap_i64]; omega
        have hw3 : IntKind.i64.wrap (T + 1) = T + 1 := by rw [IntKind.wrap_i64]; omega
        go_wp2_with (first | (go_at_call 28; refine (HRo.out _).mono ?_; rintro e w3 hp; obtain ⟨A3, a3, rfl, hl3, hg3⟩ := refOrdP_form hp; obtain ⟨b4, o4, rfl, A4, a4, hc4, hi4, _⟩ := hl3.at_ hq; have d0 := hg3.cell c0; have d1 := hg3.cell c1; have d2 := hg3.cell c2; have HL := Lib.hid (And.intro hi4 hg3); rw [← HPE.out] at hc4 HL; clear hp hl3 hi4 hg3 c0 c1 c2) | (go_at_call 31; refine (HM0.out _).mono ?_; rintro e w' ⟨rfl, rfl⟩))
        have hg0 : Grow w3 w3 := Grow.refl w3
        go_region_held3 (fun w' => w'.cell? ⟨w2.heap.size, 1, none⟩ = some (.int .i64 y1) ∧ w'.cell? ⟨w2.heap.size, 2, none⟩ = some (.int .i64 y2) ∧ Grow w3 w') (refine ⟨?_, ?_, ?_⟩ <;> first | assumption | exact d1 | exact d2 | exact (Grow.refl _).drew | exact Grow.drew (by assumption) | exact (Grow.alloc (by assumption) _) | exact Grow.cell (Grow.alloc (Grow.refl _) _) (by assumption) | exact Grow.drew (Grow.alloc (by assumption) _) | exact Grow.cell (Grow.drew (Grow.alloc (Grow.refl _) _)) (by assumption)) ((go_at_call 31; (first | with_reducible refine Calls.mono (HM1.out _) ?_ | with_reducible refine Calls.mono (HM2.out _) ?_); rintro e w' ⟨rfl, rfl⟩))
        subst hce
        have hgz : Grow w3 (w3.alloc (.cells #[.int .i64 (q1 - 1), .int .i64 (q2 - 1)] 3)).drew := ((Grow.refl w3).alloc _).drew
        have HZ := Lib.hid (show IntsAt (w3.alloc (.cells #[.int .i64 (q1 - 1), .int .i64 (q2 - 1)] 3)).drew (some ⟨w3.heap.size, 0, none⟩) [q1 - 1, q2 - 1] from ints_lit w3 [q1 - 1, q2 - 1])
        have HQ := Lib.hid (And.intro (H3.out.1.grow (HG2.out.trans (HL.out.2.trans hgz))) (And.intro (HL.out.1.grow hgz) (And.intro (H3.out.2.grow (HG2.out.trans (HL.out.2.trans hgz))) ((H2.out.trans HG2.out).trans (HL.out.2.trans hgz)))))
        clear hgz hg0 d0 d1 d2
        have HI1 := ints_any (c := a2) (d := a4) HQ.out.1 HQ.out.2.1 (by omega)
        rw [show (p == p) = true by simp] at HI1
        have HI1 := Lib.hid HI1
        have HI2 := Lib.hid (fun (w5 : World) (hg5 : Grow (w3.alloc (.cells #[.int .i64 (q1 - 1), .int .i64 (q2 - 1)] 3)).drew w5) => ints_any (c := b2) (d := 2) (HQ.out.2.2.1.grow hg5) (HZ.out.grow hg5) (by simp))
        rw [show ([q1 - 1, q2 - 1] == [q1 - 1, q2 - 1]) = true by simp] at HI2
        simp only [List.length_cons, List.length_nil, Nat.reduceAdd, Nat.zero_add] at HI2
        go_wp2_with (first | (go_at_call 19; (with_reducible refine Calls.mono HI1.out ?_); rintro e w5 ⟨rfl, hg5⟩; have H5 := Lib.hid hg5; clear hg5) | (go_at_call 19; (with_reducible refine Calls.mono (HI2.out _ H5.out) ?_); rintro e w6 ⟨rfl, hg6⟩; have H6 := Lib.hid hg6; clear hg6))
        exact HR.out _ _ ⟨rfl, HQ.out.2.2.2.trans (H5.out.trans H6.out)⟩
end Go.Proofs.Ytacfchepacfjnaa
