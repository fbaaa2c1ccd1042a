/- OddsBoth answers true. -/
import Derived.Test.YtacfchepacfjnaaOfC
import Derived.Test.YtacfchepacfjnaaOfD
set_option linter.unusedVariables false
set_option linter.unusedSimpArgs false
namespace Go.Proofs.Ytacfchepacfjnaa
open Go.RowKit Go.Kx Go.Maps Go.Sort Go.Shelf
/-- Each thread goes as often as counts say. -/
theorem sched_cnt_at {cs p chs : List Int} (hv : ∀ x ∈ cs, 0 ≤ x ∧ x ≤ 6) (t : Nat) : ∀ k : Nat, (k : Int) ≤ cs.sum → (((schK cs p chs k).2.2.count (t : Int) : Nat) : Int) + (schK cs p chs k).1[t]?.getD 0 = cs[t]?.getD 0
  | 0, _ => by show (([] : List Int).count (t : Int) : Int) + cs[t]?.getD 0 = _; simp
  | k + 1, h => by
    have ih := sched_cnt_at (p := p) (chs := chs) hv t k (by omega)
    rw [left_get hv (by omega) t, schK_succ, schStep_out, List.count_append]
    have e : [bst (schK cs p chs k).1 (chgK k (schK cs p chs k).1 chs (schK cs p chs k).2.1 chs.length)].count (t : Int) = if (t : Int) = goes cs p chs k then 1 else 0 := by
      rw [List.count_singleton]
      show (if goes cs p chs k == (t : Int) then 1 else 0) = _
      by_cases e : (t : Int) = goes cs p chs k
      · rw [if_pos e, if_pos (by simp [e])]
      · rw [if_neg e, if_neg (by simp; exact fun h => e h.symm)]
    rw [e]
    split <;> omega
theorem sched_stp {cs p chs : List Int} (hv : 0 < tot cs) : stpB cs (sched cs p chs) = true := by
  obtain ⟨_, hm4, hvs, hts⟩ := tot_pos hv
  have hl := sched_len (cs := cs) (ps := p) (chs := chs) hv
  unfold stpB
  rw [Bool.and_eq_true]
  refine ⟨by rw [hl]; simp; omega, cntB_yes fun t ht => ?_⟩
  have h1 := sched_cnt_at (p := p) (chs := chs) hvs t cs.sum.toNat (by omega)
  have h2 := left_end (ps := p) (chs := chs) hvs (by omega) t
  rw [h2, List.getElem?_eq_getElem ht, Option.getD_some] at h1
  unfold sched
  omega
theorem both_law {l : List Int} {a b : Int} (hab : a ≠ b) (ha : 0 < l.count a) (hb : 0 < l.count b) : (fnd l a 0 b 0 != fnd l b 0 a 0) = true := by
  obtain ⟨ka, hka⟩ := has_place (l := l) (t := a) (s := 0) (Int.le_refl 0) l.length (by rw [List.take_length]; omega)
  obtain ⟨kb, hkb⟩ := has_place (l := l) (t := b) (s := 0) (Int.le_refl 0) l.length (by rw [List.take_length]; omega)
  have ea := plc_eq hka
  have eb := plc_eq hkb
  have la := isPl_lt hka
  have lb := isPl_lt hkb
  have xa := (isPl_iff.1 hka).1
  have xb := (isPl_iff.1 hkb).1
  have ga := plc_gt (l := l) (t := a) (s := 0) (q := kb) (Int.le_refl 0) lb (by rw [xb]; exact fun h => hab (by cases h; rfl))
  have gb := plc_gt (l := l) (t := b) (s := 0) (q := ka) (Int.le_refl 0) la (by rw [xa]; exact fun h => hab (by cases h; rfl))
  rw [ea] at ga
  rw [eb] at gb
  have hne : ka ≠ kb := by rintro rfl; rw [xa] at xb; exact hab (by cases xb; rfl)
  unfold fnd
  rw [ea, eb, decide_eq_true la, decide_eq_true lb, Bool.true_and, Bool.true_and]
  have e1 : decide ((((l.take kb).count a : Nat) : Int) = 0) = decide (kb < ka) := by rw [decide_eq_decide]; omega
  have e2 : decide ((((l.take ka).count b : Nat) : Int) = 0) = decide (ka < kb) := by rw [decide_eq_decide]; omega
  rw [e1, e2]
  by_cases h : ka < kb
  · have : ¬ kb < ka := by omega
    simp [h, this]
  · have : kb < ka := by omega
    simp [h, this]
theorem bugB_mk {cs : List Int} {a b : Nat} (ha : a < cs.length) (hb : b < cs.length) (hab : a ≠ b) (h1 : 0 < cs[a]) (h2 : 0 < cs[b]) : bugB cs a 0 b 0 = true := by
  unfold bugB
  rw [Int.toNat_natCast, Int.toNat_natCast, List.getElem?_eq_getElem ha, List.getElem?_eq_getElem hb, Option.getD_some, Option.getD_some]
  simp [h1, h2]
  omega
theorem stp_cnt {cs l : List Int} (h : stpB cs l = true) {t : Nat} (ht : t < cs.length) : ((l.count (t : Int) : Nat) : Int) = cs[t] := by
  unfold stpB cntB at h
  rw [Bool.and_eq_true, List.all_eq_true] at h
  have := h.2 t (by simpa using ht)
  rw [List.getElem?_eq_getElem ht] at this
  simpa using this
/-- What OddsBoth sees. -/
theorem both_finds {cs l : List Int} (hv : 0 < tot cs) (hs : stpB cs l = true) {a b : Nat} (ha : a < cs.length) (hb : b < cs.length) (hab : a ≠ b) (h1 : 0 < cs[a]) (h2 : 0 < cs[b]) :
    ∃ x y : Bool, (x != y) = true ∧ (∀ (w : World) (A B : Option Addr) (ca cb : Nat), IntsAt w A cs → IntsAt w B l → Calls Try.prog 22 #[.slice A cs.length ca, .slice B l.length cb, bugV a 0 b 0] w fun e w' => e = .returned (.tuple #[.bool x, .int .i64 0]) ∧ Grow w w') ∧
      (∀ (w : World) (A B : Option Addr) (ca cb : Nat), IntsAt w A cs → IntsAt w B l → Calls Try.prog 22 #[.slice A cs.length ca, .slice B l.length cb, bugV b 0 a 0] w fun e w' => e = .returned (.tuple #[.bool y, .int .i64 0]) ∧ Grow w w') := by
  have o1 : okF cs l a 0 b 0 = true := by simp [okF, hv, hs, bugB_mk ha hb hab h1 h2]
  have o2 : okF cs l b 0 a 0 = true := by simp [okF, hv, hs, bugB_mk hb ha (fun h => hab h.symm) h2 h1]
  have ca := stp_cnt hs ha
  have cb := stp_cnt hs hb
  refine ⟨fnd l a 0 b 0, fnd l b 0 a 0, both_law (by omega) (by omega) (by omega), fun w A B ca cb h1 h2 => ?_, fun w A B ca cb h1 h2 => ?_⟩
  · have := Finds_any (ca := ca) (cb := cb) h1 h2 (a : Int) 0 (b : Int) 0
    unfold FindsP at this
    rw [o1, Bool.true_and] at this
    exact this
  · have := Finds_any (ca := ca) (cb := cb) h1 h2 (b : Int) 0 (a : Int) 0
    unfold FindsP at this
    rw [o2, Bool.true_and] at this
    exact this
set_option maxRecDepth 100000 in
set_option maxHeartbeats 4000000 in
theorem both_any (w : World) (A B : Option Addr) (ca cb : Nat) (raw nums : List Int) (i j : Int) (h1 : IntsAt w A raw) (h2 : IntsAt w B nums) (hb : nums.length ≤ cb) (hb2 : cb ≤ maxLen) :
    Calls Try.prog 13 #[.agg #[.slice A raw.length ca, .slice B nums.length cb, .int .i64 i, .int .i64 j]] w (TrueP w) := by
  refine cph fun R HR => ?_
  have HAW := Lib.hid awake_any
  have HG0 := Lib.hid ((Grow.refl w).alloc (.cells #[.slice A raw.length ca, .slice B nums.length cb, .int .i64 i, .int .i64 j] 61))
  have HCn := Lib.hid (fun (w1 : World) (hg : Grow w w1) => countsOf_any (w := w1) (cap := ca) (h1.grow hg))
  have hv := cntOf_pos raw
  clear h1
  generalize cntOf raw = cs at HCn hv
  obtain ⟨hm1, hm4, hvs, hts⟩ := tot_pos hv
  have htb := (tot_bd cs).2
  rw [hts] at htb
  obtain ⟨n2, hn2⟩ : ∃ n2, n2 = nums.take 20 := ⟨_, rfl⟩
  have hi2 : IntsAt w B n2 := hn2 ▸ h2.take 20
  have hn20 : n2.length ≤ 20 := by rw [hn2, List.length_take]; omega
  have HSp := Lib.hid (fun (w1 : World) (A1 : Option Addr) (c1 : Nat) (hg : Grow w w1) (h : IntsAt w1 A1 cs) => spread_yes (w := w1) (ca := c1) (cb := cb) h (hi2.grow hg) hv hn20)
  have HSc := Lib.hid (fun (w1 : World) (A1 : Option Addr) (c1 : Nat) (A2 : Option Addr) (c2 : Nat) (A3 : Option Addr) (c3 : Nat) (h1 : IntsAt w1 A1 cs) (h2 : IntsAt w1 A2 (sprP cs n2)) (h3 : IntsAt w1 A3 (sprC cs n2)) => Schedule_any (ca := c1) (cb := c2) (cc := c3) h1 h2 h3)
  rw [spr_ok hv] at HSc
  have hL24 := sched_len (cs := cs) (ps := sprP cs n2) (chs := sprC cs n2) hv
  have HSt := Lib.hid (sched_stp (cs := cs) (p := sprP cs n2) (chs := sprC cs n2) hv)
  have hcl : (sprC cs n2).length = 2 := rfl
  generalize sched cs (sprP cs n2) (sprC cs n2) = L at HSc hL24 HSt
  generalize sprP cs n2 = p at HSp HSc
  generalize sprC cs n2 = c at HSp HSc hcl
  rw [hcl] at HSc
  have hLl : L.length ≤ 24 := by omega
  obtain ⟨hi0, hi1⟩ := idx_ok i cs.length (by omega) (by omega)
  obtain ⟨hj0, hj1⟩ := idx_ok j cs.length (by omega) (by omega)
  obtain ⟨a, ha⟩ := Int.eq_ofNat_of_zero_le hi0
  obtain ⟨b, hbq⟩ := Int.eq_ofNat_of_zero_le hj0
  rw [ha] at hi1
  rw [hbq] at hj1
  have hal : a < cs.length := by omega
  have hbl : b < cs.length := by omega
  have hai : (a : Int) < (cs.length : Int) := by omega
  have hbi : (b : Int) < (cs.length : Int) := by omega
  have hlz : ((cs.length : Int) == 0) = false := by rw [beq_eq_false_iff_ne]; omega
  have HBF := Lib.hid (fun hab h1 h2 => both_finds hv HSt.out hal hbl hab h1 h2)
  unfold bugV at HBF
  have HV := Lib.hid hv
  have HX : Hid (∃ x y, x = cs[a] ∧ y = cs[b] ∧ 0 ≤ x ∧ 0 ≤ y) := ⟨_, _, rfl, rfl, (hvs _ (List.getElem_mem hal)).1, (hvs _ (List.getElem_mem hbl)).1⟩
  clear hi0 hj0 hi1 hj1
  have H0 := Lib.hid h2
  clear hvs hts hi2 h2 hL24 hv
  obtain ⟨x, y, hxe, hye, hx0, hy0⟩ := HX.out
  have HXY := Lib.hid (And.intro hxe hye)
  rw [← hxe, ← hye] at HBF
  clear hxe hye HX
  by_cases h20 : 20 < nums.length
  · have h20d : (20 : Int) < nums.length := by omega
    have hcb20 : (20 : Int) ≤ cb := by omega
    have hcb20n : 20 ≤ cb := by omega
    have hcbm : (cb : Int) ≤ 9223372036854775807 := by unfold maxLen at hb2; omega
    have hl2 : n2.length = 20 := by rw [hn2, List.length_take]; omega
    obtain ⟨bN, oN, rfl, _⟩ := H0.out.resolve_left (by rintro rfl; simp at h20)
    rw [hl2] at HSp
    clear hn2 hl2 hn20 hb hb2
    by_cases hab : a = b
    · have e1 : ((a : Int) == (b : Int)) = true := by simp [hab]
      clear hab HBF
      go_enter Try.func13, Try.ntmps13
      go_wp2_with fail
      go_quiet (fail)
      go_wp2_with (first | (go_at_call 14; refine (HAW.out _).mono ?_; rintro e w1 ⟨rfl, hg1⟩; have H1 : Hid (Grow w w1) := Lib.hid ((show Grow w _ from by first | exact HG0.out | exact HG0.out.drewN _ | exact HG0.out.drew).trans hg1); clear hg1) | (go_at_call 29; refine (HCn.out _ H1.out).mono ?_; rintro e w2 ⟨v2, rfl, hrow2, hg2⟩; obtain ⟨A2, a2, rfl, hi2, _⟩ := ints_of_own hrow2; obtain ⟨bC, oC, rfl, _⟩ := hi2.resolve_left (by rintro rfl; simp at hm1); have H2 := Lib.hid (And.intro hi2 (H1.out.trans hg2)); clear hrow2 hi2 hg2))
      go_quiet (fail)
      go_wp2_with (first | (go_at_call 30; (with_reducible refine Calls.mono (HSp.out _ _ _ ?_ ?_) ?_); (first | exact H2.out.2 | exact H2.out.2.drewN _ | exact H2.out.2.drew); (first | exact H2.out.1 | exact H2.out.1.grow ((Grow.refl _).drewN _) | exact H2.out.1.grow (Grow.refl _).drew); rintro e w3 ⟨A3, a3, B3, b3, rfl, hi3, hj3, hg3, _, _⟩; have H3 := Lib.hid (And.intro hi3 (And.intro hj3 (And.intro (H2.out.1.grow (show Grow w2 w3 from Grow.trans (by first | exact Grow.refl _ | exact (Grow.refl _).drewN _ | exact (Grow.refl _).drew) hg3)) (H2.out.2.trans (show Grow w2 w3 from Grow.trans (by first | exact Grow.refl _ | exact (Grow.refl _).drewN _ | exact (Grow.refl _).drew) hg3))))); clear hi3 hj3 hg3) | (go_at_call 15; (with_reducible refine Calls.mono (HSc.out _ _ _ _ _ _ _ H3.out.2.2.1 H3.out.1 H3.out.2.1) ?_); rintro e w4 hm; obtain ⟨A4, a4, rfl, hi4, hg4⟩ := hm.yes_form; have hcc := (H3.out.2.2.1.grow hg4).resolve_left (by rintro rfl; simp at hm1); obtain ⟨bC4, oC4, hbC4, hcc⟩ := hcc; cases hbC4; have hca := hcc a x (by rw [HXY.out.1]; exact List.getElem?_eq_getElem hal); have hcb := hcc b y (by rw [HXY.out.2]; exact List.getElem?_eq_getElem hbl); have H4 := Lib.hid (And.intro hi4 (And.intro (H3.out.2.2.1.grow hg4) (H3.out.2.2.2.trans hg4))); clear hm hi4 hg4 hcc))
      exact HR.out _ _ ⟨rfl, H4.out.2.2⟩
    · have e1 : ((a : Int) == (b : Int)) = false := by rw [beq_eq_false_iff_ne]; omega
      by_cases hx : x = 0
      · have e2 : (x == 0) = true := by simp [hx]
        clear hab hx HBF
        go_enter Try.func13, Try.ntmps13
        go_wp2_with fail
        go_quiet (fail)
        go_wp2_with (first | (go_at_call 14; refine (HAW.out _).mono ?_; rintro e w1 ⟨rfl, hg1⟩; have H1 : Hid (Grow w w1) := Lib.hid ((show Grow w _ from by first | exact HG0.out | exact HG0.out.drewN _ | exact HG0.out.drew).trans hg1); clear hg1) | (go_at_call 29; refine (HCn.out _ H1.out).mono ?_; rintro e w2 ⟨v2, rfl, hrow2, hg2⟩; obtain ⟨A2, a2, rfl, hi2, _⟩ := ints_of_own hrow2; obtain ⟨bC, oC, rfl, _⟩ := hi2.resolve_left (by rintro rfl; simp at hm1); have H2 := Lib.hid (And.intro hi2 (H1.out.trans hg2)); clear hrow2 hi2 hg2))
        go_quiet (fail)
        go_wp2_with (first | (go_at_call 30; (with_reducible refine Calls.mono (HSp.out _ _ _ ?_ ?_) ?_); (first | exact H2.out.2 | exact H2.out.2.drewN _ | exact H2.out.2.drew); (first | exact H2.out.1 | exact H2.out.1.grow ((Grow.refl _).drewN _) | exact H2.out.1.grow (Grow.refl _).drew); rintro e w3 ⟨A3, a3, B3, b3, rfl, hi3, hj3, hg3, _, _⟩; have H3 := Lib.hid (And.intro hi3 (And.intro hj3 (And.intro (H2.out.1.grow (show Grow w2 w3 from Grow.trans (by first | exact Grow.refl _ | exact (Grow.refl _).drewN _ | exact (Grow.refl _).drew) hg3)) (H2.out.2.trans (show Grow w2 w3 from Grow.trans (by first | exact Grow.refl _ | exact (Grow.refl _).drewN _ | exact (Grow.refl _).drew) hg3))))); clear hi3 hj3 hg3) | (go_at_call 15; (with_reducible refine Calls.mono (HSc.out _ _ _ _ _ _ _ H3.out.2.2.1 H3.out.1 H3.out.2.1) ?_); rintro e w4 hm; obtain ⟨A4, a4, rfl, hi4, hg4⟩ := hm.yes_form; have hcc := (H3.out.2.2.1.grow hg4).resolve_left (by rintro rfl; simp at hm1); obtain ⟨bC4, oC4, hbC4, hcc⟩ := hcc; cases hbC4; have hca := hcc a x (by rw [HXY.out.1]; exact List.getElem?_eq_getElem hal); have hcb := hcc b y (by rw [HXY.out.2]; exact List.getElem?_eq_getElem hbl); have H4 := Lib.hid (And.intro hi4 (And.intro (H3.out.2.2.1.grow hg4) (H3.out.2.2.2.trans hg4))); clear hm hi4 hg4 hcc))
        exact HR.out _ _ ⟨rfl, H4.out.2.2⟩
      · have e2 : (x == 0) = false := by simp [hx]
        by_cases hy : y = 0
        · have e3 : (y == 0) = true := by simp [hy]
          clear hab hx hy HBF
          go_enter Try.func13, Try.ntmps13
          go_wp2_with fail
          go_quiet (fail)
          go_wp2_with (first | (go_at_call 14; refine (HAW.out _).mono ?_; rintro e w1 ⟨rfl, hg1⟩; have H1 : Hid (Grow w w1) := Lib.hid ((show Grow w _ from by first | exact HG0.out | exact HG0.out.drewN _ | exact HG0.out.drew).trans hg1); clear hg1) | (go_at_call 29; refine (HCn.out _ H1.out).mono ?_; rintro e w2 ⟨v2, rfl, hrow2, hg2⟩; obtain ⟨A2, a2, rfl, hi2, _⟩ := ints_of_own hrow2; obtain ⟨bC, oC, rfl, _⟩ := hi2.resolve_left (by rintro rfl; simp at hm1); have H2 := Lib.hid (And.intro hi2 (H1.out.trans hg2)); clear hrow2 hi2 hg2))
          go_quiet (fail)
          go_wp2_with (first | (go_at_call 30; (with_reducible refine Calls.mono (HSp.out _ _ _ ?_ ?_) ?_); (first | exact H2.out.2 | exact H2.out.2.drewN _ | exact H2.out.2.drew); (first | exact H2.out.1 | exact H2.out.1.grow ((Grow.refl _).drewN _) | exact H2.out.1.grow (Grow.refl _).drew); rintro e w3 ⟨A3, a3, B3, b3, rfl, hi3, hj3, hg3, _, _⟩; have H3 := Lib.hid (And.intro hi3 (And.intro hj3 (And.intro (H2.out.1.grow (show Grow w2 w3 from Grow.trans (by first | exact Grow.refl _ | exact (Grow.refl _).drewN _ | exact (Grow.refl _).drew) hg3)) (H2.out.2.trans (show Grow w2 w3 from Grow.trans (by first | exact Grow.refl _ | exact (Grow.refl _).drewN _ | exact (Grow.refl _).drew) hg3))))); clear hi3 hj3 hg3) | (go_at_call 15; (with_reducible refine Calls.mono (HSc.out _ _ _ _ _ _ _ H3.out.2.2.1 H3.out.1 H3.out.2.1) ?_); rintro e w4 hm; obtain ⟨A4, a4, rfl, hi4, hg4⟩ := hm.yes_form; have hcc := (H3.out.2.2.1.grow hg4).resolve_left (by rintro rfl; simp at hm1); obtain ⟨bC4, oC4, hbC4, hcc⟩ := hcc; cases hbC4; have hca := hcc a x (by rw [HXY.out.1]; exact List.getElem?_eq_getElem hal); have hcb := hcc b y (by rw [HXY.out.2]; exact List.getElem?_eq_getElem hbl); have H4 := Lib.hid (And.intro hi4 (And.intro (H3.out.2.2.1.grow hg4) (H3.out.2.2.2.trans hg4))); clear hm hi4 hg4 hcc))
          exact HR.out _ _ ⟨rfl, H4.out.2.2⟩
        · have e3 : (y == 0) = false := by simp [hy]
          obtain ⟨u, v, huv, hf1, hf2⟩ := HBF.out hab (by omega) (by omega)
          have HF1 := Lib.hid hf1
          have HF2 := Lib.hid hf2
          have HUV := Lib.hid huv
          clear hab hx hy HBF hf1 hf2 huv
          go_enter Try.func13, Try.ntmps13
          go_wp2_with fail
          go_quiet (fail)
          go_wp2_with (first | (go_at_call 14; refine (HAW.out _).mono ?_; rintro e w1 ⟨rfl, hg1⟩; have H1 : Hid (Grow w w1) := Lib.hid ((show Grow w _ from by first | exact HG0.out | exact HG0.out.drewN _ | exact HG0.out.drew).trans hg1); clear hg1) | (go_at_call 29; refine (HCn.out _ H1.out).mono ?_; rintro e w2 ⟨v2, rfl, hrow2, hg2⟩; obtain ⟨A2, a2, rfl, hi2, _⟩ := ints_of_own hrow2; obtain ⟨bC, oC, rfl, _⟩ := hi2.resolve_left (by rintro rfl; simp at hm1); have H2 := Lib.hid (And.intro hi2 (H1.out.trans hg2)); clear hrow2 hi2 hg2))
          go_quiet (fail)
          go_wp2_with (first | (go_at_call 30; (with_reducible refine Calls.mono (HSp.out _ _ _ ?_ ?_) ?_); (first | exact H2.out.2 | exact H2.out.2.drewN _ | exact H2.out.2.drew); (first | exact H2.out.1 | exact H2.out.1.grow ((Grow.refl _).drewN _) | exact H2.out.1.grow (Grow.refl _).drew); rintro e w3 ⟨A3, a3, B3, b3, rfl, hi3, hj3, hg3, _, _⟩; have H3 := Lib.hid (And.intro hi3 (And.intro hj3 (And.intro (H2.out.1.grow (show Grow w2 w3 from Grow.trans (by first | exact Grow.refl _ | exact (Grow.refl _).drewN _ | exact (Grow.refl _).drew) hg3)) (H2.out.2.trans (show Grow w2 w3 from Grow.trans (by first | exact Grow.refl _ | exact (Grow.refl _).drewN _ | exact (Grow.refl _).drew) hg3))))); clear hi3 hj3 hg3) | (go_at_call 15; (with_reducible refine Calls.mono (HSc.out _ _ _ _ _ _ _ H3.out.2.2.1 H3.out.1 H3.out.2.1) ?_); rintro e w4 hm; obtain ⟨A4, a4, rfl, hi4, hg4⟩ := hm.yes_form; have hcc := (H3.out.2.2.1.grow hg4).resolve_left (by rintro rfl; simp at hm1); obtain ⟨bC4, oC4, hbC4, hcc⟩ := hcc; cases hbC4; have hca := hcc a x (by rw [HXY.out.1]; exact List.getElem?_eq_getElem hal); have hcb := hcc b y (by rw [HXY.out.2]; exact List.getElem?_eq_getElem hbl); have H4 := Lib.hid (And.intro hi4 (And.intro (H3.out.2.2.1.grow hg4) (H3.out.2.2.2.trans hg4))); clear hm hi4 hg4 hcc))
          go_wp2_with (go_at_call 22; have hh := HF1.out w4 _ _ a2 a4 H4.out.2.1 H4.out.1; (with_reducible refine Calls.mono hh ?_); clear hh; rintro e w5 ⟨rfl, hg5⟩; have H5 := Lib.hid (And.intro (H4.out.1.grow hg5) (And.intro (H4.out.2.1.grow hg5) (H4.out.2.2.trans hg5))); clear hg5)
          go_wp2_with (go_at_call 22; have hh := HF2.out w5 _ _ a2 a4 H5.out.2.1 H5.out.1; (with_reducible refine Calls.mono hh ?_); clear hh; rintro e w6 ⟨rfl, hg6⟩; have H6 := Lib.hid (H5.out.2.2.trans hg6); clear hg6)
          refine HR.out _ _ ⟨?_, H6.out⟩
          have huv := HUV.out
          cases u <;> cases v <;> first | rfl | cases huv
  · have h20d : ¬ (20 : Int) < nums.length := by omega
    have hl2 : n2.length = nums.length := by rw [hn2, List.length_take]; omega
    rw [hl2] at HSp
    clear hn2 hl2 hn20 hb hb2
    by_cases hab : a = b
    · have e1 : ((a : Int) == (b : Int)) = true := by simp [hab]
      clear hab HBF
      go_enter Try.func13, Try.ntmps13
      go_wp2_with fail
      go_quiet (fail)
      go_wp2_with (first | (go_at_call 14; refine (HAW.out _).mono ?_; rintro e w1 ⟨rfl, hg1⟩; have H1 : Hid (Grow w w1) := Lib.hid ((show Grow w _ from by first | exact HG0.out | exact HG0.out.drewN _ | exact HG0.out.drew).trans hg1); clear hg1) | (go_at_call 29; refine (HCn.out _ H1.out).mono ?_; rintro e w2 ⟨v2, rfl, hrow2, hg2⟩; obtain ⟨A2, a2, rfl, hi2, _⟩ := ints_of_own hrow2; obtain ⟨bC, oC, rfl, _⟩ := hi2.resolve_left (by rintro rfl; simp at hm1); have H2 := Lib.hid (And.intro hi2 (H1.out.trans hg2)); clear hrow2 hi2 hg2))
      go_quiet (fail)
      go_wp2_with (first | (go_at_call 30; (with_reducible refine Calls.mono (HSp.out _ _ _ ?_ ?_) ?_); (first | exact H2.out.2 | exact H2.out.2.drewN _ | exact H2.out.2.drew); (first | exact H2.out.1 | exact H2.out.1.grow ((Grow.refl _).drewN _) | exact H2.out.1.grow (Grow.refl _).drew); rintro e w3 ⟨A3, a3, B3, b3, rfl, hi3, hj3, hg3, _, _⟩; have H3 := Lib.hid (And.intro hi3 (And.intro hj3 (And.intro (H2.out.1.grow (show Grow w2 w3 from Grow.trans (by first | exact Grow.refl _ | exact (Grow.refl _).drewN _ | exact (Grow.refl _).drew) hg3)) (H2.out.2.trans (show Grow w2 w3 from Grow.trans (by first | exact Grow.refl _ | exact (Grow.refl _).drewN _ | exact (Grow.refl _).drew) hg3))))); clear hi3 hj3 hg3) | (go_at_call 15; (with_reducible refine Calls.mono (HSc.out _ _ _ _ _ _ _ H3.out.2.2.1 H3.out.1 H3.out.2.1) ?_); rintro e w4 hm; obtain ⟨A4, a4, rfl, hi4, hg4⟩ := hm.yes_form; have hcc := (H3.out.2.2.1.grow hg4).resolve_left (by rintro rfl; simp at hm1); obtain ⟨bC4, oC4, hbC4, hcc⟩ := hcc; cases hbC4; have hca := hcc a x (by rw [HXY.out.1]; exact List.getElem?_eq_getElem hal); have hcb := hcc b y (by rw [HXY.out.2]; exact List.getElem?_eq_getElem hbl); have H4 := Lib.hid (And.intro hi4 (And.intro (H3.out.2.2.1.grow hg4) (H3.out.2.2.2.trans hg4))); clear hm hi4 hg4 hcc))
      exact HR.out _ _ ⟨rfl, H4.out.2.2⟩
    · have e1 : ((a : Int) == (b : Int)) = false := by rw [beq_eq_false_iff_ne]; omega
      by_cases hx : x = 0
      · have e2 : (x == 0) = true := by simp [hx]
        clear hab hx HBF
        go_enter Try.func13, Try.ntmps13
        go_wp2_with fail
        go_quiet (fail)
        go_wp2_with (first | (go_at_call 14; refine (HAW.out _).mono ?_; rintro e w1 ⟨rfl, hg1⟩; have H1 : Hid (Grow w w1) := Lib.hid ((show Grow w _ from by first | exact HG0.out | exact HG0.out.drewN _ | exact HG0.out.drew).trans hg1); clear hg1) | (go_at_call 29; refine (HCn.out _ H1.out).mono ?_; rintro e w2 ⟨v2, rfl, hrow2, hg2⟩; obtain ⟨A2, a2, rfl, hi2, _⟩ := ints_of_own hrow2; obtain ⟨bC, oC, rfl, _⟩ := hi2.resolve_left (by rintro rfl; simp at hm1); have H2 := Lib.hid (And.intro hi2 (H1.out.trans hg2)); clear hrow2 hi2 hg2))
        go_quiet (fail)
        go_wp2_with (first | (go_at_call 30; (with_reducible refine Calls.mono (HSp.out _ _ _ ?_ ?_) ?_); (first | exact H2.out.2 | exact H2.out.2.drewN _ | exact H2.out.2.drew); (first | exact H2.out.1 | exact H2.out.1.grow ((Grow.refl _).drewN _) | exact H2.out.1.grow (Grow.refl _).drew); rintro e w3 ⟨A3, a3, B3, b3, rfl, hi3, hj3, hg3, _, _⟩; have H3 := Lib.hid (And.intro hi3 (And.intro hj3 (And.intro (H2.out.1.grow (show Grow w2 w3 from Grow.trans (by first | exact Grow.refl _ | exact (Grow.refl _).drewN _ | exact (Grow.refl _).drew) hg3)) (H2.out.2.trans (show Grow w2 w3 from Grow.trans (by first | exact Grow.refl _ | exact (Grow.refl _).drewN _ | exact (Grow.refl _).drew) hg3))))); clear hi3 hj3 hg3) | (go_at_call 15; (with_reducible refine Calls.mono (HSc.out _ _ _ _ _ _ _ H3.out.2.2.1 H3.out.1 H3.out.2.1) ?_); rintro e w4 hm; obtain ⟨A4, a4, rfl, hi4, hg4⟩ := hm.yes_form; have hcc := (H3.out.2.2.1.grow hg4).resolve_left (by rintro rfl; simp at hm1); obtain ⟨bC4, oC4, hbC4, hcc⟩ := hcc; cases hbC4; have hca := hcc a x (by rw [HXY.out.1]; exact List.getElem?_eq_getElem hal); have hcb := hcc b y (by rw [HXY.out.2]; exact List.getElem?_eq_getElem hbl); have H4 := Lib.hid (And.intro hi4 (And.intro (H3.out.2.2.1.grow hg4) (H3.out.2.2.2.trans hg4))); clear hm hi4 hg4 hcc))
        exact HR.out _ _ ⟨rfl, H4.out.2.2⟩
      · have e2 : (x == 0) = false := by simp [hx]
        by_cases hy : y = 0
        · have e3 : (y == 0) = true := by simp [hy]
          clear hab hx hy HBF
          go_enter Try.func13, Try.ntmps13
          go_wp2_with fail
          go_quiet (fail)
          go_wp2_with (first | (go_at_call 14; refine (HAW.out _).mono ?_; rintro e w1 ⟨rfl, hg1⟩; have H1 : Hid (Grow w w1) := Lib.hid ((show Grow w _ from by first | exact HG0.out | exact HG0.out.drewN _ | exact HG0.out.drew).trans hg1); clear hg1) | (go_at_call 29; refine (HCn.out _ H1.out).mono ?_; rintro e w2 ⟨v2, rfl, hrow2, hg2⟩; obtain ⟨A2, a2, rfl, hi2, _⟩ := ints_of_own hrow2; obtain ⟨bC, oC, rfl, _⟩ := hi2.resolve_left (by rintro rfl; simp at hm1); have H2 := Lib.hid (And.intro hi2 (H1.out.trans hg2)); clear hrow2 hi2 hg2))
          go_quiet (fail)
          go_wp2_with (first | (go_at_call 30; (with_reducible refine Calls.mono (HSp.out _ _ _ ?_ ?_) ?_); (first | exact H2.out.2 | exact H2.out.2.drewN _ | exact H2.out.2.drew); (first | exact H2.out.1 | exact H2.out.1.grow ((Grow.refl _).drewN _) | exact H2.out.1.grow (Grow.refl _).drew); rintro e w3 ⟨A3, a3, B3, b3, rfl, hi3, hj3, hg3, _, _⟩; have H3 := Lib.hid (And.intro hi3 (And.intro hj3 (And.intro (H2.out.1.grow (show Grow w2 w3 from Grow.trans (by first | exact Grow.refl _ | exact (Grow.refl _).drewN _ | exact (Grow.refl _).drew) hg3)) (H2.out.2.trans (show Grow w2 w3 from Grow.trans (by first | exact Grow.refl _ | exact (Grow.refl _).drewN _ | exact (Grow.refl _).drew) hg3))))); clear hi3 hj3 hg3) | (go_at_call 15; (with_reducible refine Calls.mono (HSc.out _ _ _ _ _ _ _ H3.out.2.2.1 H3.out.1 H3.out.2.1) ?_); rintro e w4 hm; obtain ⟨A4, a4, rfl, hi4, hg4⟩ := hm.yes_form; have hcc := (H3.out.2.2.1.grow hg4).resolve_left (by rintro rfl; simp at hm1); obtain ⟨bC4, oC4, hbC4, hcc⟩ := hcc; cases hbC4; have hca := hcc a x (by rw [HXY.out.1]; exact List.getElem?_eq_getElem hal); have hcb := hcc b y (by rw [HXY.out.2]; exact List.getElem?_eq_getElem hbl); have H4 := Lib.hid (And.intro hi4 (And.intro (H3.out.2.2.1.grow hg4) (H3.out.2.2.2.trans hg4))); clear hm hi4 hg4 hcc))
          exact HR.out _ _ ⟨rfl, H4.out.2.2⟩
        · have e3 : (y == 0) = false := by simp [hy]
          obtain ⟨u, v, huv, hf1, hf2⟩ := HBF.out hab (by omega) (by omega)
          have HF1 := Lib.hid hf1
          have HF2 := Lib.hid hf2
          have HUV := Lib.hid huv
          clear hab hx hy HBF hf1 hf2 huv
          go_enter Try.func13, Try.ntmps13
          go_wp2_with fail
          go_quiet (fail)
          go_wp2_with (first | (go_at_call 14; refine (HAW.out _).mono ?_; rintro e w1 ⟨rfl, hg1⟩; have H1 : Hid (Grow w w1) := Lib.hid ((show Grow w _ from by first | exact HG0.out | exact HG0.out.drewN _ | exact HG0.out.drew).trans hg1); clear hg1) | (go_at_call 29; refine (HCn.out _ H1.out).mono ?_; rintro e w2 ⟨v2, rfl, hrow2, hg2⟩; obtain ⟨A2, a2, rfl, hi2, _⟩ := ints_of_own hrow2; obtain ⟨bC, oC, rfl, _⟩ := hi2.resolve_left (by rintro rfl; simp at hm1); have H2 := Lib.hid (And.intro hi2 (H1.out.trans hg2)); clear hrow2 hi2 hg2))
          go_quiet (fail)
          go_wp2_with (first | (go_at_call 30; (with_reducible refine Calls.mono (HSp.out _ _ _ ?_ ?_) ?_); (first | exact H2.out.2 | exact H2.out.2.drewN _ | exact H2.out.2.drew); (first | exact H2.out.1 | exact H2.out.1.grow ((Grow.refl _).drewN _) | exact H2.out.1.grow (Grow.refl _).drew); rintro e w3 ⟨A3, a3, B3, b3, rfl, hi3, hj3, hg3, _, _⟩; have H3 := Lib.hid (And.intro hi3 (And.intro hj3 (And.intro (H2.out.1.grow (show Grow w2 w3 from Grow.trans (by first | exact Grow.refl _ | exact (Grow.refl _).drewN _ | exact (Grow.refl _).drew) hg3)) (H2.out.2.trans (show Grow w2 w3 from Grow.trans (by first | exact Grow.refl _ | exact (Grow.refl _).drewN _ | exact (Grow.refl _).drew) hg3))))); clear hi3 hj3 hg3) | (go_at_call 15; (with_reducible refine Calls.mono (HSc.out _ _ _ _ _ _ _ H3.out.2.2.1 H3.out.1 H3.out.2.1) ?_); rintro e w4 hm; obtain ⟨A4, a4, rfl, hi4, hg4⟩ := hm.yes_form; have hcc := (H3.out.2.2.1.grow hg4).resolve_left (by rintro rfl; simp at hm1); obtain ⟨bC4, oC4, hbC4, hcc⟩ := hcc; cases hbC4; have hca := hcc a x (by rw [HXY.out.1]; exact List.getElem?_eq_getElem hal); have hcb := hcc b y (by rw [HXY.out.2]; exact List.getElem?_eq_getElem hbl); have H4 := Lib.hid (And.intro hi4 (And.intro (H3.out.2.2.1.grow hg4) (H3.out.2.2.2.trans hg4))); clear hm hi4 hg4 hcc))
          go_wp2_with (go_at_call 22; have hh := HF1.out w4 _ _ a2 a4 H4.out.2.1 H4.out.1; (with_reducible refine Calls.mono hh ?_); clear hh; rintro e w5 ⟨rfl, hg5⟩; have H5 := Lib.hid (And.intro (H4.out.1.grow hg5) (And.intro (H4.out.2.1.grow hg5) (H4.out.2.2.trans hg5))); clear hg5)
          go_wp2_with (go_at_call 22; have hh := HF2.out w5 _ _ a2 a4 H5.out.2.1 H5.out.1; (with_reducible refine Calls.mono hh ?_); clear hh; rintro e w6 ⟨rfl, hg6⟩; have H6 := Lib.hid (H5.out.2.2.trans hg6); clear hg6)
          refine HR.out _ _ ⟨?_, H6.out⟩
          have huv := HUV.out
          cases u <;> cases v <;> first | rfl | cases huv
end Go.Proofs.Ytacfchepacfjnaa
