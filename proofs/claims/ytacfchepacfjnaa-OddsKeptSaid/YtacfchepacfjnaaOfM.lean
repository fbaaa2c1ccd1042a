/- OddsKept answers true. -/
import Derived.Test.YtacfchepacfjnaaOfL
import Derived.Test.YtacfchepacfjnaaOdN
set_option linter.unusedVariables false
set_option linter.unusedSimpArgs false
namespace Go.Proofs.Ytacfchepacfjnaa
open Go.RowKit Go.Kx Go.Maps Go.Sort Go.Shelf
theorem pw_eq (m K : Nat) : ∀ d, pw m (K : Int) d = ((m * K ^ d : Nat) : Int)
  | 0 => by simp [pw]
  | d + 1 => by
    unfold pw
    rw [pw_eq m K d, Nat.pow_succ, ← Nat.mul_assoc, Int.natCast_mul (m * K ^ d) K]
/-- What OddsKept sees of Hits and Least. -/
theorem kept_sees {cs : List Int} (hv : 0 < tot cs) {a b s u dn : Nat} (hd : dn ≤ 2) (hb : bugB cs (a : Int) (s : Int) (b : Int) (u : Int) = true) :
    ∃ (H Al : Nat) (D : Int), (∀ (w : World) (A : Option Addr) (ca : Nat), IntsAt w A cs → Calls Try.prog 32 #[.slice A cs.length ca, .int .i64 (dn : Int), bugV a s b u] w fun e w' => e = .returned (.tuple #[.int .i64 (H : Int), .int .i64 (Al : Int), .int .i64 0]) ∧ Grow w w') ∧
      (∀ (w : World) (A : Option Addr) (ca : Nat), IntsAt w A cs → Calls Try.prog 21 #[.slice A cs.length ca, .int .i64 (dn : Int)] w fun e w' => e = .returned (.tuple #[.int .i64 1, .int .i64 D, .int .i64 0]) ∧ w = w') ∧
      H ≤ Al ∧ 1 ≤ Al ∧ Al ≤ 13824 ∧ 0 ≤ (H : Int) * D ∧ (H : Int) * D ≤ 40000000 ∧ (¬ (dn = 0 ∧ 0 < s) → (Al : Int) ≤ (H : Int) * D) := by
  obtain ⟨hm1, hm4, hvs, hts⟩ := tot_pos hv
  have htb := (tot_bd cs).2
  have hK24 : (tot cs).toNat ≤ 24 := by omega
  have hok : okH cs (dn : Int) a s b u = true := by unfold okH; rw [hb, decide_eq_true hv, decide_eq_true (show (0 : Int) ≤ (dn : Int) by omega), decide_eq_true (show (dn : Int) ≤ 2 by omega)]; rfl
  have hokl : okL cs (dn : Int) = true := by unfold okL; rw [decide_eq_true hv, decide_eq_true (show (0 : Int) ≤ (dn : Int) by omega), decide_eq_true (show (dn : Int) ≤ 2 by omega)]; rfl
  have hle := hitN_le cs a s b u (ords cs.length (numL cs.length)) (lsts dn (tot cs).toNat)
  have h24 := ords_len24 cs.length hm4
  have h576 := lsts_len2 hd hK24
  have hal := Nat.mul_le_mul h24 h576
  have hp1 := ords_pos cs.length hm4
  have hp2 : 0 < (lsts dn (tot cs).toNat).length := by rw [lsts_len]; exact Nat.pow_pos (by omega)
  have hpos := Nat.mul_pos hp1 hp2
  have hD := pw_bd (m := cs.length) (T := tot cs) hm4 (by omega) htb hd
  have hDe : pw cs.length (tot cs) dn = ((cs.length * (tot cs).toNat ^ dn : Nat) : Int) := by
    have := pw_eq cs.length (tot cs).toNat dn
    rwa [show (((tot cs).toNat : Nat) : Int) = tot cs by omega] at this
  refine ⟨_, _, pw cs.length (tot cs) dn, fun w A ca h => ?_, fun w A ca h => ?_, hle, hpos, hal, ?_, ?_, ?_⟩
  · have := Hits_any (ca := ca) h (dn : Int) a s b u
    unfold HitsP at this
    rw [hok] at this
    simp only [if_true, Int.toNat_natCast] at this
    exact this
  · have := Least_any (cap := ca) h (dn : Int)
    unfold LeastR at this
    rw [hokl] at this
    simp only [if_true, Int.toNat_natCast] at this
    exact this
  · exact Int.mul_nonneg (by omega) hD.1
  · have h1 : ((hitN cs a s b u (ords cs.length (numL cs.length)) (lsts dn (tot cs).toNat) : Nat) : Int) ≤ 13824 := by omega
    have := Int.mul_le_mul h1 hD.2 hD.1 (by omega)
    omega
  · intro h
    have := kept_law hv hd hb h
    rw [hDe, ← Int.natCast_mul]
    omega
set_option maxRecDepth 100000 in
set_option maxHeartbeats 8000000 in
theorem kept_any (w : World) (A : Option Addr) (ca : Nat) (raw : List Int) (i s j u c : Int) (h1 : IntsAt w A raw) :
    Calls Try.prog 12 #[.agg #[.slice A raw.length ca, .int .i64 i, .int .i64 s, .int .i64 j, .int .i64 u, .int .i64 c]] w (TrueP w) := by
  refine cph fun R HR => ?_
  have HAW := Lib.hid awake_any
  have HG0 := Lib.hid ((Grow.refl w).alloc (.cells #[.slice A raw.length ca, .int .i64 i, .int .i64 s, .int .i64 j, .int .i64 u, .int .i64 c] 58))
  have HCn := Lib.hid (fun (w1 : World) (hg : Grow w w1) => countsOf_any (w := w1) (cap := ca) (h1.grow hg))
  have hv := cntOf_pos raw
  clear h1
  generalize cntOf raw = cs at HCn hv
  obtain ⟨hm1, hm4, hvs, hts⟩ := tot_pos hv
  by_cases hm2 : cs.length < 2
  · have hm2i : (cs.length : Int) < 2 := by omega
    clear hvs hts hv
    go_enter Try.func12, Try.ntmps12
    go_wp2_with fail
    go_quiet (fail)
    go_wp2_with (first | (go_at_call 14; refine (HAW.out _).mono ?_; rintro e w1 ⟨rfl, hg1⟩; have H1 : Hid (Grow w w1) := Lib.hid ((show Grow w _ from by first | exact HG0.out | exact HG0.out.drewN _ | exact HG0.out.drew).trans hg1); clear hg1) | (go_at_call 29; refine (HCn.out _ H1.out).mono ?_; rintro e w2 ⟨v2, rfl, hrow2, hg2⟩; obtain ⟨A2, a2, rfl, hi2, _⟩ := ints_of_own hrow2; have hcc := hi2.resolve_left (by rintro rfl; simp at hm1); obtain ⟨bC, oC, rfl, hcc⟩ := hcc; have H2 := Lib.hid (And.intro hi2 (H1.out.trans hg2)); clear hrow2 hi2 hg2 hcc))
    exact HR.out _ _ ⟨rfl, H2.out.2⟩
  · have hm2i : ¬ (cs.length : Int) < 2 := by omega
    obtain ⟨hi0, hi1⟩ := idx_ok i cs.length (by omega) (by omega)
    obtain ⟨hj0, hj1⟩ := idx_ok j cs.length (by omega) (by omega)
    obtain ⟨a, ha⟩ := Int.eq_ofNat_of_zero_le hi0
    obtain ⟨b, hbq⟩ := Int.eq_ofNat_of_zero_le hj0
    rw [ha] at hi1
    rw [hbq] at hj1
    have hal : a < cs.length := by omega
    have hbl : b < cs.length := by omega
    have hai : (a : Int) < (cs.length : Int) := by omega
    have hbi : (b : Int) < (cs.length : Int) := by omega
    have hlz : ((cs.length : Int) == 0) = false := by rw [beq_eq_false_iff_ne]; omega
    obtain ⟨x, hxe⟩ : ∃ x, x = cs[a] := ⟨_, rfl⟩
    obtain ⟨y, hye⟩ : ∃ y, y = cs[b] := ⟨_, rfl⟩
    have hx := hvs _ (List.getElem_mem hal)
    have hy := hvs _ (List.getElem_mem hbl)
    rw [← hxe] at hx
    rw [← hye] at hy
    have HXY := Lib.hid (And.intro hxe (And.intro hye hv))
    clear hi0 hj0 hi1 hj1 hxe hye hvs hts hv
    by_cases hab : a = b
    · have e1 : ((a : Int) == (b : Int)) = true := by simp [hab]
      clear hab
      go_enter Try.func12, Try.ntmps12
      go_wp2_with fail
      go_quiet (fail)
      go_wp2_with (first | (go_at_call 14; refine (HAW.out _).mono ?_; rintro e w1 ⟨rfl, hg1⟩; have H1 : Hid (Grow w w1) := Lib.hid ((show Grow w _ from by first | exact HG0.out | exact HG0.out.drewN _ | exact HG0.out.drew).trans hg1); clear hg1) | (go_at_call 29; refine (HCn.out _ H1.out).mono ?_; rintro e w2 ⟨v2, rfl, hrow2, hg2⟩; obtain ⟨A2, a2, rfl, hi2, _⟩ := ints_of_own hrow2; have hcc := hi2.resolve_left (by rintro rfl; simp at hm1); obtain ⟨bC, oC, rfl, hcc⟩ := hcc; have hca := hcc a x (by rw [HXY.out.1]; exact List.getElem?_eq_getElem hal); have hcb := hcc b y (by rw [HXY.out.2.1]; exact List.getElem?_eq_getElem hbl); have hcaA := fun o => ((Grow.refl w2).alloc o).cell hca; have hcbA := fun o => ((Grow.refl w2).alloc o).cell hcb; have H2 := Lib.hid (And.intro hi2 (H1.out.trans hg2)); clear hrow2 hi2 hg2 hcc))
      exact HR.out _ _ ⟨rfl, H2.out.2.alloc _⟩
    · have e1 : ((a : Int) == (b : Int)) = false := by rw [beq_eq_false_iff_ne]; omega
      by_cases hx0 : x = 0
      · have e2 : (x == 0) = true := by simp [hx0]
        clear hab hx0
        go_enter Try.func12, Try.ntmps12
        go_wp2_with fail
        go_quiet (fail)
        go_wp2_with (first | (go_at_call 14; refine (HAW.out _).mono ?_; rintro e w1 ⟨rfl, hg1⟩; have H1 : Hid (Grow w w1) := Lib.hid ((show Grow w _ from by first | exact HG0.out | exact HG0.out.drewN _ | exact HG0.out.drew).trans hg1); clear hg1) | (go_at_call 29; refine (HCn.out _ H1.out).mono ?_; rintro e w2 ⟨v2, rfl, hrow2, hg2⟩; obtain ⟨A2, a2, rfl, hi2, _⟩ := ints_of_own hrow2; have hcc := hi2.resolve_left (by rintro rfl; simp at hm1); obtain ⟨bC, oC, rfl, hcc⟩ := hcc; have hca := hcc a x (by rw [HXY.out.1]; exact List.getElem?_eq_getElem hal); have hcb := hcc b y (by rw [HXY.out.2.1]; exact List.getElem?_eq_getElem hbl); have hcaA := fun o => ((Grow.refl w2).alloc o).cell hca; have hcbA := fun o => ((Grow.refl w2).alloc o).cell hcb; have H2 := Lib.hid (And.intro hi2 (H1.out.trans hg2)); clear hrow2 hi2 hg2 hcc))
        exact HR.out _ _ ⟨rfl, H2.out.2.alloc _⟩
      · have e2 : (x == 0) = false := by simp [hx0]
        by_cases hy0 : y = 0
        · have e3 : (y == 0) = true := by simp [hy0]
          clear hab hx0 hy0
          go_enter Try.func12, Try.ntmps12
          go_wp2_with fail
          go_quiet (fail)
          go_wp2_with (first | (go_at_call 14; refine (HAW.out _).mono ?_; rintro e w1 ⟨rfl, hg1⟩; have H1 : Hid (Grow w w1) := Lib.hid ((show Grow w _ from by first | exact HG0.out | exact HG0.out.drewN _ | exact HG0.out.drew).trans hg1); clear hg1) | (go_at_call 29; refine (HCn.out _ H1.out).mono ?_; rintro e w2 ⟨v2, rfl, hrow2, hg2⟩; obtain ⟨A2, a2, rfl, hi2, _⟩ := ints_of_own hrow2; have hcc := hi2.resolve_left (by rintro rfl; simp at hm1); obtain ⟨bC, oC, rfl, hcc⟩ := hcc; have hca := hcc a x (by rw [HXY.out.1]; exact List.getElem?_eq_getElem hal); have hcb := hcc b y (by rw [HXY.out.2.1]; exact List.getElem?_eq_getElem hbl); have hcaA := fun o => ((Grow.refl w2).alloc o).cell hca; have hcbA := fun o => ((Grow.refl w2).alloc o).cell hcb; have H2 := Lib.hid (And.intro hi2 (H1.out.trans hg2)); clear hrow2 hi2 hg2 hcc))
          exact HR.out _ _ ⟨rfl, H2.out.2.alloc _⟩
        · have e3 : (y == 0) = false := by simp [hy0]
          obtain ⟨hs0, hs1⟩ := idx_ok s x (by omega) (by omega)
          obtain ⟨hu0, hu1⟩ := idx_ok u y (by omega) (by omega)
          obtain ⟨hd0, hd1⟩ := idx_ok c 3 (by omega) (by omega)
          obtain ⟨s2, hs2⟩ := Int.eq_ofNat_of_zero_le hs0
          obtain ⟨u2, hu2⟩ := Int.eq_ofNat_of_zero_le hu0
          obtain ⟨dn, hdn⟩ := Int.eq_ofNat_of_zero_le hd0
          rw [hs2] at hs1
          rw [hu2] at hu1
          rw [hdn] at hd1
          have hb : bugB cs (a : Int) (s2 : Int) (b : Int) (u2 : Int) = true := by
            unfold bugB
            rw [Int.toNat_natCast, Int.toNat_natCast, List.getElem?_eq_getElem hal, List.getElem?_eq_getElem hbl, Option.getD_some, Option.getD_some, ← HXY.out.1, ← HXY.out.2.1]
            simp
            omega
          obtain ⟨Hn, Al, D, k1, k2, k3, k4, k5, k6, k7, k8⟩ := kept_sees HXY.out.2.2 (dn := dn) (by omega) hb
          unfold bugV at k1
          have HK1 := Lib.hid k1
          have HK2 := Lib.hid k2
          have HK8 := Lib.hid k8
          have hxp : 0 < x := by omega
          have hyp : 0 < y := by omega
          have hnh : ¬ (Al : Int) < (Hn : Int) := by omega
          have hna : ¬ (Al : Int) < 1 := by omega
          have hw := Lib.hid (show wrap64 ((Hn : Int) * D) = (Hn : Int) * D by generalize (Hn : Int) * D = P at k6 k7; unfold wrap64; omega)
          have hw2 := Lib.hid (show wrap64 (Al : Int) = (Al : Int) by unfold wrap64; omega)
          clear hab hx0 hy0 hb hs0 hs1 hu0 hu1 hd0 k1 k2 k8 k3 k4 k5 k6 k7
          by_cases hd : dn = 0
          · have hdi : ((dn : Int) == 0) = true := by simp [hd]
            by_cases hs : 0 < s2
            · have hsi : (0 : Int) < (s2 : Int) := by omega
              clear HK8 hd hs
              go_enter Try.func12, Try.ntmps12
              go_wp2_with fail
              go_quiet (fail)
              go_wp2_with (first | (go_at_call 14; refine (HAW.out _).mono ?_; rintro e w1 ⟨rfl, hg1⟩; have H1 : Hid (Grow w w1) := Lib.hid ((show Grow w _ from by first | exact HG0.out | exact HG0.out.drewN _ | exact HG0.out.drew).trans hg1); clear hg1) | (go_at_call 29; refine (HCn.out _ H1.out).mono ?_; rintro e w2 ⟨v2, rfl, hrow2, hg2⟩; obtain ⟨A2, a2, rfl, hi2, _⟩ := ints_of_own hrow2; have hcc := hi2.resolve_left (by rintro rfl; simp at hm1); obtain ⟨bC, oC, rfl, hcc⟩ := hcc; have hca := hcc a x (by rw [HXY.out.1]; exact List.getElem?_eq_getElem hal); have hcb := hcc b y (by rw [HXY.out.2.1]; exact List.getElem?_eq_getElem hbl); have hcaA := fun o => ((Grow.refl w2).alloc o).cell hca; have hcbA := fun o => ((Grow.refl w2).alloc o).cell hcb; have H2 := Lib.hid (And.intro hi2 (H1.out.trans hg2)); clear hrow2 hi2 hg2 hcc))
              go_wp2_with (go_at_call 32; have hh := HK1.out _ (some ⟨bC, oC, none⟩) a2 (H2.out.1.grow ((Grow.refl w2).alloc (.cells #[.int .i64 (a : Int), .int .i64 (s2 : Int), .int .i64 (b : Int), .int .i64 (u2 : Int)] 35))); (with_reducible refine Calls.mono hh ?_); clear hh; rintro e w5 ⟨rfl, hg5⟩; have q1 : w5.cell? ⟨w2.heap.size, 1, none⟩ = some (.int .i64 (s2 : Int)) := (blk_cell (hg5.at_ (blk_new w2 _)) 1).trans rfl; have H5 := Lib.hid (And.intro (H2.out.1.grow (((Grow.refl w2).alloc _).trans hg5)) (H2.out.2.trans (((Grow.refl w2).alloc _).trans hg5))); clear hg5)
              go_wp2_with (go_at_call 21; have hh := HK2.out w5 (some ⟨bC, oC, none⟩) a2 H5.out.1; (with_reducible refine Calls.mono hh ?_); clear hh; rintro e w6 ⟨rfl, rfl⟩)
              exact HR.out _ _ ⟨rfl, H5.out.2⟩
            · have hsi : ¬ (0 : Int) < (s2 : Int) := by omega
              have HLE := Lib.hid (HK8.out (by omega))
              clear HK8 hd hs
              go_enter Try.func12, Try.ntmps12
              go_wp2_with fail
              go_quiet (fail)
              go_wp2_with (first | (go_at_call 14; refine (HAW.out _).mono ?_; rintro e w1 ⟨rfl, hg1⟩; have H1 : Hid (Grow w w1) := Lib.hid ((show Grow w _ from by first | exact HG0.out | exact HG0.out.drewN _ | exact HG0.out.drew).trans hg1); clear hg1) | (go_at_call 29; refine (HCn.out _ H1.out).mono ?_; rintro e w2 ⟨v2, rfl, hrow2, hg2⟩; obtain ⟨A2, a2, rfl, hi2, _⟩ := ints_of_own hrow2; have hcc := hi2.resolve_left (by rintro rfl; simp at hm1); obtain ⟨bC, oC, rfl, hcc⟩ := hcc; have hca := hcc a x (by rw [HXY.out.1]; exact List.getElem?_eq_getElem hal); have hcb := hcc b y (by rw [HXY.out.2.1]; exact List.getElem?_eq_getElem hbl); have hcaA := fun o => ((Grow.refl w2).alloc o).cell hca; have hcbA := fun o => ((Grow.refl w2).alloc o).cell hcb; have H2 := Lib.hid (And.intro hi2 (H1.out.trans hg2)); clear hrow2 hi2 hg2 hcc))
              go_wp2_with (go_at_call 32; have hh := HK1.out _ (some ⟨bC, oC, none⟩) a2 (H2.out.1.grow ((Grow.refl w2).alloc (.cells #[.int .i64 (a : Int), .int .i64 (s2 : Int), .int .i64 (b : Int), .int .i64 (u2 : Int)] 35))); (with_reducible refine Calls.mono hh ?_); clear hh; rintro e w5 ⟨rfl, hg5⟩; have q1 : w5.cell? ⟨w2.heap.size, 1, none⟩ = some (.int .i64 (s2 : Int)) := (blk_cell (hg5.at_ (blk_new w2 _)) 1).trans rfl; have H5 := Lib.hid (And.intro (H2.out.1.grow (((Grow.refl w2).alloc _).trans hg5)) (H2.out.2.trans (((Grow.refl w2).alloc _).trans hg5))); clear hg5)
              go_wp2_with (go_at_call 21; have hh := HK2.out w5 (some ⟨bC, oC, none⟩) a2 H5.out.1; (with_reducible refine Calls.mono hh ?_); clear hh; rintro e w6 ⟨rfl, rfl⟩)
              have hz : decide (wrap64 (Al : Int) ≤ wrap64 ((Hn : Int) * D)) = true := by rw [hw.out, hw2.out]; simpa using HLE.out
              rw [hz]
              exact HR.out _ _ ⟨rfl, H5.out.2⟩
          · have hdi : ((dn : Int) == 0) = false := by rw [beq_eq_false_iff_ne]; omega
            have HLE := Lib.hid (HK8.out (by omega))
            clear HK8 hd
            go_enter Try.func12, Try.ntmps12
            go_wp2_with fail
            go_quiet (fail)
            go_wp2_with (first | (go_at_call 14; refine (HAW.out _).mono ?_; rintro e w1 ⟨rfl, hg1⟩; have H1 : Hid (Grow w w1) := Lib.hid ((show Grow w _ from by first | exact HG0.out | exact HG0.out.drewN _ | exact HG0.out.drew).trans hg1); clear hg1) | (go_at_call 29; refine (HCn.out _ H1.out).mono ?_; rintro e w2 ⟨v2, rfl, hrow2, hg2⟩; obtain ⟨A2, a2, rfl, hi2, _⟩ := ints_of_own hrow2; have hcc := hi2.resolve_left (by rintro rfl; simp at hm1); obtain ⟨bC, oC, rfl, hcc⟩ := hcc; have hca := hcc a x (by rw [HXY.out.1]; exact List.getElem?_eq_getElem hal); have hcb := hcc b y (by rw [HXY.out.2.1]; exact List.getElem?_eq_getElem hbl); have hcaA := fun o => ((Grow.refl w2).alloc o).cell hca; have hcbA := fun o => ((Grow.refl w2).alloc o).cell hcb; have H2 := Lib.hid (And.intro hi2 (H1.out.trans hg2)); clear hrow2 hi2 hg2 hcc))
            go_wp2_with (go_at_call 32; have hh := HK1.out _ (some ⟨bC, oC, none⟩) a2 (H2.out.1.grow ((Grow.refl w2).alloc (.cells #[.int .i64 (a : Int), .int .i64 (s2 : Int), .int .i64 (b : Int), .int .i64 (u2 : Int)] 35))); (with_reducible refine Calls.mono hh ?_); clear hh; rintro e w5 ⟨rfl, hg5⟩; have q1 : w5.cell? ⟨w2.heap.size, 1, none⟩ = some (.int .i64 (s2 : Int)) := (blk_cell (hg5.at_ (blk_new w2 _)) 1).trans rfl; have H5 := Lib.hid (And.intro (H2.out.1.grow (((Grow.refl w2).alloc _).trans hg5)) (H2.out.2.trans (((Grow.refl w2).alloc _).trans hg5))); clear hg5)
            go_wp2_with (go_at_call 21; have hh := HK2.out w5 (some ⟨bC, oC, none⟩) a2 H5.out.1; (with_reducible refine Calls.mono hh ?_); clear hh; rintro e w6 ⟨rfl, rfl⟩)
            have hz : decide (wrap64 (Al : Int) ≤ wrap64 ((Hn : Int) * D)) = true := by rw [hw.out, hw2.out]; simpa using HLE.out
            rw [hz]
            exact HR.out _ _ ⟨rfl, H5.out.2⟩
end Go.Proofs.Ytacfchepacfjnaa
