/- OddsHits answers true. -/
import Derived.Test.YtacfchepacfjnaaOfJ
set_option linter.unusedVariables false
set_option linter.unusedSimpArgs false
namespace Go.Proofs.Ytacfchepacfjnaa
open Go.RowKit Go.Kx Go.Maps Go.Sort Go.Shelf
set_option maxRecDepth 100000 in
set_option maxHeartbeats 4000000 in
theorem hitsLaw_any (w : World) (A : Option Addr) (ca : Nat) (cs : List Int) (d i s j u : Int) (h1 : IntsAt w A cs) :
    Calls Try.prog 11 #[.slice A cs.length ca, .int .i64 d, bugV i s j u] w (TrueP w) := by
  refine cph fun R HR => ?_
  have HAW := Lib.hid (awake_any (w.alloc (.cells #[.int .i64 i, .int .i64 s, .int .i64 j, .int .i64 u] 35)))
  have HG0 := Lib.hid ((Grow.refl w).alloc (.cells #[.int .i64 i, .int .i64 s, .int .i64 j, .int .i64 u] 35))
  have HF := Lib.hid (fun (W : World) (hg : Grow w W) => Hits_any (w := W) (ca := ca) (h1.grow hg) d i s j u)
  have HT := Lib.hid (fun (W : World) (hg : Grow w W) => total_any (w := W) (cap := ca) (h1.grow hg))
  have HB := Lib.hid (fun (W : World) (hg : Grow w W) => refBug_any (w := W) (ca := ca) (h1.grow hg) i s j u)
  have HC : Hid (∀ W, Grow (w.alloc (.cells #[.int .i64 i, .int .i64 s, .int .i64 j, .int .i64 u] 35)) W → W.cell? ⟨w.heap.size, 0, none⟩ = some (.int .i64 i) ∧ W.cell? ⟨w.heap.size, 1, none⟩ = some (.int .i64 s) ∧ W.cell? ⟨w.heap.size, 2, none⟩ = some (.int .i64 j) ∧ W.cell? ⟨w.heap.size, 3, none⟩ = some (.int .i64 u)) := by
    intro W hg
    have hbb := hg.at_ (blk_new w _)
    refine ⟨?_, ?_, ?_, ?_⟩ <;> · rw [blk_cell hbb]; rfl
  unfold HitsP at HF
  cases hok : okH cs d i s j u
  · simp only [hok, Bool.false_eq_true, if_false] at HF
    by_cases hv : 0 < tot cs
    · have htz : (tot cs == 0) = false := by rw [beq_eq_false_iff_ne]; omega
      cases hb : bugB cs i s j u
      · rw [hb] at HB
        unfold bugV at HF HB ⊢
        clear hok hb hv h1
        generalize tot cs = T at HT htz
        go_enter Try.func11, Try.ntmps11
        go_wp2_with (first | (go_at_call 14; refine HAW.out.mono ?_; rintro e w1 ⟨rfl, hg1⟩; obtain ⟨c0, c1, c2, c3⟩ := HC.out w1 hg1; have H1 := Lib.hid hg1; clear hg1) | (go_at_call 32; refine (HF.out _ (HG0.out.trans H1.out)).mono ?_; rintro e w2 ⟨rfl, hg2⟩; obtain ⟨d0, d1, d2, d3⟩ := HC.out w2 (H1.out.trans hg2); have H2 := Lib.hid (H1.out.trans hg2); clear hg2) | (go_at_call 17; refine (HT.out _ (HG0.out.trans H2.out)).mono ?_; rintro e w' ⟨rfl, rfl⟩) | (go_at_call 23; refine (HB.out _ (HG0.out.trans H2.out)).mono ?_; rintro e w3 ⟨rfl, hg3⟩; obtain ⟨f0, f1, f2, f3⟩ := HC.out w3 (H2.out.trans hg3); have H3 := Lib.hid (H2.out.trans hg3); clear hg3))
        exact HR.out _ _ ⟨rfl, HG0.out.trans H3.out⟩
      · rw [hb] at HB
        have hd : d < 0 ∨ 2 < d := by
          unfold okH at hok
          rw [hb, decide_eq_true hv] at hok
          simp at hok
          omega
        unfold bugV at HF HB ⊢
        clear hok hb hv h1
        generalize tot cs = T at HT htz
        by_cases hd0 : d < 0
        · clear hd
          go_enter Try.func11, Try.ntmps11
          go_wp2_with (first | (go_at_call 14; refine HAW.out.mono ?_; rintro e w1 ⟨rfl, hg1⟩; obtain ⟨c0, c1, c2, c3⟩ := HC.out w1 hg1; have H1 := Lib.hid hg1; clear hg1) | (go_at_call 32; refine (HF.out _ (HG0.out.trans H1.out)).mono ?_; rintro e w2 ⟨rfl, hg2⟩; obtain ⟨d0, d1, d2, d3⟩ := HC.out w2 (H1.out.trans hg2); have H2 := Lib.hid (H1.out.trans hg2); clear hg2) | (go_at_call 17; refine (HT.out _ (HG0.out.trans H2.out)).mono ?_; rintro e w' ⟨rfl, rfl⟩) | (go_at_call 23; refine (HB.out _ (HG0.out.trans H2.out)).mono ?_; rintro e w3 ⟨rfl, hg3⟩; obtain ⟨f0, f1, f2, f3⟩ := HC.out w3 (H2.out.trans hg3); have H3 := Lib.hid (H2.out.trans hg3); clear hg3))
          exact HR.out _ _ ⟨rfl, HG0.out.trans H3.out⟩
        · have hd2 : 2 < d := by omega
          clear hd
          go_enter Try.func11, Try.ntmps11
          go_wp2_with (first | (go_at_call 14; refine HAW.out.mono ?_; rintro e w1 ⟨rfl, hg1⟩; obtain ⟨c0, c1, c2, c3⟩ := HC.out w1 hg1; have H1 := Lib.hid hg1; clear hg1) | (go_at_call 32; refine (HF.out _ (HG0.out.trans H1.out)).mono ?_; rintro e w2 ⟨rfl, hg2⟩; obtain ⟨d0, d1, d2, d3⟩ := HC.out w2 (H1.out.trans hg2); have H2 := Lib.hid (H1.out.trans hg2); clear hg2) | (go_at_call 17; refine (HT.out _ (HG0.out.trans H2.out)).mono ?_; rintro e w' ⟨rfl, rfl⟩) | (go_at_call 23; refine (HB.out _ (HG0.out.trans H2.out)).mono ?_; rintro e w3 ⟨rfl, hg3⟩; obtain ⟨f0, f1, f2, f3⟩ := HC.out w3 (H2.out.trans hg3); have H3 := Lib.hid (H2.out.trans hg3); clear hg3))
          exact HR.out _ _ ⟨rfl, HG0.out.trans H3.out⟩
    · have ht0 : tot cs = 0 := by have := (tot_bd cs).1; omega
      rw [ht0] at HT
      unfold bugV at HF HB ⊢
      clear hok hv h1 ht0
      go_enter Try.func11, Try.ntmps11
      go_wp2_with (first | (go_at_call 14; refine HAW.out.mono ?_; rintro e w1 ⟨rfl, hg1⟩; obtain ⟨c0, c1, c2, c3⟩ := HC.out w1 hg1; have H1 := Lib.hid hg1; clear hg1) | (go_at_call 32; refine (HF.out _ (HG0.out.trans H1.out)).mono ?_; rintro e w2 ⟨rfl, hg2⟩; obtain ⟨d0, d1, d2, d3⟩ := HC.out w2 (H1.out.trans hg2); have H2 := Lib.hid (H1.out.trans hg2); clear hg2) | (go_at_call 17; refine (HT.out _ (HG0.out.trans H2.out)).mono ?_; rintro e w' ⟨rfl, rfl⟩))
      exact HR.out _ _ ⟨rfl, HG0.out.trans H2.out⟩
  · simp only [hok, if_true] at HF
    unfold okH at hok
    simp only [Bool.and_eq_true, decide_eq_true_eq] at hok
    obtain ⟨hv, hd0, hd2, hb⟩ := hok
    obtain ⟨dn, rfl⟩ := Int.eq_ofNat_of_zero_le hd0
    have HRH := Lib.hid (fun (W : World) (hg : Grow w W) => refHits_any (w := W) (ca := ca) (h1.grow hg) dn (by omega) i s j u hv hb)
    rw [hb] at HB
    have htz : (tot cs == 0) = false := by rw [beq_eq_false_iff_ne]; omega
    have hdn : ¬ (dn : Int) < 0 := by omega
    have hdn2 : ¬ 2 < (dn : Int) := by omega
    unfold RefHitsP at HRH
    unfold bugV at HF HB HRH ⊢
    clear hb hv h1
    generalize hitN cs i s j u (ords cs.length (numL cs.length)) (lsts ((dn : Int)).toNat (tot cs).toNat) = N1 at HF HRH
    generalize (ords cs.length (numL cs.length)).length * (lsts ((dn : Int)).toNat (tot cs).toNat).length = N2 at HF HRH
    generalize tot cs = T at HT htz
    go_enter Try.func11, Try.ntmps11
    go_wp2_with (first | (go_at_call 14; refine HAW.out.mono ?_; rintro e w1 ⟨rfl, hg1⟩; obtain ⟨c0, c1, c2, c3⟩ := HC.out w1 hg1; have H1 := Lib.hid hg1; clear hg1) | (go_at_call 32; refine (HF.out _ (HG0.out.trans H1.out)).mono ?_; rintro e w2 ⟨rfl, hg2⟩; obtain ⟨d0, d1, d2, d3⟩ := HC.out w2 (H1.out.trans hg2); have H2 := Lib.hid (H1.out.trans hg2); clear hg2) | (go_at_call 17; refine (HT.out _ (HG0.out.trans H2.out)).mono ?_; rintro e w' ⟨rfl, rfl⟩) | (go_at_call 23; refine (HB.out _ (HG0.out.trans H2.out)).mono ?_; rintro e w3 ⟨rfl, hg3⟩; obtain ⟨f0, f1, f2, f3⟩ := HC.out w3 (H2.out.trans hg3); have H3 := Lib.hid (H2.out.trans hg3); clear hg3) | (go_at_call 33; refine (HRH.out _ (HG0.out.trans H3.out)).mono ?_; rintro e w4 ⟨rfl, hg4⟩; have H4 := Lib.hid (H3.out.trans hg4); clear hg4))
    exact HR.out _ _ ⟨by simp, HG0.out.trans H4.out⟩
end Go.Proofs.Ytacfchepacfjnaa
