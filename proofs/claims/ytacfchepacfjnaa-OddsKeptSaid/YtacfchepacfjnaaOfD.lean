/- OddsFinds answers true. -/
import Derived.Test.YtacfchepacfjnaaOfC
set_option linter.unusedVariables false
set_option linter.unusedSimpArgs false
namespace Go.Proofs.Ytacfchepacfjnaa
open Go.RowKit Go.Kx Go.Maps Go.Sort Go.Shelf
theorem bugB_ok {cs : List Int} {i s j u : Int} (h : bugB cs i s j u = true) : 0 ≤ i ∧ i < cs.length ∧ 0 ≤ j ∧ j < cs.length ∧ i ≠ j ∧ 0 ≤ s ∧ s < cs[i.toNat]?.getD 0 ∧ 0 ≤ u ∧ u < cs[j.toNat]?.getD 0 := by
  unfold bugB at h
  simpa using h
theorem bugB_s {cs : List Int} (hv : 0 < tot cs) {i s j u : Int} (h : bugB cs i s j u = true) : s ≤ 6 := by
  obtain ⟨_, _, hvs, _⟩ := tot_pos hv
  obtain ⟨h1, h2, _, _, _, _, h3, _⟩ := bugB_ok h
  rw [List.getElem?_eq_getElem (by omega), Option.getD_some] at h3
  have := (hvs _ (List.getElem_mem (l := cs) (n := i.toNat) (by omega))).2
  omega
set_option maxRecDepth 100000 in
set_option maxHeartbeats 4000000 in
theorem findsLaw_any (w : World) (A B : Option Addr) (ca cb : Nat) (cs l : List Int) (i s j u : Int) (h1 : IntsAt w A cs) (h2 : IntsAt w B l) :
    Calls Try.prog 5 #[.slice A cs.length ca, .slice B l.length cb, bugV i s j u] w (TrueP w) := by
  refine cph fun R HR => ?_
  have HAW := Lib.hid (awake_any (w.alloc (.cells #[.int .i64 i, .int .i64 s, .int .i64 j, .int .i64 u] 35)))
  have HG0 := Lib.hid ((Grow.refl w).alloc (.cells #[.int .i64 i, .int .i64 s, .int .i64 j, .int .i64 u] 35))
  have HF := Lib.hid (fun (W : World) (hg : Grow w W) => Finds_any (w := W) (ca := ca) (cb := cb) (h1.grow hg) (h2.grow hg) i s j u)
  have HT := Lib.hid (fun (W : World) (hg : Grow w W) => total_any (w := W) (cap := ca) (h1.grow hg))
  have HB := Lib.hid (fun (W : World) (hg : Grow w W) => refBug_any (w := W) (ca := ca) (h1.grow hg) i s j u)
  have HC : Hid (∀ W, Grow (w.alloc (.cells #[.int .i64 i, .int .i64 s, .int .i64 j, .int .i64 u] 35)) W → W.cell? ⟨w.heap.size, 0, none⟩ = some (.int .i64 i) ∧ W.cell? ⟨w.heap.size, 1, none⟩ = some (.int .i64 s) ∧ W.cell? ⟨w.heap.size, 2, none⟩ = some (.int .i64 j) ∧ W.cell? ⟨w.heap.size, 3, none⟩ = some (.int .i64 u)) := by
    intro W hg
    have hbb := hg.at_ (blk_new w _)
    refine ⟨?_, ?_, ?_, ?_⟩ <;> · rw [blk_cell hbb]; rfl
  unfold FindsP at HF
  unfold bugV at HF HB ⊢
  by_cases hv : 0 < tot cs
  · obtain ⟨hm1, hm4, hvs, hts⟩ := tot_pos hv
    have htz : (tot cs == 0) = false := by rw [beq_eq_false_iff_ne]; omega
    have hvd : decide (0 < tot cs) = true := by simp [hv]
    have HS := Lib.hid (fun (W : World) (hg : Grow w W) => steps_any (w := W) (ca := ca) (cb := cb) (h1.grow hg) (h2.grow hg) hv)
    cases hb : bugB cs i s j u
    · have hok : okF cs l i s j u = false := by simp [okF, hb]
      rw [hok] at HF
      rw [hb] at HB
      clear hok hb hvs hts hvd hv HS h1 h2
      generalize tot cs = T at HT htz
      go_enter Try.func5, Try.ntmps5
      go_wp2_with (first | (go_at_call 14; refine HAW.out.mono ?_; rintro e w1 ⟨rfl, hg1⟩; obtain ⟨c0, c1, c2, c3⟩ := HC.out w1 hg1; have H1 := Lib.hid hg1; clear hg1) | (go_at_call 22; refine (HF.out _ (HG0.out.trans H1.out)).mono ?_; rintro e w2 ⟨rfl, hg2⟩; obtain ⟨d0, d1, d2, d3⟩ := HC.out w2 (H1.out.trans hg2); have H2 := Lib.hid (H1.out.trans hg2); clear hg2) | (go_at_call 17; refine (HT.out _ (HG0.out.trans H2.out)).mono ?_; rintro e w' ⟨rfl, rfl⟩) | (go_at_call 23; refine (HB.out _ (HG0.out.trans H2.out)).mono ?_; rintro e w3 ⟨rfl, hg3⟩; have H3 := Lib.hid (H2.out.trans hg3); clear hg3))
      exact HR.out _ _ ⟨rfl, HG0.out.trans H3.out⟩
    · rw [hb] at HB
      cases hst : stpB cs l
      · have hok : okF cs l i s j u = false := by simp [okF, hst]
        rw [hok] at HF
        rw [hst] at HS
        clear hok hb hvs hts hvd hv hst h1 h2
        generalize tot cs = T at HT htz
        go_enter Try.func5, Try.ntmps5
        go_wp2_with (first | (go_at_call 14; refine HAW.out.mono ?_; rintro e w1 ⟨rfl, hg1⟩; obtain ⟨c0, c1, c2, c3⟩ := HC.out w1 hg1; have H1 := Lib.hid hg1; clear hg1) | (go_at_call 22; refine (HF.out _ (HG0.out.trans H1.out)).mono ?_; rintro e w2 ⟨rfl, hg2⟩; obtain ⟨d0, d1, d2, d3⟩ := HC.out w2 (H1.out.trans hg2); have H2 := Lib.hid (H1.out.trans hg2); clear hg2) | (go_at_call 17; refine (HT.out _ (HG0.out.trans H2.out)).mono ?_; rintro e w' ⟨rfl, rfl⟩) | (go_at_call 23; refine (HB.out _ (HG0.out.trans H2.out)).mono ?_; rintro e w3 ⟨rfl, hg3⟩; have H3 := Lib.hid (H2.out.trans hg3); clear hg3) | (go_at_call 24; refine (HS.out _ (HG0.out.trans H3.out)).mono ?_; rintro e w' ⟨rfl, rfl⟩))
        exact HR.out _ _ ⟨rfl, HG0.out.trans H3.out⟩
      · have hok : okF cs l i s j u = true := by simp [okF, hst, hb, hvd]
        have hll : (l.length : Int) ≤ 24 := by
          have := (tot_bd cs).2
          unfold stpB at hst
          simp at hst
          omega
        have hs6 := bugB_s hv hb
        obtain ⟨_, _, _, _, hij, hs0, _⟩ := bugB_ok hb
        have hfe := fnd_eq (l := l) (u := u) hs0 hij
        have HRF := Lib.hid (fun (W : World) (hg : Grow w W) => refFinds_any (w := W) (ca := cb) (h2.grow hg) (by omega) i s j u hs0 hs6)
        rw [hok, Bool.true_and, hfe] at HF
        unfold bugV at HRF
        rw [hst] at HS
        clear hok hb hvs hts hvd hv hst h1 h2 hfe hij hs0 hs6
        generalize tot cs = T at HT htz
        generalize fndR l i s j u = v at HF HRF
        go_enter Try.func5, Try.ntmps5
        go_wp2_with (first | (go_at_call 14; refine HAW.out.mono ?_; rintro e w1 ⟨rfl, hg1⟩; obtain ⟨c0, c1, c2, c3⟩ := HC.out w1 hg1; have H1 := Lib.hid hg1; clear hg1) | (go_at_call 22; refine (HF.out _ (HG0.out.trans H1.out)).mono ?_; rintro e w2 ⟨rfl, hg2⟩; obtain ⟨d0, d1, d2, d3⟩ := HC.out w2 (H1.out.trans hg2); have H2 := Lib.hid (H1.out.trans hg2); clear hg2) | (go_at_call 17; refine (HT.out _ (HG0.out.trans H2.out)).mono ?_; rintro e w' ⟨rfl, rfl⟩) | (go_at_call 23; refine (HB.out _ (HG0.out.trans H2.out)).mono ?_; rintro e w3 ⟨rfl, hg3⟩; obtain ⟨f0, f1, f2, f3⟩ := HC.out w3 (H2.out.trans hg3); have H3 := Lib.hid (H2.out.trans hg3); clear hg3) | (go_at_call 24; refine (HS.out _ (HG0.out.trans H3.out)).mono ?_; rintro e w' ⟨rfl, rfl⟩) | (go_at_call 25; refine (HRF.out _ (HG0.out.trans H3.out)).mono ?_; rintro e w4 ⟨rfl, hg4⟩; have H4 := Lib.hid (H3.out.trans hg4); clear hg4))
        refine HR.out _ _ ⟨by simp, HG0.out.trans H4.out⟩
  · have ht0 : tot cs = 0 := by have := (tot_bd cs).1; omega
    have hok : okF cs l i s j u = false := by simp [okF, hv]
    rw [hok] at HF
    rw [ht0] at HT
    clear hok hv h1 h2 ht0
    go_enter Try.func5, Try.ntmps5
    go_wp2_with (first | (go_at_call 14; refine HAW.out.mono ?_; rintro e w1 ⟨rfl, hg1⟩; obtain ⟨c0, c1, c2, c3⟩ := HC.out w1 hg1; have H1 := Lib.hid hg1; clear hg1) | (go_at_call 22; refine (HF.out _ (HG0.out.trans H1.out)).mono ?_; rintro e w2 ⟨rfl, hg2⟩; obtain ⟨d0, d1, d2, d3⟩ := HC.out w2 (H1.out.trans hg2); have H2 := Lib.hid (H1.out.trans hg2); clear hg2) | (go_at_call 17; refine (HT.out _ (HG0.out.trans H2.out)).mono ?_; rintro e w' ⟨rfl, rfl⟩))
    exact HR.out _ _ ⟨rfl, HG0.out.trans H2.out⟩
end Go.Proofs.Ytacfchepacfjnaa
