/- OddsSchedules and OddsLeast answer true. -/
import Derived.Test.YtacfchepacfjnaaOdL
set_option linter.unusedVariables false
set_option linter.unusedSimpArgs false
namespace Go.Proofs.Ytacfchepacfjnaa
open Go.RowKit Go.Kx Go.Maps Go.Sort Go.Shelf
theorem sched_len {cs ps chs : List Int} (h : 0 < tot cs) : (sched cs ps chs).length = cs.sum.toNat := by
  obtain ⟨_, _, hv, hts⟩ := tot_pos h
  have := (schI_at (ps := ps) (chs := chs) hv cs.sum.toNat (by omega)).l3
  exact this
theorem MadeE.no_form {w w' : World} {l : List Int} {e : Ending} (h : MadeE w false l e w') : ∃ A cap, e = .returned (.tuple #[.slice A 0 cap, .int .i64 1]) ∧ Grow w w' := by
  obtain ⟨v, rfl, hrow, hg⟩ := h
  simp only [Bool.false_eq_true, if_false] at hrow ⊢
  obtain ⟨A, cap, rfl, _, _⟩ := ints_of_own hrow
  exact ⟨A, cap, rfl, hg⟩
theorem MadeE.yes_form {w w' : World} {l : List Int} {e : Ending} (h : MadeE w true l e w') : ∃ A cap, e = .returned (.tuple #[.slice A l.length cap, .int .i64 0]) ∧ IntsAt w' A l ∧ Grow w w' := by
  obtain ⟨v, rfl, hrow, hg⟩ := h
  simp only [if_true] at hrow ⊢
  obtain ⟨A, cap, rfl, hi, _⟩ := ints_of_own hrow
  exact ⟨A, cap, rfl, hi, hg⟩
set_option maxRecDepth 20000 in
set_option maxHeartbeats 2000000 in
theorem schedules_any (w : World) (A B C : Option Addr) (ca cb cc : Nat) (cs ps chs : List Int) (h1 : IntsAt w A cs) (h2 : IntsAt w B ps) (h3 : IntsAt w C chs) :
    Calls Try.prog 3 #[.slice A cs.length ca, .slice B ps.length cb, .slice C chs.length cc] w (TrueP w) := by
  refine cph fun R HR => ?_
  have HAW := Lib.hid (awake_any w)
  have HSf := Lib.hid (fun (w1 : World) (hg : Grow w w1) => Schedule_any (w := w1) (ca := ca) (cb := cb) (cc := cc) (h1.grow hg) (h2.grow hg) (h3.grow hg))
  have HVf := Lib.hid (fun (w1 : World) (hg : Grow w w1) => valid_any (w := w1) (cap := ca) (h1.grow hg))
  have HTf := Lib.hid (fun (w1 : World) (hg : Grow w w1) => total_any (w := w1) (cap := ca) (h1.grow hg))
  have HRf := Lib.hid (fun (w1 : World) (hg : Grow w w1) => refValid_any (w := w1) (ca := ca) (cb := cb) (cc := cc) (h1.grow hg) (h2.grow hg) (h3.grow hg))
  rw [← ok_eq] at HRf
  go_enter Try.func3, Try.ntmps3
  go_wp2_with (go_at_call 14; refine HAW.out.mono ?_)
  rintro e w1 ⟨rfl, hg1⟩
  have HS := Lib.hid (HSf.out w1 hg1)
  have H1 := Lib.hid hg1
  clear hg1 HAW HSf
  have hnx : ∀ w2, Grow w w2 → Calls Try.prog 16 #[.slice A cs.length ca] w2 (fun e w' => e = .returned (.bool (decide (0 < tot cs))) ∧ w2 = w') := HVf.out
  cases hok : okP cs ps chs
  · rw [hok] at HS HRf
    go_wp2_with (go_at_call 15; refine HS.out.mono ?_)
    rintro e w2 hm
    obtain ⟨A2, cap2, rfl, hg2⟩ := hm.no_form
    have hg := H1.out.trans hg2
    have HV := Lib.hid (HVf.out w2 hg)
    have HT := Lib.hid (HTf.out w2 hg)
    have HRR := Lib.hid (HRf.out w2 hg)
    have HG := Lib.hid hg
    clear hg hg2 hm HS hnx HVf HTf HRf hok h1 h2 h3
    by_cases hv : 0 < tot cs
    · have hvd : decide (0 < tot cs) = true := by simp [hv]
      rw [hvd] at HV
      generalize tot cs = T at HT hv
      clear hvd
      go_wp2_with (first | (go_at_call 16; refine HV.out.mono ?_; rintro e w' ⟨rfl, rfl⟩) | (go_at_call 17; refine HT.out.mono ?_; rintro e w' ⟨rfl, rfl⟩) | (go_at_call 18; refine HRR.out.mono ?_; rintro e w' ⟨rfl, rfl⟩))
      exact HR.out _ _ ⟨rfl, HG.out⟩
    · have hvd : decide (0 < tot cs) = false := by simpa using hv
      rw [hvd] at HV
      generalize tot cs = T at HT hv
      clear hvd
      have hv' : decide (0 < T) = false := by simpa using hv
      go_wp2_with (first | (go_at_call 16; refine HV.out.mono ?_; rintro e w' ⟨rfl, rfl⟩) | (go_at_call 17; refine HT.out.mono ?_; rintro e w' ⟨rfl, rfl⟩) | (go_at_call 18; refine HRR.out.mono ?_; rintro e w' ⟨rfl, rfl⟩))
      exact HR.out _ _ ⟨rfl, HG.out⟩
  · rw [hok] at HS HRf
    go_wp2_with (go_at_call 15; refine HS.out.mono ?_)
    rintro e w2 hm
    obtain ⟨A2, cap2, rfl, hi2, hg2⟩ := hm.yes_form
    have hg := H1.out.trans hg2
    have HV := Lib.hid (HVf.out w2 hg)
    have HT := Lib.hid (HTf.out w2 hg)
    have HRR := Lib.hid (HRf.out w2 hg)
    have hv : 0 < tot cs := by
      unfold okP at hok
      simp only [Bool.and_eq_true, decide_eq_true_eq] at hok
      exact hok.1
    have hlc : chs.length ≤ 2 := by
      unfold okP at hok
      simp only [Bool.and_eq_true, decide_eq_true_eq] at hok
      exact hok.2.2.1
    have hlp : ps.length = cs.length := by
      unfold okP isOrd at hok
      simp only [Bool.and_eq_true, decide_eq_true_eq] at hok
      exact hok.2.1.1
    have HK : Hid (Calls Try.prog 20 #[.slice A cs.length ca, .slice B ps.length cb, .slice C chs.length cc] w2 (Made w2 (sched cs ps chs))) := by
      have h := refSchedule_any (w := w2) (ca := ca) (cb := cb) (cc := cc) (m := cs.length) (h1.grow hg) (h2.grow hg) (h3.grow hg) hv rfl hlp hlc
      rw [show Value.slice B cs.length cb = Value.slice B ps.length cb by rw [hlp]] at h
      exact h
    have hsl := sched_len (ps := ps) (chs := chs) hv
    have htb := tot_bd cs
    have hts := (tot_pos hv).2.2.2
    have hs24 : (sched cs ps chs).length ≤ 100 := by omega
    have HG := Lib.hid (And.intro hg (And.intro hi2 hs24))
    clear hg hg2 hi2 hm HS hnx HVf HTf HRf hok h1 h2 h3 hsl htb hts hlc hlp hs24
    have hvd : decide (0 < tot cs) = true := by simp [hv]
    rw [hvd] at HV
    generalize tot cs = T at HT hv
    clear hvd
    generalize sched cs ps chs = SL at HK HG ⊢
    go_wp2_with (first | (go_at_call 16; refine HV.out.mono ?_; rintro e w' ⟨rfl, rfl⟩) | (go_at_call 17; refine HT.out.mono ?_; rintro e w' ⟨rfl, rfl⟩) | (go_at_call 18; refine HRR.out.mono ?_; rintro e w' ⟨rfl, rfl⟩) | (go_at_call 20; refine HK.out.mono ?_))
    rintro e w3 ⟨v3, rfl, hrow3, hg3⟩
    obtain ⟨A3, cap3, rfl, hi3, _⟩ := ints_of_own hrow3
    have hI := ints_any (c := cap2) (d := cap3) (HG.out.2.1.grow hg3) hi3 (by have := HG.out.2.2; omega)
    rw [show (SL == SL) = true by simp] at hI
    have HI := Lib.hid hI
    have H3 := Lib.hid hg3
    clear hI hrow3 hi3 hg3
    go_wp2_with (go_at_call 19; refine HI.out.mono ?_; rintro e w' ⟨rfl, hg⟩; have H4 := Lib.hid hg; clear hg)
    exact HR.out _ _ ⟨rfl, HG.out.1.trans (H3.out.trans H4.out)⟩
end Go.Proofs.Ytacfchepacfjnaa
