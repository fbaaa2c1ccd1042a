/- The reference's manager: Hold, Bears. -/
import Derived.Test.YtcgcljmnnjalpaaGreatGrI
set_option linter.unusedVariables false
set_option linter.unusedSimpArgs false
namespace Go.Proofs.YtcgcljmnnjalpaaGreat
open Go.RowKit Go.Kx
open Go.ChangeMaps (setBlock)
theorem hold0_eq (s : RS) (t k : Nat) (a : Int) : holdS0 s t k a = if s.ins t = true then hiS (putS s t k a) t else putS s t k a := by
  unfold holdS0 hiS putS
  cases s.ins t <;> simp
set_option maxRecDepth 100000 in
set_option maxHeartbeats 4000000 in
theorem rHold {b : Nat} {w : World} {F : FP} {s : RS} (h : RM b w F s) (hs : s.items.length ≤ 200000) (hs2 : s.now ≤ 2000000) (t h0 a : Int) : Calls Tryz.prog 96 #[.pointer (some ⟨b, 0, none⟩), .int .i64 t, .int .i64 h0, .int .i64 a] w (OpP (RM b) w F (holdS s t h0 a)) := by
  refine cph fun R HR => ?_
  have hno := (rThreadNo h).2
  have hsame := h
  obtain ⟨vi, vb, kb, hv, hkl⟩ := h
  have hth := rThread hv t
  cases hok : okTh s t && holdOk h0 a
  · rw [show holdS s t h0 a = ⟨s, [], 1⟩ by unfold holdS; rw [hok]; rfl] at HR
    have HN := Lib.hid hno
    cases hok1 : okTh s t
    · rw [hok1] at hth
      have HT := Lib.hid hth
      clear hv hkl hth hno hok hok1 hsame
      go_enter Tryz.func96, Tryz.ntmps96
      go_wp2_with (go_at_call 122; refine HT.out.mono ?_; rintro e w' ⟨rfl, rfl⟩)
      exact HR.out _ _ HN.out
    · rw [hok1] at hth
      have HT := Lib.hid hth
      have hbad : h0 < 0 ∨ (0 ≤ h0 ∧ 3 ≤ h0) ∨ (0 ≤ h0 ∧ h0 < 3 ∧ a < 0) := by
        rw [hok1] at hok
        unfold holdOk at hok
        simp at hok
        by_cases q1 : h0 < 0
        · exact .inl q1
        · by_cases q2 : 3 ≤ h0
          · exact .inr (.inl ⟨by omega, q2⟩)
          · exact .inr (.inr ⟨by omega, by omega, hok (by omega) (by omega)⟩)
      clear hv hkl hth hno hok hok1 hsame
      rcases hbad with q | ⟨q1, q2⟩ | ⟨q1, q2, q3⟩
      · go_enter Tryz.func96, Tryz.ntmps96
        go_wp2_with (go_at_call 122; refine HT.out.mono ?_; rintro e w' ⟨rfl, rfl⟩)
        exact HR.out _ _ HN.out
      · go_enter Tryz.func96, Tryz.ntmps96
        go_wp2_with (go_at_call 122; refine HT.out.mono ?_; rintro e w' ⟨rfl, rfl⟩)
        exact HR.out _ _ HN.out
      · go_enter Tryz.func96, Tryz.ntmps96
        go_wp2_with (go_at_call 122; refine HT.out.mono ?_; rintro e w' ⟨rfl, rfl⟩)
        exact HR.out _ _ HN.out
  · have hok1 : okTh s t = true := (Bool.and_eq_true_iff.1 hok).1
    have hok2 : holdOk h0 a = true := (Bool.and_eq_true_iff.1 hok).2
    obtain ⟨T, rfl, hT⟩ : ∃ T : Nat, t = (T : Int) ∧ T < s.n := by
      unfold okTh at hok1
      simp at hok1
      exact ⟨t.toNat, by omega, by omega⟩
    obtain ⟨K, rfl, hK, ha⟩ : ∃ K : Nat, h0 = (K : Int) ∧ K < 3 ∧ 0 ≤ a := by
      unfold holdOk at hok2
      simp at hok2
      exact ⟨h0.toNat, by omega, by omega, hok2.2⟩
    have hT4 : T < 4 := by have := hv.ok.n4; omega
    have hTI : (T : Int) < 4 := by omega
    have hKI : (K : Int) < 3 := by omega
    rw [hok1] at hth
    obtain ⟨c, hc⟩ : ∃ c, (decide (s.kind = 3) && !s.ins T) = c := ⟨_, rfl⟩
    have hho : holdS s (T : Int) (K : Int) a = if c = true then ⟨s, [], 0⟩ else if s.kind = 4 then sweepS (holdS0 s T K a) (fun _ => true) else ⟨holdS0 s T K a, [], 0⟩ := by
      unfold holdS
      rw [hok, if_pos rfl, ← hc]
      simp
    rw [hho] at HR
    have HC := Lib.hid hc
    have HT := Lib.hid hth
    have HV := Lib.hid (And.intro hv hkl)
    have hkk := hv.kind
    have k1 := (blk_cell hv.blk 1).trans (rfl : _ = some (Value.int .i64 s.kind))
    have i0 := (blk_cell hv.blk _).trans (ref_ins s vi vb hT4)
    have x0 := (blk_cell hv.blk _).trans (ref_hold s vi vb hT4 hK)
    have f0 := blk_free hv.blk (4 + T * 3 + K)
    obtain ⟨hv1, hf1⟩ := hv.poke (s' := putS s T K a) (o := 4 + T * 3 + K) (v := .int .i64 a) rfl (put_ok hv.ok hT hK ha) rfl rfl (arr_put s vi vb hT4 hK a)
    obtain ⟨w1, hw1⟩ : ∃ w1, w.setCell ⟨b, 4 + T * 3 + K, none⟩ (.int .i64 a) = w1 := ⟨_, rfl⟩
    rw [hw1] at hv1 hf1
    have i1 := (blk_cell hv1.blk _).trans (ref_ins (putS s T K a) vi vb hT4)
    rw [show (putS s T K a).ins T = s.ins T from rfl] at i1
    have H1 := Lib.hid (And.intro hv1 hf1)
    have HSm := Lib.hid hsame
    clear hok hok1 hok2 hho hc hth hno hv hkl hv1 hf1 hsame
    go_enter Tryz.func96, Tryz.ntmps96
    go_upto_region 3 with (go_at_call 122; refine HT.out.mono ?_; rintro e w' ⟨rfl, rfl⟩)
    go_cut [39] (fun v wx => v = .bool c ∧ w = wx)
    case first =>
      by_cases hk3 : s.kind = 3
      · cases q0 : s.ins T
        · rw [hk3] at k1
          rw [q0] at i0
          have Hk := Lib.hid hk3
          have Hq := Lib.hid q0
          clear hk3 q0 hkk
          go_wp2_with fail
          go_meet
          exact ⟨by rw [← HC.out, Hk.out, Hq.out]; rfl, rfl⟩
        · rw [hk3] at k1
          rw [q0] at i0
          have Hk := Lib.hid hk3
          have Hq := Lib.hid q0
          clear hk3 q0 hkk
          go_wp2_with fail
          go_meet
          exact ⟨by rw [← HC.out, Hk.out, Hq.out]; rfl, rfl⟩
      · have hk3' : (s.kind == 3) = false := by simp [hk3]
        have Hk := Lib.hid hk3
        clear hk3 hkk
        go_wp2_with fail
        go_meet
        exact ⟨by rw [← HC.out, decide_eq_false Hk.out]; rfl, rfl⟩
    case rest =>
      obtain ⟨rfl, rfl⟩ := hcut
      cases c
      · rw [if_neg (by simp)] at HR
        go_upto_if 53 with fail
        go_cut [] (fun wx => Hid (RMv b vi vb kb wx F (holdS0 s T K a) ∧ Fr (· = b) w wx))
        case first =>
          have he := hold0_eq s T K a
          cases q0 : s.ins T
          · rw [q0] at i1 he
            have HE := Lib.hid he
            clear he q0
            go_wp2_with fail
            go_meet
            rw [HE.out]
            exact H1.out
          · rw [q0] at i1 he
            have HE := Lib.hid he
            clear he q0
            go_upto_region 7 with fail
            refine wp_region_still_tail 9 (by kernel_rfl) (by kernel_rfl) ?_
            change wpStill _ _ (w1.drewN 1) (fun a' => wpList _ _ _ _ a' (w1.drewN 1)) _ _
            obtain ⟨hd1, hd2⟩ := H1.out
            have hd3 := hd1.local_fr (G := fun _ => False) ((Grow.refl w1).drewN 1) (fun _ _ h => h)
            have hd4 := hd2.drewN 1
            have k3' := (blk_cell hd3.blk 3).trans (rfl : _ = some (Value.int .i64 s.now))
            have o2' := (blk_cell hd3.blk _).trans (ref_hi (putS s T K a) vi vb hT4)
            have g2' := blk_free hd3.blk (24 + T)
            generalize w1.drewN 1 = w2 at hd3 hd4 k3' o2' g2' ⊢
            obtain ⟨hv3, hf3⟩ := hd3.poke (s' := hiS (putS s T K a) T) (o := 24 + T) (v := .int .i64 s.now) rfl (hi_ok hd3.ok T) rfl rfl (arr_hi (putS s T K a) vi vb hT4)
            obtain ⟨w3, hw3⟩ : ∃ w3, w2.setCell ⟨b, 24 + T, none⟩ (.int .i64 s.now) = w3 := ⟨_, rfl⟩
            rw [hw3] at hv3 hf3
            have H3 := Lib.hid (And.intro hv3 (hd4.trans hf3))
            clear hd1 hd2 hd3 hd4 hv3 hf3
            simp only [List.take_succ_cons, List.take_zero, List.drop_succ_cons, List.drop_zero]
            repeat still_step
            refine wpStill_nil ?_
            go_wp2_with fail
            go_meet
            rw [HE.out]
            exact H3.out
        case rest =>
          have k1' := (blk_cell hcut.out.1.blk 1).trans (rfl : _ = some (Value.int .i64 s.kind))
          have hq : RM b wc F (holdS0 s T K a) := ⟨vi, vb, kb, hcut.out.1, HV.out.2⟩
          have HSt : Hid (Step F w F wc) := HV.out.1.upF hcut.out.2
          have HQ := Lib.hid hq
          have HSw := Lib.hid (rSweepAll hq hs hs2)
          clear hq
          by_cases hk4 : s.kind = 4
          · rw [if_pos hk4] at HR
            rw [hk4] at k1'
            clear hk4 hkk
            go_wp2_with (go_at_call 123; refine HSw.out.mono ?_; intro e w9 ho; obtain ⟨v9, rfl, hp9⟩ := ho.toP HSt.out; have H9 := Lib.hid hp9; clear hp9 ho)
            exact HR.out _ _ H9.out
          · rw [if_neg hk4] at HR
            have hk4' : (s.kind == 4) = false := by simp [hk4]
            clear hk4 hkk
            go_wp2_with fail
            exact HR.out _ _ (OpP.none HQ.out HSt.out)
      · rw [if_pos rfl] at HR
        go_wp2_with fail
        exact HR.out _ _ (OpP.none HSm.out (Step.refl _ _))
theorem bornOk {s : RS} (h : Ok s) (f : Int → Int) : Ok { s with now := s.now + 1, born := f } := ⟨h.n1, h.n4, h.holds, h.pos, h.ins, h.forI, h.addr, by show 0 ≤ s.now + 1; have := h.now0; omega⟩
set_option maxRecDepth 100000 in
set_option maxHeartbeats 2000000 in
theorem rBears {b : Nat} {w : World} {F : FP} {s : RS} (h : RM b w F s) (hs2 : s.now ≤ 1900000) (a : Int) : Calls Tryz.prog 97 #[.pointer (some ⟨b, 0, none⟩), .int .i64 a] w (OpE (RM b) w F (bornS s a)) := by
  refine cph fun R HR => ?_
  have HSm := Lib.hid h
  obtain ⟨vi, vb, kb, hv, hkl⟩ := h
  have k0 := (blk_cell hv.blk 0).trans (rfl : _ = some (Value.bool true))
  have k1 := (blk_cell hv.blk 1).trans (rfl : _ = some (Value.int .i64 s.kind))
  have k3 := (blk_cell hv.blk 3).trans (rfl : _ = some (Value.int .i64 s.now))
  by_cases ha : 0 < a
  · by_cases hk : s.kind = 3
    · rw [show bornS s a = ⟨{ s with now := s.now + 1, born := fun b => if b = a then s.now + 1 else s.born b }, [], 0⟩ by unfold bornS; rw [if_pos ha, if_pos hk]] at HR
      rw [hk] at k1
      have hnow := hv.ok.now0
      have f3 := blk_free hv.blk 3
      obtain ⟨hv2, hf2⟩ := hv.poke (s' := { s with now := s.now + 1 }) (o := 3) (v := .int .i64 (s.now + 1)) rfl (now_ok hv.ok) rfl rfl rfl
      obtain ⟨w1, hw1⟩ : ∃ w1, w.setCell ⟨b, 3, none⟩ (.int .i64 (s.now + 1)) = w1 := ⟨_, rfl⟩
      rw [hw1] at hv2 hf2
      have k3' := (blk_cell hv2.blk 3).trans (rfl : _ = some (Value.int .i64 (s.now + 1)))
      have HB := Lib.hid (rBear hv2 (by omega) a (s.now + 1) (by omega))
      have hbl := bear_len kb a (s.now + 1)
      rw [if_pos (by omega)] at hbl
      have HL := Lib.hid (And.intro hbl hkl)
      have HSt := Lib.hid (hv.upF hf2)
      clear hv hkl hv2 hf2 hk hbl
      go_enter Tryz.func97, Tryz.ntmps97
      go_wp2_with (go_at_call 124; refine HB.out.mono ?_; intro e w9 ho; obtain ⟨rfl, vb9, F9, hv9, hs9⟩ := ho; have H9 := Lib.hid (And.intro hv9 hs9); clear hv9 hs9)
      refine HR.out _ _ ⟨F9, rfl, ⟨vi, vb9, _, H9.out.1, ?_⟩, HSt.out.trans H9.out.2⟩
      have := HL.out
      show _ ≤ s.now + 1
      omega
    · rw [show bornS s a = ⟨s, [], 0⟩ by unfold bornS; rw [if_pos ha, if_neg hk]] at HR
      have hk3' : (s.kind == 3) = false := by simp [hk]
      clear hv hkl hk
      go_enter Tryz.func97, Tryz.ntmps97
      go_wp2_with fail
      exact HR.out _ _ ⟨F, rfl, HSm.out, Step.refl _ _⟩
  · rw [show bornS s a = ⟨s, [], 1⟩ by unfold bornS; rw [if_neg ha]] at HR
    clear hv hkl
    go_enter Tryz.func97, Tryz.ntmps97
    go_wp2_with fail
    exact HR.out _ _ ⟨F, rfl, HSm.out, Step.refl _ _⟩
end Go.Proofs.YtcgcljmnnjalpaaGreat
