/- The counting manager, in every state: In, Out, Hold, Born, Retire, Rest, Waiting, New. -/
import Derived.Test.YtcgcljmnnjalpaaGreatGeE
set_option linter.unusedVariables false
set_option linter.unusedSimpArgs false
namespace Go.Proofs.YtcgcljmnnjalpaaGreat
open Go.RowKit Go.Kx
open Go.ChangeMaps (setBlock)
theorem coIn {b : Nat} {w : World} {F : FP} {s : RS} (h : CM b w F s) (t : Int) : Calls Tryz.prog 185 #[.pointer (some ⟨b, 0, none⟩), .int .i64 t] w (OpP (CM b) w F (inS s t)) := by
  refine cph fun R HR => ?_
  obtain ⟨H, M, v, hv⟩ := h
  have HH := Lib.hid (coHas hv t)
  have HF : Hid (OpP (CM b) w F (inS s t) (.returned (.tuple #[.slice none 0 0, .int .i64 (if okTh s t then 0 else 1)])) w) := by
    cases ht : okTh s t
    · have e : inS s t = ⟨s, [], 1⟩ := by simp [inS, ht]
      rw [e]
      exact OpP.none ⟨H, M, v, hv⟩ (Step.refl _ _)
    · have hok := hv.ok.in_ t
      have e : inS s t = ⟨(inS s t).st, [], 0⟩ := by simp [inS, ht]
      rw [e]
      exact OpP.none ⟨H, M, v, hv.upd hok (by simp [inS, ht]) (by simp [inS, ht]) (by simp [inS, ht, hv.kind]) (by simp [inS, ht, addrs])⟩ (Step.refl _ _)
  clear hv
  cases ht : okTh s t
  · rw [ht] at HH HF
    go_enter Tryz.func185, Tryz.ntmps185
    go_wp2_with (go_at_call 111; refine HH.out.mono ?_; rintro e w' ⟨rfl, rfl⟩)
    exact HR.out _ _ HF.out
  · rw [ht] at HH HF
    go_enter Tryz.func185, Tryz.ntmps185
    go_wp2_with (go_at_call 111; refine HH.out.mono ?_; rintro e w' ⟨rfl, rfl⟩)
    exact HR.out _ _ HF.out
theorem coBorn {b : Nat} {w : World} {F : FP} {s : RS} (h : CM b w F s) (a : Int) : Calls Tryz.prog 184 #[.pointer (some ⟨b, 0, none⟩), .int .i64 a] w (OpE (CM b) w F (bornS s a)) := by
  refine cph fun R HR => ?_
  have HQ := Lib.hid h
  obtain ⟨H, M, v, hv⟩ := h
  have HH := Lib.hid (coHas hv 0)
  rw [okTh_zero hv.ok] at HH
  by_cases ha : 0 < a
  · have e : bornS s a = ⟨s, [], 0⟩ := by simp [bornS, ha, hv.kind]
    rw [e] at HR
    have ha2 : ¬ a ≤ 0 := by omega
    clear hv e
    go_enter Tryz.func184, Tryz.ntmps184
    go_wp2_with (go_at_call 111; refine HH.out.mono ?_; rintro e w' ⟨rfl, rfl⟩)
    exact HR.out _ _ ⟨F, rfl, HQ.out, Step.refl _ _⟩
  · have e : bornS s a = ⟨s, [], 1⟩ := by simp [bornS, ha]
    rw [e] at HR
    have ha2 : a ≤ 0 := by omega
    clear hv e
    go_enter Tryz.func184, Tryz.ntmps184
    go_wp2_with (go_at_call 111; refine HH.out.mono ?_; rintro e w' ⟨rfl, rfl⟩)
    exact HR.out _ _ ⟨F, rfl, HQ.out, Step.refl _ _⟩
set_option maxHeartbeats 2000000 in
theorem coHold {b : Nat} {w : World} {F : FP} {s : RS} (h : CM b w F s) (hs : s.items.length ≤ 100000) (t k a : Int) : Calls Tryz.prog 69 #[.pointer (some ⟨b, 0, none⟩), .int .i64 t, .int .i64 k, .int .i64 a] w (OpP (CM b) w F (holdS s t k a)) := by
  refine cph fun R HR => ?_
  have HQ := Lib.hid h
  obtain ⟨H, M, v, hv⟩ := h
  have HH := Lib.hid (coHas hv t)
  cases ht : okTh s t
  · rw [ht] at HH
    have e : holdS s t k a = ⟨s, [], 1⟩ := by simp [holdS, ht]
    rw [e] at HR
    clear hv e
    go_enter Tryz.func69, Tryz.ntmps69
    go_wp2_with (go_at_call 111; refine HH.out.mono ?_; rintro e w' ⟨rfl, rfl⟩)
    exact HR.out _ _ (OpP.none HQ.out (Step.refl _ _))
  · rw [ht] at HH
    rcases holdOk_cases k a with ⟨h1, e⟩ | ⟨h1, h2, e⟩ | ⟨h1, h2, h3, e⟩ | ⟨h1, h2, h3, e⟩
    iterate 3
      have e2 : holdS s t k a = ⟨s, [], 1⟩ := by simp [holdS, e]
      rw [e2] at HR
      clear hv e e2 ht
      go_enter Tryz.func69, Tryz.ntmps69
      go_wp2_with (go_at_call 111; refine HH.out.mono ?_; rintro e w' ⟨rfl, rfl⟩)
      exact HR.out _ _ (OpP.none HQ.out (Step.refl _ _))
    obtain ⟨t', rfl, ht'⟩ := okTh_nat ht
    obtain ⟨k', rfl⟩ := Int.eq_ofNat_of_zero_le h1
    have e2 : holdS s (t' : Int) (k' : Int) a = ⟨(sweepS (holdS0 s t' k' a) fun _ => true).st, (sweepS (holdS0 s t' k' a) fun _ => true).back, 0⟩ := by simp [holdS, ht, e, hv.kind, sweepS]
    rw [e2] at HR
    have HSet := Lib.hid (coSet hv ht' (by omega : k' < 3) a h3)
    clear hv e e2 ht
    go_enter Tryz.func69, Tryz.ntmps69
    go_wp2_with (first | (go_at_call 111; refine HH.out.mono ?_; rintro e w' ⟨rfl, rfl⟩) | (go_at_call 112; refine HSet.out.mono ?_; rintro e w2 ⟨rfl, hc2, hf2⟩; have HLo := Lib.hid (coLoose ⟨H, M, v, hc2⟩ (by simp [holdS0]; omega)); have HSt : Hid (Step F w F w2) := ⟨hf2, fun k hk => .inl hk⟩; clear hc2 hf2) | (go_at_call 113; refine HLo.out.mono ?_; intro e w9 ho; obtain ⟨v9, rfl, hp9⟩ := ho.toP2 HSt.out; have H9 := Lib.hid hp9; clear hp9 ho))
    exact HR.out _ _ H9.out
theorem coRest {b : Nat} {w : World} {F : FP} {s : RS} (h : CM b w F s) (hs : s.items.length ≤ 100000) : Calls Tryz.prog 187 #[.pointer (some ⟨b, 0, none⟩)] w (OpL (CM b) w F (restS s)) := by
  refine cph fun R HR => ?_
  have HLo := Lib.hid (coLoose h (by omega))
  obtain ⟨H, M, v, hv⟩ := h
  have HH := Lib.hid (coHas hv 0)
  rw [okTh_zero hv.ok] at HH
  have e2 : restS s = sweepS s fun _ => true := by
    have hk := hv.kind
    unfold restS
    rw [if_neg (by omega), if_neg (by omega)]
  rw [e2] at HR
  clear hv e2
  go_enter Tryz.func187, Tryz.ntmps187
  go_wp2_with (first | (go_at_call 111; refine HH.out.mono ?_; rintro e w' ⟨rfl, rfl⟩) | (go_at_call 113; refine HLo.out.mono ?_; rintro e w9 ⟨v9, F', rfl, ho⟩; have H9 : Hid (OpL (CM b) w F (sweepS s fun _ => true) (.returned v9) w9) := ⟨v9, F', rfl, ho⟩; clear ho))
  exact HR.out _ _ H9.out
theorem coWaiting {b : Nat} {w : World} {F : FP} {s : RS} (h : CM b w F s) (hs : s.items.length ≤ 100000) : Calls Tryz.prog 77 #[.pointer (some ⟨b, 0, none⟩)] w (WaitP w s) := by
  refine cph fun R HR => ?_
  obtain ⟨H, M, v, hv⟩ := h
  have HH := Lib.hid (coHas hv 0)
  rw [okTh_zero hv.ok] at HH
  have HC := Lib.hid (cloneI_any hv.row (by rw [addrs_len]; omega))
  have k2 := (blk_cell hv.blk 2).trans (rfl : _ = some v)
  obtain ⟨A, m, c, rfl⟩ := own_sl hv.row
  clear hv
  go_enter Tryz.func77, Tryz.ntmps77
  go_wp2_with (first | (go_at_call 111; refine HH.out.mono ?_; rintro e w' ⟨rfl, rfl⟩) | (go_at_call 88; refine HC.out.mono ?_; rintro e w' ⟨v', rfl, ho, hg⟩; have HHH := Lib.hid (And.intro ho hg); clear ho hg))
  refine HR.out _ _ ⟨v', rfl, ?_, HHH.out.2⟩
  rw [wait_ints, ← addrs_len]
  exact HHH.out.1
theorem out_holds {s : RS} (h : Ok s) (t : Nat) : (holdS0 (holdS0 (holdS0 s t 0 0) t 1 0) t 2 0).holds = (outS0 s t).holds := by
  funext i j
  unfold holdS0 outS0 upd1
  dsimp only
  by_cases e : i = t
  · subst e
    simp only [if_true]
    by_cases h2 : j = 2
    · simp [h2]
    · by_cases h1 : j = 1
      · simp [h1]
      · by_cases h0 : j = 0
        · simp [h0]
        · simp only [if_neg h2, if_neg h1, if_neg h0]
          exact h.holds i j (.inr (by omega))
  · simp only [if_neg e]
set_option maxHeartbeats 2000000 in
theorem coOut {b : Nat} {w : World} {F : FP} {s : RS} (h : CM b w F s) (hs : s.items.length ≤ 100000) (t : Int) : Calls Tryz.prog 68 #[.pointer (some ⟨b, 0, none⟩), .int .i64 t] w (OpP (CM b) w F (outS s t)) := by
  refine cph fun R HR => ?_
  have HQ := Lib.hid h
  obtain ⟨H, M, v, hv⟩ := h
  have HH := Lib.hid (coHas hv t)
  cases ht : okTh s t
  · rw [ht] at HH
    have e : outS s t = ⟨s, [], 1⟩ := by simp [outS, ht]
    rw [e] at HR
    clear hv e
    go_enter Tryz.func68, Tryz.ntmps68
    go_wp2_with (go_at_call 111; refine HH.out.mono ?_; rintro e w' ⟨rfl, rfl⟩)
    exact HR.out _ _ (OpP.none HQ.out (Step.refl _ _))
  · rw [ht] at HH
    obtain ⟨t', rfl, ht'⟩ := okTh_nat ht
    have e2 : outS s (t' : Int) = ⟨(sweepS (outS0 s t') fun _ => true).st, (sweepS (outS0 s t') fun _ => true).back, 0⟩ := by simp [outS, ht, hv.kind, sweepS]
    rw [e2] at HR
    have HS0 := Lib.hid (coSet hv ht' (by omega : 0 < 3) 0 (Int.le_refl _))
    have HK := Lib.hid (And.intro hv.ok (And.intro hv.kind (hv.ok.out0 ht')))
    have hal : addrs (outS0 s t') = addrs s := by simp [addrs, outS0]
    have HAL := Lib.hid hal
    clear hv e2 ht hal
    go_enter Tryz.func68, Tryz.ntmps68
    go_wp2_with (go_at_call 111; refine HH.out.mono ?_; rintro e w' ⟨rfl, rfl⟩)
    refine wp_loop_rounds 4 ?_
    rw [rounds_succ]
    go_wp2_with (go_at_call 112; refine HS0.out.mono ?_; rintro e w1 ⟨rfl, hc1, hf1⟩; have HS1 := Lib.hid (coSet hc1 (t := t') (k := 1) ht' (by omega) 0 (Int.le_refl _)); have HF1 := Lib.hid hf1; clear hc1 hf1)
    rw [rounds_succ]
    go_wp2_with (go_at_call 112; refine HS1.out.mono ?_; rintro e w2 ⟨rfl, hc2, hf2⟩; have HS2 := Lib.hid (coSet hc2 (t := t') (k := 2) ht' (by omega) 0 (Int.le_refl _)); have HF2 := Lib.hid (HF1.out.trans hf2); clear hc2 hf2)
    rw [rounds_succ]
    go_wp2_with (go_at_call 112; refine HS2.out.mono ?_; rintro e w3 ⟨rfl, hc3, hf3⟩; have HC3 := Lib.hid (hc3.upd (s' := outS0 s t') HK.out.2.2 rfl rfl (out_holds HK.out.1 t').symm HAL.out); have HF3 : Hid (Step F w F w3) := ⟨HF2.out.trans hf3, fun k hk => .inl hk⟩; clear hc3 hf3)
    have HLo := Lib.hid (coLoose ⟨H, M, v, HC3.out⟩ (by simp [outS0]; omega))
    rw [rounds_succ]
    go_wp2_with (go_at_call 113; refine HLo.out.mono ?_; intro e w9 ho; obtain ⟨v9, rfl, hp9⟩ := ho.toP2 HF3.out; have H9 := Lib.hid hp9; clear hp9 ho)
    exact HR.out _ _ H9.out
set_option maxRecDepth 100000 in
set_option maxHeartbeats 2000000 in
theorem coRetire {b : Nat} {w : World} {F : FP} {s : RS} (h : CM b w F s) (hs : s.items.length ≤ 100000) (t a : Int) : Calls Tryz.prog 70 #[.pointer (some ⟨b, 0, none⟩), .int .i64 t, .int .i64 a] w (OpP (CM b) w F (retS s t a)) := by
  refine cph fun R HR => ?_
  have HQ := Lib.hid h
  obtain ⟨H, M, v, hv⟩ := h
  have HT := Lib.hid (coHas hv t)
  have HV := Lib.hid hv
  cases ht : okTh s t
  · rw [ht] at HT
    have e : retS s t a = ⟨s, [], 1⟩ := by simp [retS, ht]
    rw [e] at HR
    clear hv e
    go_enter Tryz.func70, Tryz.ntmps70
    go_wp2_with (go_at_call 111; refine HT.out.mono ?_; rintro e w' ⟨rfl, rfl⟩)
    exact HR.out _ _ (OpP.none HQ.out (Step.refl _ _))
  rw [ht] at HT
  by_cases ha : a ≤ 0
  · have e : retS s t a = ⟨s, [], 1⟩ := by simp [retS]; omega
    rw [e] at HR
    clear hv e ht
    go_enter Tryz.func70, Tryz.ntmps70
    go_wp2_with (go_at_call 111; refine HT.out.mono ?_; rintro e w' ⟨rfl, rfl⟩)
    exact HR.out _ _ (OpP.none HQ.out (Step.refl _ _))
  have ha0 : 0 < a := by omega
  have k2 := (blk_cell hv.blk 2).trans (rfl : _ = some v)
  have f2 := blk_free hv.blk 2
  have hbl := blk_lt hv.blk
  obtain ⟨A, cap, rfl, hints, _, _⟩ := ints_of_own hv.row
  have hcon := containsI_any (cap := cap) a hints (by rw [addrs_len]; omega)
  cases hw : waitsB s a
  · have e : retS s t a = ⟨(sweepS (retS0 s t a) fun _ => true).st, (sweepS (retS0 s t a) fun _ => true).back, 0⟩ := by simp [retS, ht, ha0, hw, hv.kind, sweepS]
    rw [e] at HR
    rw [waits_mem] at hw
    have hw' : decide (a ∈ addrs s) = false := hw
    rw [hw'] at hcon
    have HC := Lib.hid hcon
    have hokr := Lib.hid (hv.ok.ret0 t a ha0)
    obtain ⟨i0, hi, hz0, hz1, hz2⟩ := info_parts info3x
    have HI := Lib.hid (And.intro hi (And.intro hz0 (And.intro hz1 hz2)))
    have hal : (addrs s).length ≤ 100000 := by rw [addrs_len]; exact hs
    clear hi hz0 hz1 hz2 hv e ht hw hw' hcon hints
    go_enter Tryz.func70, Tryz.ntmps70
    go_wp2_with (first | (go_at_call 111; refine HT.out.mono ?_; rintro e w' ⟨rfl, rfl⟩) | (go_at_call 106; refine HC.out.mono ?_; rintro e w' ⟨rfl, rfl⟩) | (at_builtin; refine wpList_append_own_at _ rfl (.tmp 26) (.tmp 28) 34 rfl 0 3 i0 (.int .i64 0) 1 8 Tryz.underlying34 HI.out.1 HI.out.2.1 HI.out.2.2.1 HI.out.2.2.2 rfl (by decide) _ (addrs s).length ((addrs s).map (Value.int .i64)) rfl (HV.out.row.alloc _) ⟨w.heap.size, 0, none⟩ 1 1 [.int .i64 a] rfl rfl (cell_one_new _ _ _) (by simp [Value.oneCell']) (by unfold maxLen; omega) (by omega) (by simp) ?_; intro v1 w3 hown hgrow _ hat; obtain ⟨g, cap3, rfl⟩ := own_some hown; have hb3 : w3.heap[b]? = some (.cells #[.slice (some ⟨H, 0, none⟩) s.n s.n, .map (some M), .slice A (addrs s).length cap] 132 (0, 0)) := (fr_grown hgrow).at_ (blk_alloc' _ HV.out.blk) (fun e => (HV.out.nev b e).1 rfl); have k2' := (blk_cell hb3 2).trans (rfl : _ = some (Value.slice A (addrs s).length cap)); have f2' := blk_free hb3 2; have H8 := Lib.hid (And.intro hb3 (And.intro hown (And.intro hgrow hat))); clear hb3 hown hgrow hat))
    have hnew : g = w.heap.size + 1 ∨ (Value.slice A (addrs s).length cap).ownBlock = some g := by
      rcases H8.out.2.2.2 with e | e
      · exact .inr (e.symm.trans rfl)
      · left; simpa [Value.ownBlock] using e
    have hHl : H < w.heap.size := by obtain ⟨c, hc⟩ := HV.out.hblk; exact blk_lt hc
    have hMl : M < w.heap.size := by obtain ⟨kv, hm, _⟩ := HV.out.cmap; exact hm.lt
    have hgb : g ≠ b := by
      rintro rfl
      rcases hnew with e | e
      · omega
      · exact (HV.out.nev _ e).1 rfl
    have hb4 := blk_set H8.out.1 2 (.slice (some ⟨g, 0, none⟩) ((addrs s).length + 1) cap3)
    have hgr : Fr (fun k => (Value.slice A (addrs s).length cap).ownBlock = some k) w w3 := (((Fr.refl _ w).alloc _).grown H8.out.2.2.1 (fun k e => .inr e))
    have hfb : Fr (· = b) w3 (w3.setCell ⟨b, 2, none⟩ (.slice (some ⟨g, 0, none⟩) ((addrs s).length + 1) cap3)) := (Fr.refl _ _).setCell _ _ (.inr rfl)
    have hq : CM b (w3.setCell ⟨b, 2, none⟩ (.slice (some ⟨g, 0, none⟩) ((addrs s).length + 1) cap3)) (fun k => k = b ∨ k = H ∨ k = M ∨ (Value.slice (some ⟨g, 0, none⟩) ((addrs s).length + 1) cap3).ownBlock = some k) (retS0 s t a) := by
      refine ⟨H, M, _, HV.out.kind, hokr.out, hb4, ?_, ?_, ?_, fun k => Iff.rfl⟩
      · exact owns_fr (owns_fr HV.out.hrow hgr (fun j hj e => (HV.out.nev j e).2.1 (by simpa [Value.ownBlock] using hj.symm))) hfb (fun j hj e => HV.out.neH (by
          have : H = j := by simpa [Value.ownBlock] using hj
          rw [this, e]))
      · obtain ⟨kv, hm, hc⟩ := HV.out.cmap
        exact ⟨kv, (hm.fr hgr (fun e => (HV.out.nev M e).2.2 rfl)).fr hfb HV.out.neM, hc⟩
      · have h1 := owns_fr H8.out.2.1 hfb (fun j hj e => by
          have : g = j := by simpa [Value.ownBlock] using hj
          exact hgb (this.trans e))
        simpa [retS0, addrs, mkItm] using h1
    have HSt : Hid (Step F w (fun k => k = b ∨ k = H ∨ k = M ∨ (Value.slice (some ⟨g, 0, none⟩) ((addrs s).length + 1) cap3).ownBlock = some k) (w3.setCell ⟨b, 2, none⟩ (.slice (some ⟨g, 0, none⟩) ((addrs s).length + 1) cap3))) :=
      ⟨(hgr.mono (fun i _ e => (HV.out.fp i).2 (.inr (.inr (.inr e))))).trans (hfb.mono (fun i _ e => (HV.out.fp i).2 (.inl e))), fun k hk => by
        rcases hk with e | e | e | e
        · exact .inl ((HV.out.fp k).2 (.inl e))
        · exact .inl ((HV.out.fp k).2 (.inr (.inl e)))
        · exact .inl ((HV.out.fp k).2 (.inr (.inr (.inl e))))
        · have hgk : g = k := by simpa [Value.ownBlock] using e
          subst hgk
          rcases hnew with e | e
          · exact .inr (by omega)
          · exact .inl ((HV.out.fp _).2 (.inr (.inr (.inr e))))⟩
    have HLo := Lib.hid (coLoose hq (by simp [retS0]; omega))
    clear hq hgr hfb hb4
    go_wp2_with (go_at_call 113; refine HLo.out.mono ?_; intro e w9 ho; obtain ⟨v9, rfl, hp9⟩ := ho.toP2 HSt.out; have H9 := Lib.hid hp9; clear hp9 ho)
    exact HR.out _ _ H9.out
  · have e : retS s t a = ⟨s, [], 6⟩ := by simp [retS, ht, ha0, hw]
    rw [e] at HR
    rw [waits_mem] at hw
    have hw' : decide (a ∈ addrs s) = true := hw
    rw [hw'] at hcon
    have HC := Lib.hid hcon
    clear hv e ht hw hw' hcon hints
    go_enter Tryz.func70, Tryz.ntmps70
    go_wp2_with (first | (go_at_call 111; refine HT.out.mono ?_; rintro e w' ⟨rfl, rfl⟩) | (go_at_call 106; refine HC.out.mono ?_; rintro e w' ⟨rfl, rfl⟩))
    exact HR.out _ _ (OpP.none HQ.out (Step.refl _ _))
theorem mk116 (n : Nat) (h1 : 1 ≤ n) (h4 : n ≤ 4) (w : World) : (Instr.makeSlice 116 (.int .i64 n) (.int .i64 n)).run Tryz.prog w = .ok (.slice (some ⟨w.heap.size, 0, none⟩) n n) (w.alloc (.cells (Array.replicate (n * 3) (.int .i64 0)) 76)) := by
  obtain rfl | rfl | rfl | rfl : n = 1 ∨ n = 2 ∨ n = 3 ∨ n = 4 := by omega
  all_goals kernel_rfl
theorem hRows_new {k : Int} {n : Nat} (h1 : 1 ≤ n) (h4 : n ≤ 4) : (hRows (newS k n)).flatMap encH = List.replicate (n * 3) (.int .i64 0) := by
  obtain rfl | rfl | rfl | rfl : n = 1 ∨ n = 2 ∨ n = 3 ∨ n = 4 := by omega
  all_goals rfl
theorem hrow_new {w : World} {k : Int} {n : Nat} (h1 : 1 ≤ n) (h4 : n ≤ 4) : (w.alloc (.cells (Array.replicate (n * 3) (.int .i64 0)) 76)).ownsRow 0 76 3 (.slice (some ⟨w.heap.size, 0, none⟩) n n) n ((hRows (newS k n)).flatMap encH) := by
  rw [hRows_new h1 h4]
  exact ⟨by simp, .inr ⟨w.heap.size, n, _, rfl, Nat.zero_le _, blk_new w _, Nat.le_refl _, by unfold maxLen; omega, by simp, by simp⟩⟩
theorem cnH_zero {x : Int} (hx : x ≠ 0) : cnH (fun _ _ => 0) x = 0 := by
  unfold cnH
  rw [List.countP_eq_zero]
  intro i _
  simp; exact fun e => hx e.symm
set_option maxHeartbeats 1000000 in
theorem coNew (w : World) (t : Int) : Calls Tryz.prog 51 #[.int .i64 t] w (NewP CM 4 w t) := by
  refine cph fun R HR => ?_
  by_cases h1 : t < 1
  · go_enter Tryz.func51, Tryz.ntmps51
    go_wp2_with fail
    exact HR.out _ _ (NewP.no (by omega) (Grow.refl _))
  by_cases h4 : 4 < t
  · go_enter Tryz.func51, Tryz.ntmps51
    go_wp2_with fail
    exact HR.out _ _ (NewP.no (by omega) (Grow.refl _))
  obtain ⟨n, rfl⟩ := Int.eq_ofNat_of_zero_le (a := t) (by omega)
  have hmk := mk116 n (by omega) (by omega) w
  have hmm := @run_makeMap Tryz.prog
  have hr0 := hrow_new (w := w) (k := 4) (n := n) (by omega) (by omega)
  obtain ⟨w1, hw1⟩ : ∃ w1, w.alloc (.cells (Array.replicate (n * 3) (.int .i64 0)) 76) = w1 := ⟨_, rfl⟩
  have hs1 : w1.heap.size = w.heap.size + 1 := by rw [← hw1]; exact size_alloc _ _
  have hg1 : Grow w w1 := by rw [← hw1]; exact (Grow.refl _).alloc _
  rw [hw1] at hmk hr0
  have hs2 : (w1.alloc (.map #[] 0)).heap.size = w.heap.size + 2 := by rw [size_alloc, hs1]
  have HQ : Hid (CM (w.heap.size + 2) ((w1.alloc (.map #[] 0)).alloc (.cells #[.slice (some ⟨w.heap.size, 0, none⟩) n n, .map (some (w.heap.size + 1)), .slice none 0 0] 132)) (fun k => k = w.heap.size + 2 ∨ k = w.heap.size ∨ k = w.heap.size + 1 ∨ (Value.slice none 0 0).ownBlock = some k) (newS 4 n)) := by
    refine ⟨w.heap.size, w.heap.size + 1, .slice none 0 0, rfl, ok_new 4 (by omega) (by omega), ?_, ?_, ⟨[], ?_, ?_⟩, World.ownsRow_nil _ _ _ _, fun k => Iff.rfl⟩
    · have := blk_new (w1.alloc (.map #[] 0)) (.cells #[.slice (some ⟨w.heap.size, 0, none⟩) n n, .map (some (w.heap.size + 1)), .slice none 0 0] 132)
      rw [hs2] at this
      exact this
    · exact owns_grow hr0 (((Grow.refl _).alloc _).alloc _)
    · have := (IMap.new w1).alloc (.cells #[.slice (some ⟨w.heap.size, 0, none⟩) n n, .map (some (w.heap.size + 1)), .slice none 0 0] 132)
      rw [hs1] at this
      exact this
    · intro x hx
      rw [show cnH (newS 4 n).holds x = 0 from cnH_zero hx]
      rfl
  have HG := Lib.hid hg1
  have HW := Lib.hid hs1
  have hms := hmm 124 w1
  rw [hs1] at hms
  clear hr0 hg1 hs2 hw1
  go_enter Tryz.func51, Tryz.ntmps51
  go_wp2_with fail
  rw [HW.out] at *
  exact HR.out _ _ (NewP.yes ⟨by omega, by omega⟩ HQ.out ((HG.out.alloc _).alloc _) (fun j hj => by
    rcases hj with e | e | e | e
    · omega
    · omega
    · omega
    · simp [Value.ownBlock] at e))
end Go.Proofs.YtcgcljmnnjalpaaGreat
