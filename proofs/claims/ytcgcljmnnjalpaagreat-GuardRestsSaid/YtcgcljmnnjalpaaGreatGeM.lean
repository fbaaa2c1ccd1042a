/- The span manager, in every state: Retire. -/
import Derived.Test.YtcgcljmnnjalpaaGreatGeK
set_option linter.unusedVariables false
set_option linter.unusedSimpArgs false
namespace Go.Proofs.YtcgcljmnnjalpaaGreat
open Go.RowKit Go.Kx
open Go.ChangeMaps (setBlock)
/-- What Waiting leaves, met by Contains. -/
theorem WaitP.has {w w' : World} {s : RS} {e : Ending} (h : WaitP w s e w') (hs : s.items.length ≤ 100000) (a : Int) : ∃ A n c, e = .returned (.slice A n c) ∧ Grow w w' ∧ Calls Tryz.prog 106 #[.slice A n c, .int .i64 a] w' fun e w'' => e = .returned (.bool (decide (a ∈ addrs s))) ∧ w' = w'' := by
  obtain ⟨v, rfl, ho, hg⟩ := h
  rw [wait_ints, ← addrs_len] at ho
  obtain ⟨A, c, rfl, hints, _, _⟩ := ints_of_own (l := addrs s) ho
  exact ⟨A, (addrs s).length, c, rfl, hg, containsI_any (cap := c) a hints (by rw [addrs_len]; omega)⟩
set_option maxRecDepth 100000 in
set_option maxHeartbeats 4000000 in
theorem spRetire {b : Nat} {w : World} {F : FP} {s : RS} (h : SP b w F s) (hs : s.items.length ≤ 100000) (t a : Int) : Calls Tryz.prog 66 #[.pointer (some ⟨b, 0, none⟩), .int .i64 t, .int .i64 a] w (OpP (SP b) w F (retS s t a)) := by
  refine cph fun R HR => ?_
  have HQ := Lib.hid h
  have HWt := Lib.hid (spWaiting h hs)
  obtain ⟨M, v, hv⟩ := h
  have HT := Lib.hid (spHas hv t)
  have HV := Lib.hid hv
  cases ht : okTh s t
  · rw [ht] at HT
    have e : retS s t a = ⟨s, [], 1⟩ := by simp [retS, ht]
    rw [e] at HR
    clear hv e
    go_enter Tryz.func66, Tryz.ntmps66
    go_wp2_with (go_at_call 109; refine HT.out.mono ?_; rintro e w' ⟨rfl, rfl⟩)
    exact HR.out _ _ (OpP.none HQ.out (Step.refl _ _))
  rw [ht] at HT
  by_cases ha : a ≤ 0
  · have e : retS s t a = ⟨s, [], 1⟩ := by simp [retS]; omega
    rw [e] at HR
    clear hv e ht
    go_enter Tryz.func66, Tryz.ntmps66
    go_wp2_with (go_at_call 109; refine HT.out.mono ?_; rintro e w' ⟨rfl, rfl⟩)
    exact HR.out _ _ (OpP.none HQ.out (Step.refl _ _))
  have ha0 : 0 < a := by omega
  have hbl := blk_lt hv.blk
  cases hw : waitsB s a
  · have e : retS s t a = ⟨(sweepS (retS0 s t a) fun _ => true).st, (sweepS (retS0 s t a) fun _ => true).back, 0⟩ := by simp [retS, ht, ha0, hw, hv.kind, sweepS]
    rw [e] at HR
    rw [waits_mem] at hw
    have hw' : decide (a ∈ addrs s) = false := hw
    have HWM := Lib.hid hw'
    have hokr := Lib.hid (hv.ok.ret0 t a ha0)
    obtain ⟨i1, hi, hz0, hz1, hz2⟩ := info_parts infoS
    have HJ := Lib.hid (And.intro hi (And.intro hz0 (And.intro hz1 hz2)))
    obtain ⟨A, m, cap, hvs⟩ := own_sl hv.row
    subst hvs
    clear hi hz0 hz1 hz2 hv e ht hw hw'
    go_enter Tryz.func66, Tryz.ntmps66
    go_upto_region 5 with (first | (go_at_call 109; refine HT.out.mono ?_; rintro e w' ⟨rfl, rfl⟩) | (go_at_call 76; refine HWt.out.mono ?_; intro e w1 ho; obtain ⟨A1, n1, c1, rfl, hg, hcon⟩ := ho.has hs a; rw [HWM.out] at hcon; have HC := Lib.hid hcon; have HG1 := Lib.hid hg; clear ho hg hcon) | (go_at_call 106; refine HC.out.mono ?_; rintro e w' ⟨rfl, rfl⟩))
    have hb1 := HG1.out.at_ HV.out.blk
    have hrow := owns_grow HV.out.row HG1.out
    have e0 := (blk_cell hb1 0).trans (rfl : _ = some (Value.int .i64 s.now))
    have e26 := (blk_cell hb1 26).trans (rfl : _ = some (Value.map (some M)))
    have e27 := (blk_cell hb1 27).trans (rfl : _ = some (Value.slice A m cap))
    have f27 := blk_free hb1 27
    have hbl1 := blk_lt hb1
    obtain ⟨kv, hm, hcm⟩ := HV.out.cmap
    have hmd : IMap w1.drew M kv := (hm.fr HG1.out (fun h => h)).fr (S := fun _ => False) (Fr.refl _ _).drew (fun h => h)
    have hlook := hmd.lookup Tryz.underlying124 Tryz.underlying3 (zero3x w1.drew) a false
    simp only [Bool.false_eq_true, if_false] at hlook
    rw [hcm a ha0] at hlook
    have hgs := HG1.out.size
    have H2 := Lib.hid (And.intro hb1 (And.intro hrow (And.intro hmd hcm)))
    have hMl : M < w.heap.size := hm.lt
    clear hb1 hrow hm hmd hcm
    have henc : Hid ([Value.int .i64 a, .int .i64 (s.born a), .int .i64 s.now] = encS (mkItm s t a)) := rfl
    generalize s.born a = ba at henc hlook
    go_region_law ((refine step_append_own rfl (.tmp 24) (.tmp 37) 128 rfl 0 147 i1 (.agg #[.int .i64 0, .int .i64 0, .int .i64 0]) 3 24 Tryz.underlying128 HJ.out.1 HJ.out.2.1 HJ.out.2.2.1 HJ.out.2.2.2 rfl (by decide) _ s.items.length (s.items.flatMap encS) rfl (H2.out.2.1.alloc _) ⟨w1.heap.size, 0, none⟩ 1 1 [.int .i64 a, .int .i64 ba, .int .i64 s.now] rfl rfl (cells_new w1.drew [.int .i64 a, .int .i64 ba, .int .i64 s.now] 147) (by simp [Value.oneCell']) (by unfold maxLen; omega) (by omega) (by simp) ?_); intro v2 w3 hown hgrow _ hat; obtain ⟨g, cap3, rfl⟩ := own_some hown; have hb3 : w3.heap[b]? = some (.cells (spArr s M (.slice A m cap)) 130 (0, 0)) := (fr_grown hgrow).at_ (blk_alloc' _ H2.out.1) (fun e => (HV.out.nev b e).1 rfl); have e27' := (blk_cell hb3 27).trans (rfl : _ = some (Value.slice A m cap)); have f27' := blk_free hb3 27; have H8 := Lib.hid (And.intro hb3 (And.intro hown (And.intro hgrow hat))); clear hb3 hown hgrow hat)
    all_goals
      have hnew : g = w1.heap.size + 1 ∨ (Value.slice A m cap).ownBlock = some g := by
        rcases H8.out.2.2.2 with e | e
        · exact .inr (e.symm.trans rfl)
        · left; simpa [Value.ownBlock] using e
      have hgb : g ≠ b ∧ g ≠ M := by
        rcases hnew with e | e
        · exact ⟨by omega, by omega⟩
        · exact HV.out.nev _ e
      have hb4 := blk_set H8.out.1 27 (.slice (some ⟨g, 0, none⟩) (s.items.length + 1) cap3)
      have hgr : Fr (fun k => (Value.slice A m cap).ownBlock = some k) w w3 := (((HG1.out.mono (fun _ _ h => h.elim)).drew).alloc _).grown H8.out.2.2.1 (fun k e => .inr e)
      have hfb : Fr (· = b) w3 (w3.setCell ⟨b, 27, none⟩ (.slice (some ⟨g, 0, none⟩) (s.items.length + 1) cap3)) := (Fr.refl (· = b) _).setCell _ _ (.inr rfl)
      have hq : SP b (w3.setCell ⟨b, 27, none⟩ (.slice (some ⟨g, 0, none⟩) (s.items.length + 1) cap3)) (fun k => k = b ∨ k = M ∨ (Value.slice (some ⟨g, 0, none⟩) (s.items.length + 1) cap3).ownBlock = some k) (retS0 s t a) := by
        refine ⟨M, _, HV.out.kind, hokr.out, hb4, ?_, ?_, fun k => Iff.rfl⟩
        · obtain ⟨kv, hm, hc⟩ := HV.out.cmap
          exact ⟨kv, (hm.fr hgr (fun e => (HV.out.nev M e).2 rfl)).fr hfb HV.out.neM, hc⟩
        · have h1 := owns_fr H8.out.2.1 hfb (fun j hj e => by
            have : g = j := by simpa [Value.ownBlock] using hj
            exact hgb.1 (this.trans e))
          rw [henc.out] at h1
          simpa [retS0] using h1
      have HSt : Hid (Step F w (fun k => k = b ∨ k = M ∨ (Value.slice (some ⟨g, 0, none⟩) (s.items.length + 1) cap3).ownBlock = some k) (w3.setCell ⟨b, 27, none⟩ (.slice (some ⟨g, 0, none⟩) (s.items.length + 1) cap3))) :=
        ⟨(hgr.mono (fun i _ e => (HV.out.fp i).2 (.inr (.inr e)))).trans (hfb.mono (fun i _ e => (HV.out.fp i).2 (.inl e))), fun k hk => by
          rcases hk with e | e | e
          · exact .inl ((HV.out.fp k).2 (.inl e))
          · exact .inl ((HV.out.fp k).2 (.inr (.inl e)))
          · have hgk : g = k := by simpa [Value.ownBlock] using e
            subst hgk
            rcases hnew with e | e
            · exact .inr (by omega)
            · exact .inl ((HV.out.fp _).2 (.inr (.inr e)))⟩
      have HLo := Lib.hid (spSweep hq (by simp [retS0]; omega))
      clear hq hgr hfb hb4
      go_wp2_with (go_at_call 110; refine HLo.out.mono ?_; intro e w9 ho; obtain ⟨v9, rfl, hp9⟩ := ho.toP2 HSt.out; have H9 := Lib.hid hp9; clear hp9 ho)
      exact HR.out _ _ H9.out
  · have e : retS s t a = ⟨s, [], 6⟩ := by simp [retS, ht, ha0, hw]
    rw [e] at HR
    rw [waits_mem] at hw
    have hw' : decide (a ∈ addrs s) = true := hw
    have HWM := Lib.hid hw'
    clear hv e ht hw hw'
    go_enter Tryz.func66, Tryz.ntmps66
    go_wp2_with (first | (go_at_call 109; refine HT.out.mono ?_; rintro e w' ⟨rfl, rfl⟩) | (go_at_call 76; refine HWt.out.mono ?_; intro e w1 ho; obtain ⟨A1, n1, c1, rfl, hg, hcon⟩ := ho.has hs a; rw [HWM.out] at hcon; have HC := Lib.hid hcon; have HG1 := Lib.hid hg; clear ho hg hcon) | (go_at_call 106; refine HC.out.mono ?_; rintro e w' ⟨rfl, rfl⟩))
    exact HR.out _ _ (OpP.none ((SP.local b).fr HQ.out (G := fun _ => False) HG1.out (fun _ _ h => h)) ⟨HG1.out.mono fun _ _ h => h.elim, fun j hj => .inl hj⟩)
end Go.Proofs.YtcgcljmnnjalpaaGreat
