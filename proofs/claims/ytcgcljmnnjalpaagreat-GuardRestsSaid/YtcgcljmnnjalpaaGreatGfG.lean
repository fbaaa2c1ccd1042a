/- The epoch manager, in every state: Retire, Rest. -/
import Derived.Test.YtcgcljmnnjalpaaGreatGfF
set_option linter.unusedVariables false
set_option linter.unusedSimpArgs false
namespace Go.Proofs.YtcgcljmnnjalpaaGreat
open Go.RowKit Go.Kx
open Go.ChangeMaps (setBlock)
theorem filt_len {α : Type} (p : α → Bool) : ∀ l : List α, (l.filter p).length + (l.filter fun x => !p x).length = l.length
  | [] => rfl
  | x :: l => by
    have := filt_len p l
    cases h : p x <;> simp [h] <;> omega
theorem sweep_len (s : RS) (p : Itm → Bool) : (sweepS s p).back.length + (sweepS s p).st.items.length = s.items.length := by
  unfold sweepS
  dsimp only
  rw [List.length_map]
  exact filt_len _ _
theorem tryS_len (s : RS) : (tryS s).back.length + (tryS s).st.items.length = s.items.length := by
  unfold tryS
  split
  · simp
  · exact sweep_len _ _
theorem tryS_now (s : RS) : (tryS s).st.now ≤ s.now + 1 ∧ (tryS s).err = 0 := by
  unfold tryS
  split
  · exact ⟨by dsimp only; omega, rfl⟩
  · exact ⟨Int.le_refl _, rfl⟩
theorem infoE : ((Tryz.prog.info? 144).map fun i => (i.zero, i.size, i.bytes)) = some (some (.agg #[.int .i64 0, .int .i64 0]), 2, 16) := by kernel_rfl
set_option maxRecDepth 100000 in
set_option maxHeartbeats 4000000 in
theorem epRetire {b : Nat} {w : World} {F : FP} {s : RS} (h : EM b w F s) (hs : s.items.length ≤ 100000) (hn : s.now ≤ 1000000) (t a : Int) : Calls Tryz.prog 60 #[.pointer (some ⟨b, 0, none⟩), .int .i64 t, .int .i64 a] w (OpP (EM b) w F (retS s t a)) := by
  refine cph fun R HR => ?_
  have HQ := Lib.hid h
  have HWt := Lib.hid (epWaiting h hs)
  obtain ⟨T, v, hv⟩ := h
  have HT := Lib.hid (epHas hv t)
  have HV := Lib.hid hv
  cases ht : okTh s t
  · rw [ht] at HT
    have e : retS s t a = ⟨s, [], 1⟩ := by simp [retS, ht]
    rw [e] at HR
    clear hv e
    go_enter Tryz.func60, Tryz.ntmps60
    go_wp2_with (go_at_call 105; refine HT.out.mono ?_; rintro e w' ⟨rfl, rfl⟩)
    exact HR.out _ _ (OpP.none HQ.out (Step.refl _ _))
  rw [ht] at HT
  by_cases ha : a ≤ 0
  · have e : retS s t a = ⟨s, [], 1⟩ := by simp [retS]; omega
    rw [e] at HR
    clear hv e ht
    go_enter Tryz.func60, Tryz.ntmps60
    go_wp2_with (go_at_call 105; refine HT.out.mono ?_; rintro e w' ⟨rfl, rfl⟩)
    exact HR.out _ _ (OpP.none HQ.out (Step.refl _ _))
  have ha0 : 0 < a := by omega
  have hbl := blk_lt hv.blk
  cases hw : waitsB s a
  · have e : retS s t a = ⟨(tryS (retS0 s t a)).st, (tryS (retS0 s t a)).back, 0⟩ := by
      have h0 := (tryS_now (retS0 s t a)).2
      simp [retS, ht, ha0, hw, hv.kind]
      generalize tryS (retS0 s t a) = r at h0 ⊢
      cases r
      simp at h0 ⊢
      exact h0
    rw [e] at HR
    rw [waits_mem] at hw
    have hw' : decide (a ∈ addrs s) = false := hw
    have HWM := Lib.hid hw'
    have hokr := Lib.hid (hv.ok.ret0 t a ha0)
    obtain ⟨i1, hi, hz0, hz1, hz2⟩ := info_parts infoE
    have HJ := Lib.hid (And.intro hi (And.intro hz0 (And.intro hz1 hz2)))
    obtain ⟨A, m, cap, hvs⟩ := own_sl hv.row
    subst hvs
    clear hi hz0 hz1 hz2 hv e ht hw hw'
    go_enter Tryz.func60, Tryz.ntmps60
    go_upto_region 5 with (first | (go_at_call 105; refine HT.out.mono ?_; rintro e w' ⟨rfl, rfl⟩) | (go_at_call 75; refine HWt.out.mono ?_; intro e w1 ho; obtain ⟨A1, n1, c1, rfl, hg, hcon⟩ := ho.has hs a; rw [HWM.out] at hcon; have HC := Lib.hid hcon; have HG1 := Lib.hid hg; clear ho hg hcon) | (go_at_call 106; refine HC.out.mono ?_; rintro e w' ⟨rfl, rfl⟩))
    have hb1 := HG1.out.at_ HV.out.blk
    have hrow := owns_grow HV.out.row HG1.out
    have e0 := (blk_cell hb1 0).trans (rfl : _ = some (Value.int .i64 s.now))
    have e2 := (blk_cell hb1 2).trans (rfl : _ = some (Value.slice A m cap))
    have f2 := blk_free hb1 2
    have hbl1 := blk_lt hb1
    have hgs := HG1.out.size
    have H2 := Lib.hid (And.intro hb1 hrow)
    clear hb1 hrow
    go_region_law ((refine step_append_own rfl (.tmp 24) (.tmp 31) 121 rfl 0 144 i1 (.agg #[.int .i64 0, .int .i64 0]) 2 16 Tryz.underlying121 HJ.out.1 HJ.out.2.1 HJ.out.2.2.1 HJ.out.2.2.2 rfl (by decide) _ s.items.length ((epl s).flatMap enc2) rfl (H2.out.2.alloc _) ⟨w1.heap.size, 0, none⟩ 1 1 [.int .i64 a, .int .i64 s.now] rfl rfl (cells_new w1.drew [.int .i64 a, .int .i64 s.now] 144) (by simp [Value.oneCell']) (by unfold maxLen; omega) (by omega) (by simp) ?_); intro v2 w3 hown hgrow _ hat; obtain ⟨g, cap3, rfl⟩ := own_some hown; have hb3 : w3.heap[b]? = some (.cells #[.int .i64 s.now, .slice (some ⟨T, 0, none⟩) s.n s.n, .slice A m cap] 123 (0, 0)) := (fr_grown hgrow).at_ (blk_alloc' _ H2.out.1) (fun e => (HV.out.nev b e).1 rfl); have e2' := (blk_cell hb3 2).trans (rfl : _ = some (Value.slice A m cap)); have f2' := blk_free hb3 2; have H8 := Lib.hid (And.intro hb3 (And.intro hown (And.intro hgrow hat))); clear hb3 hown hgrow hat)
    all_goals
      have hnew : g = w1.heap.size + 1 ∨ (Value.slice A m cap).ownBlock = some g := by
        rcases H8.out.2.2.2 with e | e
        · exact .inr (e.symm.trans rfl)
        · left; simpa [Value.ownBlock] using e
      have hTl : T < w.heap.size := HV.out.lt T ((HV.out.fp T).2 (.inr (.inl rfl)))
      have hgb : g ≠ b ∧ g ≠ T := by
        rcases hnew with e | e
        · exact ⟨by omega, by omega⟩
        · exact HV.out.nev _ e
      have hb4 := blk_set H8.out.1 2 (.slice (some ⟨g, 0, none⟩) (s.items.length + 1) cap3)
      have hgr : Fr (fun k => (Value.slice A m cap).ownBlock = some k) w w3 := (((HG1.out.mono (fun _ _ h => h.elim)).drew).alloc _).grown H8.out.2.2.1 (fun k e => .inr e)
      have hfb : Fr (· = b) w3 (w3.setCell ⟨b, 2, none⟩ (.slice (some ⟨g, 0, none⟩) (s.items.length + 1) cap3)) := (Fr.refl (· = b) _).setCell _ _ (.inr rfl)
      have hq : EM b (w3.setCell ⟨b, 2, none⟩ (.slice (some ⟨g, 0, none⟩) (s.items.length + 1) cap3)) (fun k => k = b ∨ k = T ∨ (Value.slice (some ⟨g, 0, none⟩) (s.items.length + 1) cap3).ownBlock = some k) (retS0 s t a) := by
        refine ⟨T, _, HV.out.kind, hokr.out, HV.out.lo0, hb4, ?_, ?_, fun k => Iff.rfl⟩
        · exact owns_fr (owns_fr HV.out.trow hgr (fun k hk e => by rw [HV.out.tT hk] at e; exact (HV.out.nev T e).2 rfl)) hfb (fun k hk e => by rw [HV.out.tT hk] at e; exact HV.out.neT e)
        · have h1 := owns_fr H8.out.2.1 hfb (fun j hj e => by
            have : g = j := by simpa [Value.ownBlock] using hj
            exact hgb.1 (this.trans e))
          simpa [retS0, epl, mkItm, enc2] using h1
      have HSt : Hid (Step F w (fun k => k = b ∨ k = T ∨ (Value.slice (some ⟨g, 0, none⟩) (s.items.length + 1) cap3).ownBlock = some k) (w3.setCell ⟨b, 2, none⟩ (.slice (some ⟨g, 0, none⟩) (s.items.length + 1) cap3))) :=
        ⟨(hgr.mono (fun i _ e => (HV.out.fp i).2 (.inr (.inr e)))).trans (hfb.mono (fun i _ e => (HV.out.fp i).2 (.inl e))), fun k hk => by
          rcases hk with e | e | e
          · exact .inl ((HV.out.fp k).2 (.inl e))
          · exact .inl ((HV.out.fp k).2 (.inr (.inl e)))
          · have hgk : g = k := by simpa [Value.ownBlock] using e
            subst hgk
            rcases hnew with e | e
            · exact .inr (by omega)
            · exact .inl ((HV.out.fp _).2 (.inr (.inr e)))⟩
      have HLo := Lib.hid (epTry hq (by simp [retS0]; omega) (by simp [retS0]; omega))
      clear hq hgr hfb hb4
      go_wp2_with (go_at_call 107; refine HLo.out.mono ?_; intro e w9 ho; obtain ⟨v9, rfl, hp9⟩ := ho.toP2 HSt.out; have H9 := Lib.hid hp9; clear hp9 ho)
      exact HR.out _ _ H9.out
  · have e : retS s t a = ⟨s, [], 6⟩ := by simp [retS, ht, ha0, hw]
    rw [e] at HR
    rw [waits_mem] at hw
    have hw' : decide (a ∈ addrs s) = true := hw
    have HWM := Lib.hid hw'
    clear hv e ht hw hw'
    go_enter Tryz.func60, Tryz.ntmps60
    go_wp2_with (first | (go_at_call 105; refine HT.out.mono ?_; rintro e w' ⟨rfl, rfl⟩) | (go_at_call 75; refine HWt.out.mono ?_; intro e w1 ho; obtain ⟨A1, n1, c1, rfl, hg, hcon⟩ := ho.has hs a; rw [HWM.out] at hcon; have HC := Lib.hid hcon; have HG1 := Lib.hid hg; clear ho hg hcon) | (go_at_call 106; refine HC.out.mono ?_; rintro e w' ⟨rfl, rfl⟩))
    exact HR.out _ _ (OpP.none ((EM.local b).fr HQ.out (G := fun _ => False) HG1.out (fun _ _ h => h)) ⟨HG1.out.mono fun _ _ h => h.elim, fun j hj => .inl hj⟩)
end Go.Proofs.YtcgcljmnnjalpaaGreat
