/- The span manager, in every state: Hold, Born, Retire, New. -/
import Derived.Test.YtcgcljmnnjalpaaGreatGeJ
set_option linter.unusedVariables false
set_option linter.unusedSimpArgs false
namespace Go.Proofs.YtcgcljmnnjalpaaGreat
open Go.RowKit Go.Kx
open Go.ChangeMaps (setBlock)
theorem spArr_hold {M : Nat} {v : Value} {s : RS} {t k : Nat} (ht : t < 4) (hk : k < 3) (a : Int) (hi : s.ins t = true) :
    ((spArr s M v).setIfInBounds (2 + 6 * t + 2) (.int .i64 s.now)).setIfInBounds (2 + 6 * t + 3 + k) (.int .i64 a) = spArr (holdS0 s t k a) M v := by
  obtain rfl | rfl | rfl | rfl : t = 0 ∨ t = 1 ∨ t = 2 ∨ t = 3 := by omega
  all_goals
    obtain rfl | rfl | rfl : k = 0 ∨ k = 1 ∨ k = 2 := by omega
    all_goals simp [spArr, holdS0, spL, spH, upd1, hi]
theorem sp_hold {b M : Nat} {v : Value} {w : World} {F : FP} {s : RS} (h : SPv b M v w F s) {t k : Nat} (ht : t < s.n) (hk : k < 3) {a : Int} (ha : 0 ≤ a) (hi : s.ins t = true) {w9 : World}
    (hw : w9 = ((w.setCell ⟨b, 2 + 6 * t + 2, none⟩ (.int .i64 s.now)).drew).setCell ⟨b, 2 + 6 * t + 3 + k, none⟩ (.int .i64 a)) : SPv b M v w9 F (holdS0 s t k a) ∧ Fr F w w9 := by
  subst hw
  have hfb : Fr (· = b) w (((w.setCell ⟨b, 2 + 6 * t + 2, none⟩ (.int .i64 s.now)).drew).setCell ⟨b, 2 + 6 * t + 3 + k, none⟩ (.int .i64 a)) := (((Fr.refl (· = b) _).setCell _ _ (.inr rfl)).drew).setCell _ _ (.inr rfl)
  have hb1 := blk_set h.blk (2 + 6 * t + 2) (.int .i64 s.now)
  have hb2 := blk_set (w := (w.setCell ⟨b, 2 + 6 * t + 2, none⟩ (.int .i64 s.now)).drew) hb1 (2 + 6 * t + 3 + k) (.int .i64 a)
  rw [spArr_hold (by have := h.ok.n4; omega) hk a hi] at hb2
  obtain ⟨kv, hm, hc⟩ := h.cmap
  exact ⟨⟨h.kind, h.ok.hold0 ht hk ha, hb2, ⟨kv, hm.fr hfb h.neM, hc⟩, owns_fr h.row hfb (fun j hj e => (h.nev j hj).1 e), h.fp⟩, hfb.mono fun i _ e => (h.fp i).2 (.inl e)⟩
set_option maxHeartbeats 4000000 in
theorem spHold {b : Nat} {w : World} {F : FP} {s : RS} (h : SP b w F s) (t k a : Int) : Calls Tryz.prog 64 #[.pointer (some ⟨b, 0, none⟩), .int .i64 t, .int .i64 k, .int .i64 a] w (OpP (SP b) w F (holdS s t k a)) := by
  refine cph fun R HR => ?_
  have HQ := Lib.hid h
  obtain ⟨M, v, hv⟩ := h
  have HH := Lib.hid (spHas hv t)
  have HV := Lib.hid hv
  cases ht : okTh s t
  · rw [ht] at HH
    have e : holdS s t k a = ⟨s, [], 1⟩ := by simp [holdS, ht]
    rw [e] at HR
    clear hv e
    go_enter Tryz.func64, Tryz.ntmps64
    go_wp2_with (go_at_call 109; refine HH.out.mono ?_; rintro e w' ⟨rfl, rfl⟩)
    exact HR.out _ _ (OpP.none HQ.out (Step.refl _ _))
  rw [ht] at HH
  rcases holdOk_cases k a with ⟨h1, e⟩ | ⟨h1, h2, e⟩ | ⟨h1, h2, h3, e⟩ | ⟨h1, h2, h3, e⟩
  iterate 3
    have e2 : holdS s t k a = ⟨s, [], 1⟩ := by simp [holdS, e]
    rw [e2] at HR
    clear hv e e2 ht
    go_enter Tryz.func64, Tryz.ntmps64
    go_wp2_with (go_at_call 109; refine HH.out.mono ?_; rintro e w' ⟨rfl, rfl⟩)
    exact HR.out _ _ (OpP.none HQ.out (Step.refl _ _))
  obtain ⟨t', rfl, ht'⟩ := okTh_nat ht
  obtain ⟨k', rfl⟩ := Int.eq_ofNat_of_zero_le h1
  have h4 : t' < 4 := by have := hv.ok.n4; omega
  have hc := blk_cell hv.blk
  have hf := blk_free hv.blk
  have e0 : w.cell? ⟨b, 0, none⟩ = some (.int .i64 s.now) := (hc 0).trans rfl
  have eI : w.cell? ⟨b, 2 + 6 * t', none⟩ = some (.bool (s.ins t')) := by
    rw [hc]
    obtain rfl | rfl | rfl | rfl : t' = 0 ∨ t' = 1 ∨ t' = 2 ∨ t' = 3 := by omega
    all_goals rfl
  have eH : ∃ x, w.cell? ⟨b, 2 + 6 * t' + 2, none⟩ = some x := by
    rw [hc]
    have : 2 + 6 * t' + 2 < (spArr s M v).size := by simp [spArr]; omega
    exact ⟨_, Array.getElem?_eq_getElem this⟩
  have fH := hf (2 + 6 * t' + 2)
  cases hin : s.ins t'
  · rw [hin] at eI
    have e2 : holdS s (t' : Int) (k' : Int) a = ⟨s, [], 0⟩ := by simp [holdS, ht, e, hv.kind, hin]
    rw [e2] at HR
    clear hv e e2 ht hc hf fH eH
    obtain rfl | rfl | rfl | rfl : t' = 0 ∨ t' = 1 ∨ t' = 2 ∨ t' = 3 := by omega
    all_goals
      simp only [Nat.reduceMul, Nat.reduceAdd] at eI
      go_enter Tryz.func64, Tryz.ntmps64
      go_wp2_with (go_at_call 109; refine HH.out.mono ?_; rintro e w' ⟨rfl, rfl⟩)
      exact HR.out _ _ (OpP.none HQ.out (Step.refl _ _))
  · rw [hin] at eI
    have e2 : holdS s (t' : Int) (k' : Int) a = ⟨holdS0 s t' k' a, [], 0⟩ := by simp [holdS, ht, e, hv.kind, hin]
    rw [e2] at HR
    obtain ⟨xH, eH⟩ := eH
    have hki : (k' : Int) < 3 := by omega
    have hb1 := blk_set hv.blk (2 + 6 * t' + 2) (.int .i64 s.now)
    have eK : ∃ x, ((w.setCell ⟨b, 2 + 6 * t' + 2, none⟩ (.int .i64 s.now)).drew).cell? ⟨b, 2 + 6 * t' + 3 + k', none⟩ = some x := by
      have := blk_cell (w := (w.setCell ⟨b, 2 + 6 * t' + 2, none⟩ (.int .i64 s.now)).drew) hb1 (2 + 6 * t' + 3 + k')
      rw [this]
      have : 2 + 6 * t' + 3 + k' < ((spArr s M v).setIfInBounds (2 + 6 * t' + 2) (.int .i64 s.now)).size := by simp [spArr]; omega
      exact ⟨_, Array.getElem?_eq_getElem this⟩
    have fK : ((w.setCell ⟨b, 2 + 6 * t' + 2, none⟩ (.int .i64 s.now)).drew).frozen? ⟨b, 2 + 6 * t' + 3 + k', none⟩ = false := blk_free (w := (w.setCell ⟨b, 2 + 6 * t' + 2, none⟩ (.int .i64 s.now)).drew) hb1 _
    obtain ⟨xK, eK⟩ := eK
    have HF : Hid (OpP (SP b) w F ⟨holdS0 s t' k' a, [], 0⟩ (.returned (.tuple #[.slice none 0 0, .int .i64 0])) (((w.setCell ⟨b, 2 + 6 * t' + 2, none⟩ (.int .i64 s.now)).drew).setCell ⟨b, 2 + 6 * t' + 3 + k', none⟩ (.int .i64 a))) := by
      obtain ⟨h5, h6⟩ := sp_hold hv ht' (by omega : k' < 3) h3 hin rfl
      exact OpP.none ⟨M, v, h5⟩ ⟨h6, fun j hj => .inl hj⟩
    clear hv e e2 ht hc hf hb1
    obtain rfl | rfl | rfl | rfl : t' = 0 ∨ t' = 1 ∨ t' = 2 ∨ t' = 3 := by omega
    all_goals
      simp only [Nat.reduceMul, Nat.reduceAdd] at eI eH fH eK fK HF
      go_enter Tryz.func64, Tryz.ntmps64
      go_wp2_with (go_at_call 109; refine HH.out.mono ?_; rintro e w' ⟨rfl, rfl⟩)
      go_region_law fail
    all_goals
      go_wp2_with fail
      exact HR.out _ _ HF.out
set_option maxRecDepth 100000 in
set_option maxHeartbeats 4000000 in
theorem spBorn {b : Nat} {w : World} {F : FP} {s : RS} (h : SP b w F s) (hs : s.now ≤ 1000000) (a : Int) : Calls Tryz.prog 65 #[.pointer (some ⟨b, 0, none⟩), .int .i64 a] w (OpE (SP b) w F (bornS s a)) := by
  refine cph fun R HR => ?_
  have HQ := Lib.hid h
  obtain ⟨M, v, hv⟩ := h
  have HH := Lib.hid (spHas hv 0)
  rw [okTh_zero hv.ok] at HH
  by_cases ha : 0 < a
  · have e : bornS s a = ⟨{ s with now := s.now + 1, born := fun b => if b = a then s.now + 1 else s.born b }, [], 0⟩ := by simp [bornS, ha, hv.kind]
    rw [e] at HR
    have ha2 : ¬ a ≤ 0 := by omega
    have h0 := hv.ok.now0
    have hc := blk_cell hv.blk
    have e0 : w.cell? ⟨b, 0, none⟩ = some (.int .i64 s.now) := (hc 0).trans rfl
    have f0 := blk_free hv.blk 0
    have hfb : Fr (· = b) w (w.setCell ⟨b, 0, none⟩ (.int .i64 (s.now + 1))) := (Fr.refl (· = b) _).setCell _ _ (.inr rfl)
    have hb1 : (w.setCell ⟨b, 0, none⟩ (.int .i64 (s.now + 1))).heap[b]? = some (.cells (spArr { s with now := s.now + 1 } M v) 130 (0, 0)) := blk_set hv.blk 0 _
    obtain ⟨kv, hm, hcm⟩ := hv.cmap
    have hm1 := hm.fr hfb hv.neM
    have HV := Lib.hid hv
    have e1 : ((w.setCell ⟨b, 0, none⟩ (.int .i64 (s.now + 1))).drewN 1).cell? ⟨b, 0, none⟩ = some (.int .i64 (s.now + 1)) := (blk_cell hb1 0).trans rfl
    have e26 : ((w.setCell ⟨b, 0, none⟩ (.int .i64 (s.now + 1))).drewN 1).cell? ⟨b, 26, none⟩ = some (.map (some M)) := (blk_cell hb1 26).trans rfl
    have H1 : Hid (IMap ((w.setCell ⟨b, 0, none⟩ (.int .i64 (s.now + 1))).drewN 1) M kv ∧ Fr (· = b) w ((w.setCell ⟨b, 0, none⟩ (.int .i64 (s.now + 1))).drewN 1) ∧ ((w.setCell ⟨b, 0, none⟩ (.int .i64 (s.now + 1))).drewN 1).heap[b]? = some (.cells (spArr { s with now := s.now + 1 } M v) 130 (0, 0))) := ⟨hm1.fr (S := fun _ => False) ((Fr.refl _ _).drewN 1) (fun h => h), hfb.drewN 1, hb1⟩
    have HC := Lib.hid hcm
    clear hv e hc hb1 hfb hm hm1 hcm
    go_enter Tryz.func65, Tryz.ntmps65
    go_upto_region 4 with (go_at_call 109; refine HH.out.mono ?_; rintro e w' ⟨rfl, rfl⟩)
    refine wp_region_still_tail 9 (by kernel_rfl) (by kernel_rfl) ?_
    change wpStill _ _ ((w.setCell ⟨b, 0, none⟩ (.int .i64 (s.now + 1))).drewN 1) (fun a' => wpList _ _ _ _ a' ((w.setCell ⟨b, 0, none⟩ (.int .i64 (s.now + 1))).drewN 1)) _ _
    generalize (w.setCell ⟨b, 0, none⟩ (.int .i64 (s.now + 1))).drewN 1 = w4 at H1 e1 e26 ⊢
    simp only [List.take_succ_cons, List.take_zero, List.drop_succ_cons, List.drop_zero]
    repeat still_step
    refine wpStill_nil ?_
    refine wpList_mput rfl _ _ _ rfl H1.out.1 Tryz.underlying124 Tryz.underlying3 a (.int .i64 (s.now + 1)) rfl rfl rfl ?_
    intro ob him
    have hfm : Fr (· = M) w4 (setBlock w4 M ob) := (Fr.refl _ _).block _ _ (.inr rfl)
    have HF : Hid (OpE (SP b) w F ⟨{ s with now := s.now + 1, born := fun b => if b = a then s.now + 1 else s.born b }, [], 0⟩ (.returned (.int .i64 0)) (setBlock w4 M ob)) := by
      refine ⟨F, rfl, ⟨M, v, HV.out.kind, HV.out.ok.sub rfl rfl rfl (fun x hx => hx) (show s.now ≤ s.now + 1 by omega), hfm.at_ H1.out.2.2 (fun e => HV.out.neM e.symm), ⟨_, him, HC.out.put a (s.now + 1) (fun y hy => rfl)⟩, ?_, HV.out.fp⟩, ?_, fun k hk => .inl hk⟩
      · exact owns_fr (owns_fr HV.out.row H1.out.2.1 (fun j hj e => (HV.out.nev j hj).1 e)) hfm (fun j hj e => (HV.out.nev j hj).2 e)
      · exact (H1.out.2.1.mono fun i _ e => (HV.out.fp i).2 (.inl e)).trans (hfm.mono fun i _ e => (HV.out.fp i).2 (.inr (.inl e)))
    clear him hfm
    go_wp2_with fail
    exact HR.out _ _ HF.out
  · have e : bornS s a = ⟨s, [], 1⟩ := by simp [bornS, ha]
    rw [e] at HR
    have ha2 : a ≤ 0 := by omega
    clear hv e
    go_enter Tryz.func65, Tryz.ntmps65
    go_wp2_with (go_at_call 109; refine HH.out.mono ?_; rintro e w' ⟨rfl, rfl⟩)
    exact HR.out _ _ ⟨F, rfl, HQ.out, Step.refl _ _⟩
set_option maxHeartbeats 1000000 in
theorem spNew (w : World) (t : Int) : Calls Tryz.prog 50 #[.int .i64 t] w (NewP SP 3 w t) := by
  refine cph fun R HR => ?_
  by_cases h1 : t < 1
  · go_enter Tryz.func50, Tryz.ntmps50
    go_wp2_with fail
    exact HR.out _ _ (NewP.no (by omega) (Grow.refl _))
  by_cases h4 : 4 < t
  · go_enter Tryz.func50, Tryz.ntmps50
    go_wp2_with fail
    exact HR.out _ _ (NewP.no (by omega) (Grow.refl _))
  obtain ⟨n, rfl⟩ := Int.eq_ofNat_of_zero_le (a := t) (by omega)
  have hmm := @run_makeMap Tryz.prog
  obtain ⟨w1, hw1⟩ : ∃ w1, w.alloc (.map #[] 0) = w1 := ⟨_, rfl⟩
  have hs1 : w1.heap.size = w.heap.size + 1 := by rw [← hw1]; exact size_alloc _ _
  have hmm2 := hmm 124 w
  rw [hw1] at hmm2
  have HQ : Hid (SP w1.heap.size (w1.alloc (.cells (spArr (newS 3 n) w.heap.size (.slice none 0 0)) 130)) (fun k => k = w1.heap.size ∨ k = w.heap.size ∨ (Value.slice none 0 0).ownBlock = some k) (newS 3 n)) := by
    refine ⟨w.heap.size, .slice none 0 0, rfl, ok_new 3 (by omega) (by omega), blk_new w1 _, ⟨[], ?_, ?_⟩, World.ownsRow_nil _ _ _ _, fun k => Iff.rfl⟩
    · rw [← hw1]; exact (IMap.new w).alloc _
    · intro x hx; rfl
  unfold spArr at HQ
  have HG : Hid (Grow w w1) := by rw [← hw1]; exact (Grow.refl _).alloc _
  rw [show (newS 3 n).now = 0 from rfl, show (newS 3 n).n = n from rfl] at HQ
  simp only [show ∀ i, (newS 3 n).ins i = false from fun _ => rfl, show ∀ i, spL (newS 3 n) i = 0 from fun _ => rfl, show ∀ i, spH (newS 3 n) i = 0 from fun _ => rfl, show ∀ i j, (newS 3 n).holds i j = 0 from fun _ _ => rfl] at HQ
  have HS := Lib.hid hs1
  rw [hs1] at HQ
  go_enter Tryz.func50, Tryz.ntmps50
  go_wp2_with fail
  exact HR.out _ _ (NewP.yes ⟨by omega, by omega⟩ HQ.out (HG.out.alloc _) (fun j hj => by
    rcases hj with e | e | e
    · omega
    · omega
    · simp [Value.ownBlock] at e))
end Go.Proofs.YtcgcljmnnjalpaaGreat
