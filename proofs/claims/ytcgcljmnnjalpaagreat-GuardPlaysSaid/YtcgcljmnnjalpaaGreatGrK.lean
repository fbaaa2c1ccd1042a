/- The reference's manager: Retire. -/
import Derived.Test.YtcgcljmnnjalpaaGreatGrJ
set_option linter.unusedVariables false
set_option linter.unusedSimpArgs false
namespace Go.Proofs.YtcgcljmnnjalpaaGreat
open Go.RowKit Go.Kx
open Go.ChangeMaps (setBlock)
def mkR (s : RS) (t a : Int) (f : Nat → Bool) : Itm := ⟨a, t, s.now, s.born a, f⟩
theorem RM.cellN {b : Nat} {w : World} {F : FP} {s : RS} (h : RM b w F s) : w.cell? ⟨b, 2, none⟩ = some (.int .i64 s.n) := by
  obtain ⟨vi, vb, kb, hv, _⟩ := h
  exact (blk_cell hv.blk 2).trans rfl
theorem RM.cellK {b : Nat} {w : World} {F : FP} {s : RS} (h : RM b w F s) : w.cell? ⟨b, 1, none⟩ = some (.int .i64 s.kind) := by
  obtain ⟨vi, vb, kb, hv, _⟩ := h
  exact (blk_cell hv.blk 1).trans rfl
theorem RM.cellI {b : Nat} {w : World} {F : FP} {s : RS} (h : RM b w F s) : w.cell? ⟨b, 0, none⟩ = some (.bool true) := by
  obtain ⟨vi, vb, kb, hv, _⟩ := h
  exact (blk_cell hv.blk 0).trans rfl
theorem RM.ok {b : Nat} {w : World} {F : FP} {s : RS} (h : RM b w F s) : Ok s := by
  obtain ⟨vi, vb, kb, hv, _⟩ := h
  exact hv.ok
theorem RM.kind {b : Nat} {w : World} {F : FP} {s : RS} (h : RM b w F s) : 0 ≤ s.kind ∧ s.kind ≤ 5 := by
  obtain ⟨vi, vb, kb, hv, _⟩ := h
  exact hv.kind
theorem cnt_take {p : Itm → Bool} {l : List Itm} {k : Nat} {x : Itm} (h : l[k]? = some x) : (l.take (k + 1)).countP p = (l.take k).countP p + if p x then 1 else 0 := by
  rw [List.take_add_one, h, List.countP_append]
  simp [List.countP_singleton]
set_option maxRecDepth 100000 in
set_option maxHeartbeats 4000000 in
theorem rRetire {b : Nat} {w : World} {F : FP} {s : RS} (h : RM b w F s) (hs : s.items.length ≤ 100000) (hs2 : s.now ≤ 1000000) (t a : Int) : Calls Tryz.prog 98 #[.pointer (some ⟨b, 0, none⟩), .int .i64 t, .int .i64 a] w (OpP (RM b) w F (retS s t a)) := by
  refine cph fun R HR => ?_
  have hno := (rThreadNo h).2
  have hwt := rWaits h (by omega) a
  have hbi : ∀ W, Grow w W → Calls Tryz.prog 126 #[.pointer (some ⟨b, 0, none⟩), .int .i64 a] W fun e w' => e = .returned (.int .i64 (s.born a)) ∧ W = w' := fun W hg => rBirth ((RM.local b).fr (G := fun _ => False) h hg (fun _ _ h => h)) (by omega) a
  have HBI := Lib.hid hbi
  have HN6 : Hid (OpP (RM b) w F ⟨s, [], 6⟩ (.returned (.tuple #[.slice none 0 0, .int .i64 6])) w) := OpP.none h (Step.refl _ _)
  obtain ⟨vi, vb, kb, hv, hkl⟩ := h
  have hth := rThread hv t
  have HN := Lib.hid hno
  cases ht : okTh s t
  · rw [ht] at hth
    have HT := Lib.hid hth
    have e : retS s t a = ⟨s, [], 1⟩ := by simp [retS, ht]
    rw [e] at HR
    clear hv hkl hth hno ht e hwt hbi
    go_enter Tryz.func98, Tryz.ntmps98
    go_wp2_with (go_at_call 122; refine HT.out.mono ?_; rintro e w' ⟨rfl, rfl⟩)
    exact HR.out _ _ HN.out
  rw [ht] at hth
  have HT := Lib.hid hth
  by_cases ha : a ≤ 0
  · have e : retS s t a = ⟨s, [], 1⟩ := by simp [retS]; omega
    rw [e] at HR
    clear hv hkl hth hno ht e hwt hbi
    go_enter Tryz.func98, Tryz.ntmps98
    go_wp2_with (go_at_call 122; refine HT.out.mono ?_; rintro e w' ⟨rfl, rfl⟩)
    exact HR.out _ _ HN.out
  have ha0 : 0 < a := by omega
  cases hw : waitsB s a
  · rw [hw] at hwt
    have HW := Lib.hid hwt
    have k1 := (blk_cell hv.blk 1).trans (rfl : _ = some (Value.int .i64 s.kind))
    have k3 := (blk_cell hv.blk 3).trans (rfl : _ = some (Value.int .i64 s.now))
    have k3a := ((Grow.refl w).alloc (Obj.cells #[.int .i64 0, .int .i64 0, .int .i64 0, .int .i64 0, .bool false, .bool false, .bool false, .bool false] 153)).cell k3
    have HV := Lib.hid (And.intro hv hkl)
    clear hv hkl hth hno hwt hbi
    go_enter Tryz.func98, Tryz.ntmps98
    go_upto_region 5 with (first | (go_at_call 122; refine HT.out.mono ?_; rintro e w' ⟨rfl, rfl⟩) | (go_at_call 125; refine HW.out.mono ?_; rintro e w' ⟨rfl, rfl⟩))
    obtain ⟨x0, hx0⟩ : ∃ x0 : Itm, x0 = ⟨a, t, s.now, s.born a, fun _ => false⟩ := ⟨_, rfl⟩
    have HX0 := Lib.hid hx0
    clear hx0
    go_cut [8] (fun v wx => v = .pointer (some ⟨w.heap.size, 0, none⟩) ∧ Hid (wx.heap[w.heap.size]? = some (.cells (encR x0).toArray 153 (0, 0)) ∧ Grow w wx))
    case first =>
      go_region_law (go_simp; go_at_call 126; refine (HBI.out _ (by first | exact Grow.refl _ | exact (Grow.refl _).drew | exact ((Grow.refl _).alloc _).drew | exact ((Grow.refl _).drew).alloc _)).mono ?_; rintro e w' ⟨rfl, rfl⟩; dsimp only)
      all_goals
        go_wp2_with fail
        go_meet
        rw [HX0.out]
        exact ⟨rfl, ((Grow.refl _).drew).at_ (blk_new w _), ((Grow.refl _).alloc _).drew⟩
    case rest =>
      obtain ⟨rfl, HC⟩ := hcut
      have hvc := HV.out.1.local_fr (G := fun _ => False) HC.out.2 (fun _ _ h => h)
      have m1 := (blk_cell hvc.blk 1).trans (rfl : _ = some (Value.int .i64 s.kind))
      have i0 := (blk_cell hvc.blk 16).trans (rfl : _ = some (Value.bool (s.ins 0)))
      have i1 := (blk_cell hvc.blk 17).trans (rfl : _ = some (Value.bool (s.ins 1)))
      have i2 := (blk_cell hvc.blk 18).trans (rfl : _ = some (Value.bool (s.ins 2)))
      have i3 := (blk_cell hvc.blk 19).trans (rfl : _ = some (Value.bool (s.ins 3)))
      have hc := HC.out.1
      have HVC := Lib.hid hvc
      have hkk := hvc.kind
      clear hvc k1 k3 k3a
      go_upto_if 36 with fail
      go_cut [] (fun wx => Hid (wx.heap[w.heap.size]? = some (.cells (encR (mkItm s t a)).toArray 153 (0, 0)) ∧ Grow w wx))
      case first =>
        by_cases hk5 : s.kind = 5
        · have hk5' : (s.kind == 5) = true := by simp [hk5]
          have c4 := (blk_cell hc 4).trans (rfl : _ = some (Value.bool (x0.for_ 0)))
          have f4 := blk_free hc 4
          have h4 := blk_set hc 4 (.bool (s.ins 0))
          have c5 := (blk_cell h4 5).trans (rfl : _ = some (Value.bool (x0.for_ 1)))
          have f5 := blk_free h4 5
          have h5 := blk_set h4 5 (.bool (s.ins 1))
          have c6 := (blk_cell h5 6).trans (rfl : _ = some (Value.bool (x0.for_ 2)))
          have f6 := blk_free h5 6
          have h6 := blk_set h5 6 (.bool (s.ins 2))
          have c7 := (blk_cell h6 7).trans (rfl : _ = some (Value.bool (x0.for_ 3)))
          have f7 := blk_free h6 7
          have h7 := blk_set h6 7 (.bool (s.ins 3))
          have HK := Lib.hid hk5
          have H7 := Lib.hid h7
          clear h4 h5 h6 h7 hk5 hkk hc
          go_wp2_with fail
          go_meet
          refine ⟨?_, (((HC.out.2.setCell _ _ (Nat.le_refl _)).setCell _ _ (Nat.le_refl _)).setCell _ _ (Nat.le_refl _)).setCell _ _ (Nat.le_refl _)⟩
          have hI : mkItm s t a = ⟨a, t, s.now, s.born a, s.ins⟩ := by unfold mkItm; rw [if_pos HK.out]
          have h7 := H7.out
          rw [HX0.out] at h7
          rw [hI]
          exact h7
        · have hk5' : (s.kind == 5) = false := by simp [hk5]
          have HK := Lib.hid hk5
          clear hk5 hkk hc
          go_wp2_with fail
          go_meet
          rw [show mkItm s t a = x0 by rw [HX0.out]; unfold mkItm; rw [if_neg HK.out]]
          exact HC.out
      case rest =>
        have hvd := HV.out.1.local_fr (G := fun _ => False) hcut.out.2 (fun _ _ h => h)
        obtain ⟨A, cap, hvi, hAn⟩ := hvd.shape
        subst hvi
        have d28 := (blk_cell hvd.blk 28).trans (rfl : _ = some (Value.slice A s.items.length cap))
        have g28 := blk_free hvd.blk 28
        have hIb := hcut.out.1
        have j0 := (blk_cell hIb 0).trans (rfl : _ = some (Value.int .i64 a))
        have j1 := (blk_cell hIb 1).trans (rfl : _ = some (Value.int .i64 t))
        have j2 := (blk_cell hIb 2).trans (rfl : _ = some (Value.int .i64 s.now))
        have j3 := (blk_cell hIb 3).trans (rfl : _ = some (Value.int .i64 (s.born a)))
        have j4 := (blk_cell hIb 4).trans (rfl : _ = some (Value.bool ((mkItm s t a).for_ 0)))
        have j5 := (blk_cell hIb 5).trans (rfl : _ = some (Value.bool ((mkItm s t a).for_ 1)))
        have j6 := (blk_cell hIb 6).trans (rfl : _ = some (Value.bool ((mkItm s t a).for_ 2)))
        have j7 := (blk_cell hIb 7).trans (rfl : _ = some (Value.bool ((mkItm s t a).for_ 3)))
        have hbl := blk_lt hvd.blk
        have hbw := blk_lt HV.out.1.blk
        have hgs := hcut.out.2.size
        obtain ⟨y, hy⟩ : ∃ y, mkItm s t a = y := ⟨_, rfl⟩
        rw [hy] at j4 j5 j6 j7
        have HY := Lib.hid hy
        have H2 := Lib.hid (And.intro hvd hcut.out.2)
        have hokr := Lib.hid (H2.out.1.ok.ret0 t a ha0)
        obtain ⟨iR, hi, hz0, hz1, hz2⟩ := info_parts infoR
        have HJ := Lib.hid (And.intro hi (And.intro hz0 (And.intro hz1 hz2)))
        clear hvd hIb hi hz0 hz1 hz2 hy m1 i0 i1 i2 i3 hc hkk hcut
        go_upto_region 8 with fail
        go_cut [] (fun wx => Hid (∃ F', RM b wx F' (retS0 s t a) ∧ Step F w F' wx))
        case first =>
          go_region_law ((refine step_append_own rfl (.tmp 46) (.tmp 48) 80 rfl 0 153 iR (.agg #[.int .i64 0, .int .i64 0, .int .i64 0, .int .i64 0, .bool false, .bool false, .bool false, .bool false]) 8 40 Tryz.underlying80 HJ.out.1 HJ.out.2.1 HJ.out.2.2.1 HJ.out.2.2.2 rfl (by decide) _ s.items.length (s.items.flatMap encR) rfl (H2.out.1.row.alloc _) ⟨wc.heap.size, 0, none⟩ 1 1 [.int .i64 a, .int .i64 t, .int .i64 s.now, .int .i64 (s.born a), .bool (y.for_ 0), .bool (y.for_ 1), .bool (y.for_ 2), .bool (y.for_ 3)] rfl rfl (cells_new wc.drew [.int .i64 a, .int .i64 t, .int .i64 s.now, .int .i64 (s.born a), .bool (y.for_ 0), .bool (y.for_ 1), .bool (y.for_ 2), .bool (y.for_ 3)] 153) (by simp [Value.oneCell']) (by unfold maxLen; omega) (by omega) (by simp) ?_); intro v2 w3 hown hgrow _ hat; obtain ⟨g, cap3, rfl⟩ := own_some hown; have hb3 : w3.heap[b]? = some (.cells (refArr s (.slice A s.items.length cap) vb) 87 (0, 0)) := (fr_grown hgrow).at_ (blk_alloc' _ H2.out.1.blk) (fun e => (H2.out.1.nei b e).1 rfl); have e2' := (blk_cell hb3 28).trans (rfl : _ = some (Value.slice A s.items.length cap)); have f2' := blk_free hb3 28; have H8 := Lib.hid (And.intro hb3 (And.intro hown (And.intro hgrow hat))); clear hb3 hown hgrow hat)
          all_goals
            have hnew : g = wc.heap.size + 1 ∨ (Value.slice A s.items.length cap).ownBlock = some g := by
              rcases H8.out.2.2.2 with e | e
              · exact .inr (e.symm.trans rfl)
              · left; simpa [Value.ownBlock] using e
            have hgb : g ≠ b := by
              rcases hnew with e | e
              · omega
              · exact (H2.out.1.nei _ e).1
            have hb4 := blk_set H8.out.1 28 (.slice (some ⟨g, 0, none⟩) (s.items.length + 1) cap3)
            have hgr : Fr (fun k => (Value.slice A s.items.length cap).ownBlock = some k) wc w3 := (((Fr.refl _ wc).alloc _).drew).grown H8.out.2.2.1 (fun k e => .inr e)
            have hfb : Fr (· = b) w3 (w3.setCell ⟨b, 28, none⟩ (.slice (some ⟨g, 0, none⟩) (s.items.length + 1) cap3)) := (Fr.refl (· = b) _).setCell _ _ (.inr rfl)
            have henc : encR y = [.int .i64 a, .int .i64 t, .int .i64 s.now, .int .i64 (s.born a), .bool (y.for_ 0), .bool (y.for_ 1), .bool (y.for_ 2), .bool (y.for_ 3)] := by rw [← HY.out]; rfl
            have hq : RM b (w3.setCell ⟨b, 28, none⟩ (.slice (some ⟨g, 0, none⟩) (s.items.length + 1) cap3)) (fun k => k = b ∨ (Value.slice (some ⟨g, 0, none⟩) (s.items.length + 1) cap3).ownBlock = some k ∨ vb.ownBlock = some k) (retS0 s t a) := by
              refine ⟨.slice (some ⟨g, 0, none⟩) (s.items.length + 1) cap3, vb, kb, ⟨H2.out.1.kind, hokr.out, hb4, ?_, ?_, H2.out.1.born, fun k => Iff.rfl⟩, HV.out.2⟩
              · have h1 := owns_fr H8.out.2.1 hfb (fun j hj e => by
                  have : g = j := by simpa [Value.ownBlock] using hj
                  exact hgb (this.trans e))
                rw [← henc] at h1
                show (w3.setCell ⟨b, 28, none⟩ (.slice (some ⟨g, 0, none⟩) (s.items.length + 1) cap3)).ownsRow 0 153 8 _ (s.items ++ [mkItm s t a]).length ((s.items ++ [mkItm s t a]).flatMap encR)
                rw [HY.out]
                simpa using h1
              · exact owns_fr (owns_fr H2.out.1.brow hgr (fun j hj e => (H2.out.1.neb j hj).2 e)) hfb (fun j hj e => (H2.out.1.neb j hj).1 e)
            have hSt : Step F w (fun k => k = b ∨ (Value.slice (some ⟨g, 0, none⟩) (s.items.length + 1) cap3).ownBlock = some k ∨ vb.ownBlock = some k) (w3.setCell ⟨b, 28, none⟩ (.slice (some ⟨g, 0, none⟩) (s.items.length + 1) cap3)) :=
              ⟨Fr.then (H2.out.2.mono fun _ _ h => h.elim) ((hgr.mono (fun i _ e => (H2.out.1.fp i).2 (.inr (.inl e)))).trans (hfb.mono (fun i _ e => (H2.out.1.fp i).2 (.inl e)))) (fun i _ h => h), fun k hk => by
                rcases hk with e | e | e
                · exact .inl ((H2.out.1.fp k).2 (.inl e))
                · have hgk : g = k := by simpa [Value.ownBlock] using e
                  subst hgk
                  rcases hnew with e | e
                  · exact .inr (by omega)
                  · exact .inl ((H2.out.1.fp _).2 (.inr (.inl e)))
                · exact .inl ((H2.out.1.fp k).2 (.inr (.inr e)))⟩
            have HE := Lib.hid (And.intro hq hSt)
            clear hq hSt hgr hfb hb4 henc
            go_wp2_with fail
            go_meet
            exact ⟨_, HE.out⟩
        case rest =>
          obtain ⟨F', hq, hSt⟩ := hcut.out
          have HSt := Lib.hid hSt
          have hkk := HV.out.1.kind
          have hn4 := HV.out.1.ok.n4
          have ht0 : 0 ≤ t := by
            have h := ht
            unfold okTh at h
            simp at h
            omega
          have hret : retS s t a = (if s.kind = 1 then (if 3 * s.n < cntS (retS0 s t a) t then sweepS (retS0 s t a) (fun x => x.thr == t) else ⟨retS0 s t a, [], 0⟩) else if s.kind = 2 then tryS (retS0 s t a) else sweepS (retS0 s t a) (fun _ => true)) := by
            simp [retS, ht, ha0, hw]
          have hl1 : (retS0 s t a).items.length ≤ 100001 := by simp [retS0]; omega
          have hnow : (retS0 s t a).now = s.now := rfl
          have hkd : (retS0 s t a).kind = s.kind := rfl
          have hnn : (retS0 s t a).n = s.n := rfl
          rw [hret] at HR
          generalize retS0 s t a = s1 at HR hq hl1 hnow hkd hnn
          have m1 := hq.cellK
          rw [hkd] at m1
          have m2 := hq.cellN
          rw [hnn] at m2
          clear hSt hret hcut H2 hokr HJ ht hw
          by_cases hk1 : s.kind = 1
          · rw [if_pos hk1] at HR
            rw [hk1] at m1
            have HQ := Lib.hid hq
            have HSw := Lib.hid (rSweepOf hq (by omega) (by omega) t ht0)
            obtain ⟨vi', vb', kb', hv', hkl'⟩ := hq
            have m28 := (blk_cell hv'.blk 28).trans (rfl : _ = some vi')
            obtain ⟨A', cap', hvi', hA'⟩ := hv'.shape
            subst hvi'
            have HV' := Lib.hid (And.intro hv' hA')
            clear hv' hA' hkl' hk1 hkk hkd hnn
            go_wp2_with fail
            go_loop [9, 10] (fun n i => ∃ k : Nat, k ≤ s1.items.length ∧ i = .int .i64 k ∧ n = .int .i64 ((s1.items.take k).countP fun x => x.thr == t : Nat)) (fun _ i => s1.items.length - (intOf i).toNat)
            case atStart => exact ⟨0, Nat.zero_le _, rfl, by simp⟩
            case round =>
              obtain ⟨k, hk, rfl, rfl⟩ := hrel
              have hcl : (s1.items.take k).countP (fun x => x.thr == t) ≤ k := Nat.le_trans List.countP_le_length (by rw [List.length_take]; omega)
              by_cases hlt : k < s1.items.length
              · obtain ⟨x, hx⟩ : ∃ x, s1.items[k]? = some x := ⟨s1.items[k], by simp [hlt]⟩
                obtain ⟨g, rfl⟩ := HV'.out.2 (by intro e; rw [e] at hlt; simp at hlt)
                have c1 := (own_at encR_len HV'.out.1.row hx (o := 1) (by omega)).trans (rfl : _ = some (Value.int .i64 x.thr))
                have hki : (k : Int) < (s1.items.length : Int) := by omega
                have hct := cnt_take (p := fun x => x.thr == t) hx
                clear hx
                cases hxt : x.thr == t
                · rw [hxt] at hct
                  have HCt := Lib.hid hct
                  clear hct
                  go_wp2_with fail
                  go_round
                  case rel => exact ⟨k + 1, by omega, by go_num, by rw [HCt.out]; simp⟩
                  case measure => simp [intOf] <;> omega
                · rw [hxt] at hct
                  have HCt := Lib.hid hct
                  clear hct
                  go_wp2_with fail
                  go_round
                  case rel => exact ⟨k + 1, by omega, by go_num, by rw [HCt.out]; go_num⟩
                  case measure => simp [intOf] <;> omega
              · obtain rfl : k = s1.items.length := by omega
                have hki : ¬ (s1.items.length : Int) < (s1.items.length : Int) := by omega
                rw [List.take_length] at hcl ⊢
                have hcs : cntS s1 t = s1.items.countP fun x => x.thr == t := rfl
                rw [hcs] at HR
                generalize s1.items.countP (fun x => x.thr == t) = cn at HR hcl ⊢
                by_cases h3 : 3 * s.n < cn
                · rw [if_pos h3] at HR
                  have h3i : 3 * (s.n : Int) < (cn : Int) := by omega
                  clear h3 hcs
                  go_wp2_with (go_at_call 123; refine HSw.out.mono ?_; intro e w9 ho; obtain ⟨v9, rfl, hp9⟩ := ho.toP2 HSt.out; have H9 := Lib.hid hp9; clear hp9 ho)
                  exact HR.out _ _ H9.out
                · rw [if_neg h3] at HR
                  have h3i : ¬ 3 * (s.n : Int) < (cn : Int) := by omega
                  clear h3 hcs
                  go_wp2_with fail
                  exact HR.out _ _ (OpP.none HQ.out HSt.out)
          · rw [if_neg hk1] at HR
            by_cases hk2 : s.kind = 2
            · rw [if_pos hk2] at HR
              rw [hk2] at m1
              have HSw := Lib.hid (rTry hq (by omega) (by omega))
              have he := (tryS_now s1).2
              obtain ⟨r, hr⟩ : ∃ r, tryS s1 = r := ⟨_, rfl⟩
              rw [hr] at HR HSw he
              obtain ⟨r1, r2, r3⟩ := r
              dsimp only at he
              subst he
              clear hk1 hk2 hkk hkd hnn hq hr
              go_wp2_with (go_at_call 127; refine HSw.out.mono ?_; intro e w9 ho; obtain ⟨v9, rfl, hp9⟩ := ho.toP2 HSt.out; have H9 := Lib.hid hp9; clear hp9 ho)
              exact HR.out _ _ H9.out
            · rw [if_neg hk2] at HR
              have HSw := Lib.hid (rSweepAll hq (by omega) (by omega))
              have e1 : (s.kind == 1) = false := by simp [hk1]
              have e2 : (s.kind == 2) = false := by simp [hk2]
              clear hk1 hk2 hkk hkd hnn hq
              go_wp2_with (go_at_call 123; refine HSw.out.mono ?_; intro e w9 ho; obtain ⟨v9, rfl, hp9⟩ := ho.toP2 HSt.out; have H9 := Lib.hid hp9; clear hp9 ho)
              exact HR.out _ _ H9.out
  · rw [hw] at hwt
    have HW := Lib.hid hwt
    have e : retS s t a = ⟨s, [], 6⟩ := by simp [retS, ht, ha0, hw]
    rw [e] at HR
    clear hv hkl hth hno ht e hwt hbi
    go_enter Tryz.func98, Tryz.ntmps98
    go_wp2_with (first | (go_at_call 122; refine HT.out.mono ?_; rintro e w' ⟨rfl, rfl⟩) | (go_at_call 125; refine HW.out.mono ?_; rintro e w' ⟨rfl, rfl⟩))
    exact HR.out _ _ HN6.out
end Go.Proofs.YtcgcljmnnjalpaaGreat
