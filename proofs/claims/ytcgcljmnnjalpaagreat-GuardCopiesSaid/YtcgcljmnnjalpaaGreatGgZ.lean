/- GuardOnce: what the statement's function answers. -/
import Derived.Test.YtcgcljmnnjalpaaGreatGgV
import Derived.Test.YtcgcljmnnjalpaaGreatGgY
set_option linter.unusedVariables false
set_option linter.unusedSimpArgs false
namespace Go.Proofs.YtcgcljmnnjalpaaGreat
open Go.RowKit Go.Kx
open Go.ChangeMaps (setBlock)
/-- What the middle loop keeps. -/
structure OnceM (w : World) (G : Nat) (F : FP) (s' : RS) (A6 : Option Addr) (B W : List Int) (u : Value) (wr : World) : Prop where
  own : wr.ownsRow w.heap.size 3 1 u W.length (W.map (Value.int .i64))
  gm : GM G wr F s'
  back : IntsAt wr A6 B
  dj : ∀ j, u.ownBlock = some j → ¬ F j
  gr : Grow w wr
  fF : ∀ j, F j → w.heap.size ≤ j
theorem OnceM.grow {w : World} {G : Nat} {F : FP} {s' : RS} {A6 : Option Addr} {B W : List Int} {u : Value} {wr wr' : World} (h : OnceM w G F s' A6 B W u wr) (hg : Grow wr wr') : OnceM w G F s' A6 B W u wr' :=
  ⟨owns_grow h.own hg, (GM.local G).fr h.gm (G := fun _ => False) hg (fun _ _ h => h), h.back.grow hg, h.dj, h.gr.trans hg, h.fF⟩
set_option maxRecDepth 100000 in
set_option maxHeartbeats 8000000 in
theorem once_any {w : World} {A : Option Addr} {cap : Nat} {l : List Dd} (h : DdAt w A l) (k t : Int) : Calls Tryz.prog 6 #[.int .i64 k, .int .i64 t, .slice A l.length cap] w (TrueP w) := by
  refine cph fun R HR => ?_
  have HD := Lib.hid h
  have HA := Lib.hid (awake_any w)
  have HM : Hid (∀ w1, Calls Tryz.prog 22 #[.int .i64 k, .int .i64 t, .slice none 0 0] w1 (MadeG w1 (newS (kind6 k) (thrN t).toNat) (thrN t))) := fun w1 => made_any (A := none) (l := []) (.inl rfl) k t
  have hk6 := kind6_le k
  have htn := thrN_le t
  obtain ⟨N, hN⟩ := Int.eq_ofNat_of_zero_le (a := thrN t) (by omega)
  rw [hN] at HM htn
  rw [Int.toNat_natCast] at HM
  have hinv := inv_new (kind6 k) (n := N) (by omega) (by omega)
  have hfew := few_new (kind6 k) (n := N) (by omega)
  have hnil : addrs (newS (kind6 k) N) = [] := rfl
  generalize newS (kind6 k) N = s0 at HM hinv hfew hnil
  have HI := Lib.hid (And.intro hinv (And.intro hfew hnil))
  obtain ⟨i0, hi, hz0, hz1, hz2⟩ := info_parts info3x
  have HIn := Lib.hid (And.intro hi (And.intro hz0 (And.intro hz1 hz2)))
  clear hinv hfew h hN hnil hi hz0 hz1 hz2
  go_enter Tryz.func6, Tryz.ntmps6
  go_wp2_with (first | (go_at_call 13; refine HA.out.mono ?_; rintro e w1 ⟨rfl, hg1⟩; have HG1 := Lib.hid hg1; clear hg1) | (go_at_call 22; refine (HM.out _).mono ?_; rintro e w2 ⟨G, F, rfl, hA, hg, hF⟩; have H1 := Lib.hid (And.intro hA (And.intro (HG1.out.trans hg) (fun j hj => Nat.le_trans HG1.out.size (hF j hj)))); clear hA hg hF))
  go_loopw [9, 10] (fun u i wr => ∃ k : Nat, k ≤ l.length ∧ k ≤ 150 ∧ i = .int .i64 k ∧ Hid (∃ F, OnceM w G F (runS s0 (l.take k)) none [] (addrs (runS s0 (l.take k))) u wr)) (fun _ i _ => l.length - (intOf i).toNat)
  case atStart => exact ⟨0, Nat.zero_le _, by omega, rfl, F, by
    have e : addrs (runS s0 (l.take 0)) = [] := HI.out.2.2
    rw [e]
    exact World.ownsRow_nil _ _ _ _, H1.out.1, .inl rfl, fun j hj => by simp [Value.ownBlock] at hj, H1.out.2.1, H1.out.2.2⟩
  case round =>
    obtain ⟨k, hk, hk150, rfl, HO⟩ := hrel
    by_cases hlt : k < l.length ∧ k < 150
    · obtain ⟨hlt, hlt2⟩ := hlt
      have hki : (k : Int) < (l.length : Int) := by omega
      have hki2 : (k : Int) < 150 := by omega
      obtain ⟨d, hd⟩ : ∃ d, l[k]? = some d := ⟨l[k], by simp [hlt]⟩
      obtain ⟨F1, ho⟩ := HO.out
      have hdd := HD.out.fr ho.gr (fun _ h => h.elim)
      obtain ⟨b, off, rfl, hcs⟩ := hdd.resolve_left (by intro e; rw [e] at hlt; simp at hlt)
      obtain ⟨c0, c1, c2, c3⟩ := hcs k d hd
      have hinv := HI.out.1.run (l.take k)
      have hfw : Few k (runS s0 (l.take k)) := (HI.out.2.1.run (l.take k)).mono (by simp; omega)
      have hsucc := runS_succ (s := s0) hd
      generalize hsk : runS s0 (l.take k) = s at ho hinv hfw hsucc
      have hsm := hfw.small (by omega)
      obtain ⟨hrem, hnod, hret⟩ := once_plain hinv d
      have hfd := hfw.do d
      have hsmd := hfd.small (by omega)
      obtain ⟨A9, n9, hu9, hi9, _, _⟩ := ints_of_own ho.own
      subst hu9
      -- the box of the deed
      have hgb := (Grow.refl wr).alloc (Obj.cells #[.int .i64 d.do_, .int .i64 d.th, .int .i64 d.ho, .int .i64 d.ad] 32)
      have hnb := blk_new wr (Obj.cells #[.int .i64 d.do_, .int .i64 d.th, .int .i64 d.ho, .int .i64 d.ad] 32)
      obtain ⟨wb, hwb⟩ : ∃ wb, wr.alloc (Obj.cells #[.int .i64 d.do_, .int .i64 d.th, .int .i64 d.ho, .int .i64 d.ad] 32) = wb := ⟨_, rfl⟩
      rw [hwb] at hgb hnb
      have b0 := (blk_cell hnb 0).trans (rfl : _ = some (Value.int .i64 d.do_))
      have b1 := (blk_cell hnb 1).trans (rfl : _ = some (Value.int .i64 d.th))
      have b2 := (blk_cell hnb 2).trans (rfl : _ = some (Value.int .i64 d.ho))
      have b3 := (blk_cell hnb 3).trans (rfl : _ = some (Value.int .i64 d.ad))
      have hb := ho.grow hgb
      have HDo := Lib.hid (gmDo hb.gm hsm d)
      have hF1 := (GM.local G).lt ho.gm
      have H2 := Lib.hid (And.intro ho (And.intro hb (And.intro hnb hF1)))
      have HP := Lib.hid (And.intro hrem (And.intro hnod hret))
      have HS := Lib.hid hsucc
      have hal : (addrs s).length ≤ 1000 := by rw [addrs_len]; have := hfw.1; omega
      have hwl : (waitL s d).length ≤ 1001 := by
        unfold waitL
        split
        · rw [List.length_append]; simp; omega
        · omega
      have hbl : (doS s d).back.length ≤ 1001 := by have := back_le s hfw.2.2 d; have := hfw.1; omega
      have HSd := Lib.hid hsmd
      have hsizes := hgb.size
      clear hd ho hdd hcs hinv hfw hrem hnod hret hfd hsmd hgb hnb hb hsucc hsm hi9 hF1 hsk
      generalize hrs : doS s d = r at HP HDo HS HSd hbl
      have hretB : retB s d = ((d.do_ == 4) && (r.err == 0)) := by unfold retB; rw [hrs]
      have HRB := Lib.hid hretB
      clear hrs hretB
      go_upto_region 12 with (go_at_call 20; refine HDo.out.mono ?_; intro e w6 ho; obtain ⟨A6, c6, F6, rfl, o6, a6, s6, d6⟩ := ho.ints; have hdc := (s6.fr.at_ H2.out.2.2.1 (fun h => by have := H2.out.2.2.2 _ h; omega)); have e0 := (blk_cell hdc 0).trans (rfl : _ = some (Value.int .i64 d.do_)); have e3 := (blk_cell hdc 3).trans (rfl : _ = some (Value.int .i64 d.ad)); have k6 := beside H2.out.2.1.own H2.out.2.1.dj s6; have g6 := grow_step H2.out.2.1.gr H2.out.2.1.fF s6; have H6 := Lib.hid (And.intro o6 (And.intro (OnceM.mk k6.1 a6 (ints_own o6) k6.2 g6.1 g6.2) s6.fr.size)); clear o6 a6 s6 d6 hdc k6 g6 ho)
      go_cut [53] (fun v wx => v = .bool (retB s d) ∧ w6 = wx)
      case first =>
        cases q4 : (d.do_ == 4)
        · go_wp2_with fail
          go_meet
          exact ⟨by rw [HRB.out]; simp [q4], rfl⟩
        · cases qe : (r.err == 0)
          · go_wp2_with fail
            go_meet
            exact ⟨by rw [HRB.out]; simp [q4, qe], rfl⟩
          · go_wp2_with fail
            go_meet
            exact ⟨by rw [HRB.out]; simp [q4, qe], rfl⟩
      case rest =>
        obtain ⟨rfl, rfl⟩ := hcut
        have hi9 := ints_own H6.out.2.1.own
        have hsz6 := H6.out.2.2
        have hsw6 := H6.out.2.1.gr.size
        go_upto_if 53 with fail
        go_cut [9] (fun v wx => Hid (OnceM w G F6 r.st A6 r.back (waitL s d) v wx))
        case first =>
          cases hrb : retB s d
          · have HW : Hid (waitL s d = addrs s) := by show _ = _; unfold waitL; rw [hrb]; rfl
            go_wp2_with fail
            go_meet
            rw [HW.out]
            exact H6.out.2.1
          · have HW : Hid (waitL s d = addrs s ++ [d.ad]) := by show _ = _; unfold waitL; rw [hrb]; rfl
            have hh := hasI_any (cap := n9) d.ad hi9 (by omega)
            rw [decide_eq_false (HP.out.2.2 hrb)] at hh
            have HH := Lib.hid hh
            have HNW := Lib.hid (cell_one_new w6 (.int .i64 d.ad) 3)
            clear hh hrb
            go_wp2_with (first | (go_at_call 24; refine HH.out.mono ?_; rintro e w' ⟨rfl, rfl⟩) | (at_builtin; refine wpList_append_own_at _ rfl (.tmp 58) (.tmp 61) 34 rfl w.heap.size 3 i0 (.int .i64 0) 1 8 Tryz.underlying34 HIn.out.1 HIn.out.2.1 HIn.out.2.2.1 HIn.out.2.2.2 rfl (by decide) _ _ _ rfl (H6.out.2.1.own.alloc _) ⟨w6.heap.size, 0, none⟩ 1 1 [.int .i64 d.ad] rfl rfl HNW.out (by simp [Value.oneCell']) (by unfold maxLen; omega) (by omega) (by simp; omega) ?_; intro v7 w7 hown hgrow _ hat; have H7 := Lib.hid (And.intro hown (And.intro hgrow hat)); clear hown hgrow hat))
            go_meet
            have hg := (Grow.refl w6).alloc (Obj.cells #[.int .i64 d.ad] 3)
            have hM := H6.out.2.1.grow hg
            have hlt9 : ∀ j, (Value.slice A9 (addrs s).length n9).ownBlock = some j → j < wb.heap.size := fun j hj => by
              have := (H2.out.1.own.lt j hj).2; omega
            rw [HW.out]
            refine ⟨by simpa using H7.out.1, (GM.local G).fr hM.gm (G := fun j => (Value.slice A9 (addrs s).length n9).ownBlock = some j) (fr_grown H7.out.2.1) (fun j hf e => hM.dj j e hf), ints_own (owns_fr (owns_grow H6.out.1 hg) (fr_grown H7.out.2.1) (fun j hj e => by have := (H6.out.1.lt j hj).1; have := hlt9 j e; omega)), fun j hj hf => ?_, hM.gr.grown H7.out.2.1 (fun j e => (hM.own.lt j e).1), hM.fF⟩
            rcases H7.out.2.2 with e | e
            · exact hM.dj j (e ▸ hj) hf
            · rw [e] at hj
              have := (GM.local G).lt hM.gm j hf
              rw [size_alloc] at this
              simp at hj
              omega
        case rest =>
          obtain ⟨w7, hw7⟩ : ∃ w7, w7 = wc := ⟨_, rfl⟩
          subst hw7
          obtain ⟨A10, c10, hu10, _, _, _⟩ := ints_of_own hcut.out.own
          have HC := Lib.hid hcut
          subst hu10
          have hwlb : ∀ q, (leftK (waitL s d) r.back q).length ≤ 1001 := fun q => Nat.le_trans (leftK_le _ _ q) hwl
          clear hcut
          go_wp2_with fail
          go_loopw [9, 14] (fun u q wr2 => ∃ q' : Nat, q' ≤ r.back.length ∧ q = .int .i64 q' ∧ Hid (OnceM w G F6 r.st A6 r.back (leftK (waitL s d) r.back q') u wr2)) (fun _ q _ => r.back.length - (intOf q).toNat)
          case atStart => exact ⟨0, Nat.zero_le _, rfl, by rw [leftK_zero]; exact HC.out⟩
          case round =>
            obtain ⟨wr2, hwr2⟩ : ∃ x, x = wr := ⟨_, rfl⟩
            subst hwr2
            obtain ⟨q, hq, rfl, HQ⟩ := hrel
            have hwq := hwlb q
            have hgw := HQ.out.gr.size
            by_cases hql : q < r.back.length
            · have hwq1 := hwlb (q + 1)
              obtain ⟨y, hy⟩ : ∃ y, r.back[q]? = some y := ⟨r.back[q], by simp [hql]⟩
              obtain ⟨Aw, cw, huw, hiw, _, _⟩ := ints_of_own HQ.out.own
              subst huw
              have hlen := leftK_len HP.out.1 HP.out.2.1 hy
              have hsuc := leftK_succ (L := waitL s d) hy
              have hbk := HQ.out.back
              generalize leftK (waitL s d) r.back q = W at HQ hwq hiw hlen hsuc
              obtain ⟨W1, hW1⟩ : ∃ W1, leftK (waitL s d) r.back (q + 1) = W1 := ⟨_, rfl⟩
              rw [hW1] at hlen hsuc hwq1
              have HW1 := Lib.hid hW1
              have hWI : (W.length : Int) - 1 = (W1.length : Int) := by omega
              have HLn := Lib.hid hlen
              have HSc := Lib.hid hsuc
              have HQy := Lib.hid hy
              have HBk := Lib.hid hbk
              have HIw := Lib.hid hiw
              have hqi : (q : Int) < (r.back.length : Int) := by omega
              clear hlen hsuc hy hbk hiw hW1
              go_wp2_with fail
              go_loopw [15, 16] (fun u j wr3 => ∃ j' : Nat, j' ≤ W.length ∧ j = .int .i64 j' ∧ Hid (wr3.ownsRow wr2.heap.size 3 1 u ((W.take j').filter fun a => decide (a ≠ y)).length (((W.take j').filter fun a => decide (a ≠ y)).map (Value.int .i64)) ∧ Grow wr2 wr3)) (fun _ j _ => W.length - (intOf j).toNat)
              case atStart => exact ⟨0, Nat.zero_le _, rfl, World.ownsRow_nil _ _ _ _, Grow.refl _⟩
              case round =>
                obtain ⟨wr3, hwr3⟩ : ∃ x, x = wr := ⟨_, rfl⟩
                subst hwr3
                obtain ⟨j, hj, rfl, HJ⟩ := hrel
                have hfl : ((W.take j).filter fun a => decide (a ≠ y)).length ≤ j := Nat.le_trans (List.length_filter_le _ _) (List.length_take_le _ _)
                by_cases hjl : j < W.length
                · obtain ⟨x, hx⟩ : ∃ x, W[j]? = some x := ⟨W[j], by simp [hjl]⟩
                  obtain ⟨bw, ow, rfl, hcw⟩ := HIw.out.resolve_left (by intro e; rw [e] at hjl; simp at hjl)
                  obtain ⟨bb, ob, rfl, hcb⟩ := HBk.out.resolve_left (by intro e; rw [e] at hql; simp at hql)
                  have cx : (wr3.drewN 0).cell? ⟨bw, ow + j, none⟩ = some (.int .i64 x) := HJ.out.2.cell (hcw j x hx)
                  have cx0 : wr3.cell? ⟨bw, ow + j, none⟩ = some (.int .i64 x) := cx
                  have cb0 : wr3.cell? ⟨bb, ob + q, none⟩ = some (.int .i64 y) := HJ.out.2.cell (hcb q y HQy.out)
                  have hji : (j : Int) < (W.length : Int) := by omega
                  have hsj : (W.take (j + 1)).filter (fun a => decide (a ≠ y)) = if x = y then (W.take j).filter (fun a => decide (a ≠ y)) else (W.take j).filter (fun a => decide (a ≠ y)) ++ [x] := by
                    rw [List.take_add_one, hx, List.filter_append]
                    by_cases e : x = y <;> simp [e]
                  have HSj := Lib.hid hsj
                  clear hx hsj cx
                  go_upto_region 23 with fail
                  go_quiet (fail)
                  have cx1 : (wr3.drewN nq).cell? ⟨bw, ow + j, none⟩ = some (.int .i64 x) := cx0
                  have hgY : Grow wr2 (wr3.drewN nq) := HJ.out.2.drewN nq
                  have hoY := owns_grow HJ.out.1 ((Grow.refl wr3).drewN nq)
                  clear cx0 cb0
                  generalize wr3.drewN nq = wY at cx1 hgY hoY ⊢
                  have HY := Lib.hid (And.intro hgY hoY)
                  clear hgY hoY
                  by_cases hxb : x = y
                  · have HXB := Lib.hid hxb
                    have e1 : (x != y) = false := by simp [hxb]
                    have e2 : (x == y) = true := by simp [hxb]
                    clear hxb
                    go_wp2_with fail
                    go_roundw
                    case rel => exact ⟨j + 1, by omega, by go_num, by rw [HSj.out, if_pos HXB.out]; exact HY.out.2, HY.out.1⟩
                    case measure => simp [intOf] <;> omega
                  · have HXB := Lib.hid hxb
                    have e1 : (x != y) = true := by simp [hxb]
                    have e2 : (x == y) = false := by simp [hxb]
                    have HNW := Lib.hid (cell_one_new wY (.int .i64 x) 3)
                    clear hxb
                    go_wp2_with (at_builtin; refine wpList_append_own_at _ rfl (.tmp 84) (.tmp 89) 34 rfl wr2.heap.size 3 i0 (.int .i64 0) 1 8 Tryz.underlying34 HIn.out.1 HIn.out.2.1 HIn.out.2.2.1 HIn.out.2.2.2 rfl (by decide) _ _ _ rfl (HY.out.2.alloc _) ⟨wY.heap.size, 0, none⟩ 1 1 [.int .i64 x] rfl rfl HNW.out (by simp [Value.oneCell']) (by unfold maxLen; omega) (by omega) (by have := HY.out.1.size; simp; omega) ?_; intro v8 w8 hown hgrow _ _; have H8 : Hid (w8.ownsRow wr2.heap.size 3 1 v8 ((W.take (j + 1)).filter fun a => decide (a ≠ y)).length (((W.take (j + 1)).filter fun a => decide (a ≠ y)).map (Value.int .i64)) ∧ Grow wr2 w8) := ⟨by rw [HSj.out, if_neg HXB.out]; simpa using hown, (HY.out.1.alloc _).grown hgrow (fun i e => (HY.out.2.lt i e).1)⟩; clear hown hgrow)
                    go_roundw
                    case rel => exact ⟨j + 1, by omega, by go_num, H8.out⟩
                    case measure => simp [intOf] <;> omega
                · obtain rfl : j = W.length := by omega
                  have hji : ¬ (W.length : Int) < (W.length : Int) := by omega
                  have hown := HJ.out.1
                  rw [List.take_length, HSc.out] at hown
                  obtain ⟨A15, c15, hu15, _, _, _⟩ := ints_of_own hown
                  subst hu15
                  have HOw := Lib.hid hown
                  clear hown hfl
                  go_wp2_with fail
                  go_roundw
                  case rel =>
                    have hM := HQ.out.grow HJ.out.2
                    refine ⟨q + 1, by omega, by go_num, ?_⟩
                    rw [HW1.out]
                    exact ⟨own_base_le HOw.out hgw, hM.gm, hM.back, fun i hi hf => by
                      have h1 := (HOw.out.lt i hi).1
                      have h2 := (GM.local G).lt HQ.out.gm i hf
                      omega, hM.gr, hM.fF⟩
                  case measure => simp [intOf] <;> omega
            · obtain rfl : q = r.back.length := by omega
              have hqi : ¬ (r.back.length : Int) < (r.back.length : Int) := by omega
              have hall := leftK_all HP.out.1
              rw [hall] at HQ hwq
              obtain ⟨Aw, cw, huw, hiw, _, _⟩ := ints_of_own HQ.out.own
              subst huw
              have HIw := Lib.hid hiw
              have HWt := Lib.hid (gmWaiting HQ.out.gm HSd.out)
              clear hall hiw
              go_wp2_with (first | (go_at_call 21; refine HWt.out.mono ?_; intro e w9 ho; obtain ⟨A7, c7, rfl, o7, g7⟩ := ho.ints; have hs := sameI_any (ca := c7) (cb := cw) (ints_own o7) (HIw.out.grow g7) (by omega) (by omega); rw [decide_eq_true rfl] at hs; have HSa := Lib.hid hs; have HG9 := Lib.hid g7; clear o7 g7 ho hs) | (go_at_call 16; refine HSa.out.mono ?_; rintro e w10 ⟨rfl, g10⟩; have HG10 := Lib.hid g10; clear g10))
              go_roundw
              case rel =>
                have hM := HQ.out.grow (HG9.out.trans HG10.out)
                refine ⟨k + 1, by omega, by omega, by go_num, F6, ?_⟩
                rw [HS.out]
                exact ⟨hM.own, hM.gm, .inl rfl, hM.dj, hM.gr, hM.fF⟩
              case measure => simp [intOf] <;> omega
    · have d12 : (¬ (k : Int) < (l.length : Int)) ∨ ((k : Int) < (l.length : Int) ∧ ¬ (k : Int) < 150) := by omega
      obtain ⟨F1, ho⟩ := HO.out
      have H9 := Lib.hid ho.gr
      clear ho hlt
      rcases d12 with hki | ⟨hki, hki2⟩
      · have d1 := decide_eq_false hki
        go_wp2_with fail
        exact HR.out _ _ ⟨rfl, H9.out⟩
      · have d2 := decide_eq_false hki2
        go_wp2_with fail
        exact HR.out _ _ ⟨rfl, H9.out⟩
end Go.Proofs.YtcgcljmnnjalpaaGreat
