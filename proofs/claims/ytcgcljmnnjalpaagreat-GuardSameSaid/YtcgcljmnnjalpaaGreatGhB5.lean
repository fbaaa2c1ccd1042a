/- The statements' manager, for each kind (printed by wip/gen/mkghb.py). -/
import Derived.Test.YtcgcljmnnjalpaaGreatGhB
import Derived.OwnWalk
set_option linter.unusedVariables false
set_option linter.unusedSimpArgs false
namespace Go.Proofs.YtcgcljmnnjalpaaGreat
open Go.RowKit Go.Kx
open Go.ChangeMaps (setBlock)
set_option maxRecDepth 100000 in
set_option maxHeartbeats 16000000 in
theorem mgr5 {w : World} {A : Option Addr} {cap : Nat} {l : List Dd} (h : DdAt w A l) {n : Nat} (h1 : 1 ≤ n) (h4 : n ≤ 4) (hv : ∀ d ∈ l, 0 ≤ d.do_ ∧ d.do_ ≤ 5) (hl : l.length ≤ 150) : Calls Tryz.prog 19 #[.int .i64 5, .int .i64 n, .slice A l.length cap] w (MgrP w (outsS (newS 5 n) l) (addrs (runS (newS 5 n) l))) := by
  refine cph fun R HR => ?_
  have HD := Lib.hid h
  have HVd := Lib.hid hv
  have HN1 : Hid (∀ w, Calls Tryz.prog 48 #[.int .i64 n] w fun e w' => ∃ b F, e = .returned (.tuple #[.pointer (some ⟨b, 0, none⟩), .int .i64 0]) ∧ HZ b w' F (newS 1 n) ∧ Grow w w' ∧ ∀ j, F j → w.heap.size ≤ j) := fun w => (hzNew w n).mono fun e w' h => h.get h1 h4
  have HN2 : Hid (∀ w, Calls Tryz.prog 49 #[.int .i64 n] w fun e w' => ∃ b F, e = .returned (.tuple #[.pointer (some ⟨b, 0, none⟩), .int .i64 0]) ∧ EM b w' F (newS 2 n) ∧ Grow w w' ∧ ∀ j, F j → w.heap.size ≤ j) := fun w => (epNew w n).mono fun e w' h => h.get h1 h4
  have HN3 : Hid (∀ w, Calls Tryz.prog 50 #[.int .i64 n] w fun e w' => ∃ b F, e = .returned (.tuple #[.pointer (some ⟨b, 0, none⟩), .int .i64 0]) ∧ SP b w' F (newS 3 n) ∧ Grow w w' ∧ ∀ j, F j → w.heap.size ≤ j) := fun w => (spNew w n).mono fun e w' h => h.get h1 h4
  have HN4 : Hid (∀ w, Calls Tryz.prog 51 #[.int .i64 n] w fun e w' => ∃ b F, e = .returned (.tuple #[.pointer (some ⟨b, 0, none⟩), .int .i64 0]) ∧ CM b w' F (newS 4 n) ∧ Grow w w' ∧ ∀ j, F j → w.heap.size ≤ j) := fun w => (coNew w n).mono fun e w' h => h.get h1 h4
  have HN5 : Hid (∀ w, Calls Tryz.prog 52 #[.int .i64 n] w fun e w' => ∃ b F, e = .returned (.tuple #[.pointer (some ⟨b, 0, none⟩), .int .i64 0]) ∧ QM b w' F (newS 5 n) ∧ Grow w w' ∧ ∀ j, F j → w.heap.size ≤ j) := fun w => (quNew w n).mono fun e w' h => h.get h1 h4
  have hinv := inv_new 5 (n := n) h1 h4
  have hfew := few_new 5 (n := n) h4
  have hbi := binv_new 5 n
  have hkd : (newS 5 n).kind = 5 := rfl
  have hit : (newS 5 n).items = [] := rfl
  generalize hs0 : newS 5 n = s0 at HR HN5 hinv hfew hbi hkd hit
  have HI := Lib.hid (And.intro hinv (And.intro hfew (And.intro hbi (And.intro hkd hit))))
  obtain ⟨iL, hi, hz0, hz1, hz2⟩ := info_parts infoL
  have HL := Lib.hid (And.intro hi (And.intro hz0 (And.intro hz1 hz2)))
  clear h hv hinv hfew hbi hkd hit hs0 hi hz0 hz1 hz2
  go_enter Tryz.func19, Tryz.ntmps19
  go_wp2_with (first | (go_at_call 48; refine (HN1.out _).mono ?_; rintro e w1 ⟨b1, F1, rfl, hA, hg, hF⟩; have HX1 := Lib.hid (And.intro hA (And.intro hg hF)); clear hA hg hF) | (go_at_call 49; refine (HN2.out _).mono ?_; rintro e w2 ⟨b2, F2, rfl, hA, hg, hF⟩; have HX2 := Lib.hid (And.intro hA (And.intro hg hF)); clear hA hg hF) | (go_at_call 50; refine (HN3.out _).mono ?_; rintro e w3 ⟨b3, F3, rfl, hA, hg, hF⟩; have HX3 := Lib.hid (And.intro hA (And.intro hg hF)); clear hA hg hF) | (go_at_call 51; refine (HN4.out _).mono ?_; rintro e w4 ⟨b4, F4, rfl, hA, hg, hF⟩; have HX4 := Lib.hid (And.intro hA (And.intro hg hF)); clear hA hg hF) | (go_at_call 52; refine (HN5.out _).mono ?_; rintro e w5 ⟨b5, F5, rfl, hA, hg, hF⟩; have HX5 := Lib.hid (And.intro hA (And.intro hg hF)); clear hA hg hF))
  have hA5 : QG b5 w5 F5 s0 := ⟨(QM.local b5).fr HX5.out.1 (G := fun _ => False) (Grow.refl _) (fun _ _ h => h), fun x hx => by rw [HI.out.2.2.2.2] at hx; cases hx⟩
  have hG5 : Grow w w5 := ((((HX1.out.2.1).trans HX2.out.2.1).trans HX3.out.2.1).trans HX4.out.2.1).trans HX5.out.2.1
  have hF5 : ∀ j, F5 j → w.heap.size ≤ j := fun j hj => Nat.le_trans ((((HX1.out.2.1).trans HX2.out.2.1).trans HX3.out.2.1).trans HX4.out.2.1).size (HX5.out.2.2 j hj)
  have H5 := Lib.hid (And.intro hA5 (And.intro hG5 hF5))
  clear hA5 hG5 hF5
  go_loopw [9, 20] (fun u i wr => ∃ k : Nat, k ≤ l.length ∧ i = .int .i64 k ∧ Hid (∃ F, QG b5 wr F (runS s0 (l.take k)) ∧ OutsAt w.heap.size F (outsS s0 (l.take k)) u wr ∧ Grow w wr ∧ ∀ j, F j → w.heap.size ≤ j)) (fun _ i _ => l.length - (intOf i).toNat)
  case atStart => exact ⟨0, Nat.zero_le _, rfl, F5, H5.out.1, OutsAt.nil _ _ _, H5.out.2.1, H5.out.2.2⟩
  case round =>
    obtain ⟨k, hk, rfl, HO⟩ := hrel
    by_cases hlt : k < l.length
    · have hki : (k : Int) < (l.length : Int) := by omega
      have hki2 : (k : Int) < 150 := by omega
      obtain ⟨d, hd⟩ : ∃ d, l[k]? = some d := ⟨l[k], by simp [hlt]⟩
      have hdo := HVd.out d (List.mem_of_getElem? hd)
      obtain ⟨F, hm, hout, hg, hF⟩ := HO.out
      have hdd := HD.out.fr hg (fun _ h => h.elim)
      obtain ⟨b, off, rfl, hcs⟩ := hdd.resolve_left (by intro e; rw [e] at hlt; simp at hlt)
      obtain ⟨c0, c1, c2, c3⟩ := hcs k d hd
      have hsm : Small (runS s0 (l.take k)) := (HI.out.2.1.run _).small (by simp; omega)
      have hinv := HI.out.1.run (l.take k)
      have hbi := binv_run HI.out.1 HI.out.2.2.1 (l.take k)
      have hkd : (runS s0 (l.take k)).kind = 5 := (runS_kind _ _).trans HI.out.2.2.2.1
      have hsucc := runS_succ (s := s0) hd
      have hosucc := outsS_succ (s := s0) hd
      have hol : (outsS s0 (l.take k)).length = k := by rw [outsS_len, List.length_take]; omega
      have hok := (hinv.do d).ok
      generalize hs : runS s0 (l.take k) = s at hm hsm hinv hbi hkd hsucc hosucc hok
      -- the box of the deed
      have hgb := (Grow.refl wr).alloc (Obj.cells #[.int .i64 d.do_, .int .i64 d.th, .int .i64 d.ho, .int .i64 d.ad] 32)
      have hnb := blk_new wr (Obj.cells #[.int .i64 d.do_, .int .i64 d.th, .int .i64 d.ho, .int .i64 d.ad] 32)
      obtain ⟨wb, hwb⟩ : ∃ wb, wr.alloc (Obj.cells #[.int .i64 d.do_, .int .i64 d.th, .int .i64 d.ho, .int .i64 d.ad] 32) = wb := ⟨_, rfl⟩
      rw [hwb] at hgb hnb
      have e0 := (blk_cell hnb 0).trans (rfl : _ = some (Value.int .i64 d.do_))
      have e1 := (blk_cell hnb 1).trans (rfl : _ = some (Value.int .i64 d.th))
      have e2 := (blk_cell hnb 2).trans (rfl : _ = some (Value.int .i64 d.ho))
      have e3 := (blk_cell hnb 3).trans (rfl : _ = some (Value.int .i64 d.ad))
      have hb := (QG.local b5).fr hm (G := fun _ => False) hgb (fun _ _ h => h)
      have hob := hout.grow hgb
      have hgw := hg.trans hgb
      have HB := Lib.hid (And.intro hb (And.intro hob (And.intro hgw hF)))
      have HSu := Lib.hid (And.intro hsucc hosucc)
      have HOl := Lib.hid hol
      have HOk := Lib.hid hok
      have HIv := Lib.hid (And.intro hinv (And.intro hbi hkd))
      obtain ⟨x, th, ho, ad⟩ := d
      dsimp only at *
      clear hd hm hout hg hF hdd hcs hgb hnb hob hgw hs hinv hbi hsucc hosucc hol hok
      obtain rfl | rfl | rfl | rfl | rfl | rfl : x = 0 ∨ x = 1 ∨ x = 2 ∨ x = 3 ∨ x = 4 ∨ x = 5 := by omega
      · as_aux_lemma =>
        have hc := qgIn hb th
        rw [do_0] at HSu HOk
        have HC := Lib.hid hc
        clear hc hb hkd
        have HSz0 := Lib.hid HB.out.2.2.1.size
        go_wp2_with (first | (go_at_call 71; refine HC.out.mono ?_; intro e w6 ho6; obtain ⟨A6, c6, F6, rfl, o6, a6, s6, d6⟩ := ho6.ints; have hO6 := HB.out.2.1.step s6; obtain ⟨vs, v1, v2, v3, v4⟩ := hO6; have HV := Lib.hid (And.intro v1 (And.intro v2 (And.intro v3 v4))); have g6 := grow_step HB.out.2.2.1 HB.out.2.2.2 s6; have HSz := Lib.hid g6.1.size; have H6 := Lib.hid (And.intro o6 (And.intro a6 (And.intro d6 g6))); clear o6 a6 s6 d6 v1 v2 v3 v4 g6 ho6) | (at_builtin; refine wpList_append_own_at _ rfl (.tmp 278) (.tmp 280) 24 rfl w.heap.size 34 iL (.slice none 0 0) 1 24 Tryz.underlying24 HL.out.1 HL.out.2.1 HL.out.2.2.1 HL.out.2.2.2 rfl (by decide) _ (outsS s0 (l.take k)).length vs rfl (HV.out.2.1.alloc _) ⟨w6.heap.size, 0, none⟩ 1 1 [.slice A6 (inS s th : RO).back.length c6] rfl rfl (cell_one_new w6 _ _) (by simp [Value.oneCell']) (by unfold maxLen; rw [HOl.out]; omega) (by rw [HOl.out]; omega) (by have := HSz.out; simp; omega) ?_; intro v7 w7 hown hgrow _ hat; have H7 := Lib.hid (And.intro hown (And.intro hgrow hat)); clear hown hgrow hat))
        go_roundw
        case rel =>
          refine ⟨k + 1, by omega, by go_num, F6, ?_, ?_, (H6.out.2.2.2.1.alloc _).grown H7.out.2.1 (fun j e => (HV.out.2.1.lt j e).1), H6.out.2.2.2.2⟩
          · rw [HSu.out.1]
            exact local_grown (QG.local b5) H6.out.2.1 HV.out.2.2.1 H7.out.2.1
          · rw [HSu.out.2]
            exact OutsAt.app HV.out.1 HV.out.2.1 HV.out.2.2.1 HV.out.2.2.2 H6.out.1 HSz0.out H6.out.2.2.1 H7.out.1 H7.out.2.1 H7.out.2.2 ((QG.local b5).lt H6.out.2.1)
        case measure => simp [intOf] <;> omega
      · as_aux_lemma =>
        have hc := qgOut hb hsm.1 th
        rw [do_1] at HSu HOk
        have HC := Lib.hid hc
        clear hc hb hkd
        have HSz0 := Lib.hid HB.out.2.2.1.size
        go_wp2_with (first | (go_at_call 72; refine HC.out.mono ?_; intro e w6 ho6; obtain ⟨A6, c6, F6, rfl, o6, a6, s6, d6⟩ := ho6.ints; have hO6 := HB.out.2.1.step s6; obtain ⟨vs, v1, v2, v3, v4⟩ := hO6; have HV := Lib.hid (And.intro v1 (And.intro v2 (And.intro v3 v4))); have g6 := grow_step HB.out.2.2.1 HB.out.2.2.2 s6; have HSz := Lib.hid g6.1.size; have H6 := Lib.hid (And.intro o6 (And.intro a6 (And.intro d6 g6))); clear o6 a6 s6 d6 v1 v2 v3 v4 g6 ho6) | (at_builtin; refine wpList_append_own_at _ rfl (.tmp 278) (.tmp 280) 24 rfl w.heap.size 34 iL (.slice none 0 0) 1 24 Tryz.underlying24 HL.out.1 HL.out.2.1 HL.out.2.2.1 HL.out.2.2.2 rfl (by decide) _ (outsS s0 (l.take k)).length vs rfl (HV.out.2.1.alloc _) ⟨w6.heap.size, 0, none⟩ 1 1 [.slice A6 (outS s th : RO).back.length c6] rfl rfl (cell_one_new w6 _ _) (by simp [Value.oneCell']) (by unfold maxLen; rw [HOl.out]; omega) (by rw [HOl.out]; omega) (by have := HSz.out; simp; omega) ?_; intro v7 w7 hown hgrow _ hat; have H7 := Lib.hid (And.intro hown (And.intro hgrow hat)); clear hown hgrow hat))
        go_roundw
        case rel =>
          refine ⟨k + 1, by omega, by go_num, F6, ?_, ?_, (H6.out.2.2.2.1.alloc _).grown H7.out.2.1 (fun j e => (HV.out.2.1.lt j e).1), H6.out.2.2.2.2⟩
          · rw [HSu.out.1]
            exact local_grown (QG.local b5) H6.out.2.1 HV.out.2.2.1 H7.out.2.1
          · rw [HSu.out.2]
            exact OutsAt.app HV.out.1 HV.out.2.1 HV.out.2.2.1 HV.out.2.2.2 H6.out.1 HSz0.out H6.out.2.2.1 H7.out.1 H7.out.2.1 H7.out.2.2 ((QG.local b5).lt H6.out.2.1)
        case measure => simp [intOf] <;> omega
      · as_aux_lemma =>
        rw [do_2] at HSu HOk
        have hst : QG b5 wb F (holdS s th ho ad : RO).st := by obtain ⟨q1, q2, q3, q4, q5, q6⟩ := hold_same (s := s) (by omega) th ho ad; exact ⟨hb.1.upd HOk.out q1 q2 q4 q6, by rw [q6]; exact hb.2⟩
        have hbk : (holdS s th ho ad : RO).back = [] := hold_back (by omega) th ho ad
        rw [hbk] at HSu
        have H6 := Lib.hid hst
        have hO6 := HB.out.2.1
        obtain ⟨vs, v1, v2, v3, v4⟩ := hO6
        have HV := Lib.hid (And.intro v1 (And.intro v2 (And.intro v3 v4)))
        have HSz := Lib.hid HB.out.2.2.1.size
        obtain ⟨w6, hw6⟩ : ∃ w6, w6 = wb := ⟨_, rfl⟩
        subst hw6
        clear hst hbk hb hkd v1 v2 v3 v4
        go_wp2_with (at_builtin; refine wpList_append_own_at _ rfl (.tmp 278) (.tmp 280) 24 rfl w.heap.size 34 iL (.slice none 0 0) 1 24 Tryz.underlying24 HL.out.1 HL.out.2.1 HL.out.2.2.1 HL.out.2.2.2 rfl (by decide) _ (outsS s0 (l.take k)).length vs rfl (HV.out.2.1.alloc _) ⟨w6.heap.size, 0, none⟩ 1 1 [.slice none 0 0] rfl rfl (cell_one_new w6 _ _) (by simp [Value.oneCell']) (by unfold maxLen; rw [HOl.out]; omega) (by rw [HOl.out]; omega) (by have := HSz.out; simp; omega) ?_; intro v7 w7 hown hgrow _ hat; have H7 := Lib.hid (And.intro hown (And.intro hgrow hat)); clear hown hgrow hat)
        go_roundw
        case rel =>
          refine ⟨k + 1, by omega, by go_num, F, ?_, ?_, (HB.out.2.2.1.alloc _).grown H7.out.2.1 (fun j e => (HV.out.2.1.lt j e).1), HB.out.2.2.2⟩
          · rw [HSu.out.1]
            exact local_grown (QG.local b5) H6.out HV.out.2.2.1 H7.out.2.1
          · rw [HSu.out.2]
            exact OutsAt.app (x := []) HV.out.1 HV.out.2.1 HV.out.2.2.1 HV.out.2.2.2 (World.ownsRow_nil _ _ _ _) (Nat.le_refl _) (fun j hj => by simp [Value.ownBlock] at hj) H7.out.1 H7.out.2.1 H7.out.2.2 ((QG.local b5).lt H6.out)
        case measure => simp [intOf] <;> omega
      · as_aux_lemma =>
        rw [do_3] at HSu HOk
        have hst : QG b5 wb F (⟨(bornS s ad).st, [], (bornS s ad).err⟩ : RO).st := by rw [born_same (by omega)]; exact hb
        have hbk : (⟨(bornS s ad).st, [], (bornS s ad).err⟩ : RO).back = [] := rfl
        rw [hbk] at HSu
        have H6 := Lib.hid hst
        have hO6 := HB.out.2.1
        obtain ⟨vs, v1, v2, v3, v4⟩ := hO6
        have HV := Lib.hid (And.intro v1 (And.intro v2 (And.intro v3 v4)))
        have HSz := Lib.hid HB.out.2.2.1.size
        obtain ⟨w6, hw6⟩ : ∃ w6, w6 = wb := ⟨_, rfl⟩
        subst hw6
        clear hst hbk hb hkd v1 v2 v3 v4
        go_wp2_with (at_builtin; refine wpList_append_own_at _ rfl (.tmp 278) (.tmp 280) 24 rfl w.heap.size 34 iL (.slice none 0 0) 1 24 Tryz.underlying24 HL.out.1 HL.out.2.1 HL.out.2.2.1 HL.out.2.2.2 rfl (by decide) _ (outsS s0 (l.take k)).length vs rfl (HV.out.2.1.alloc _) ⟨w6.heap.size, 0, none⟩ 1 1 [.slice none 0 0] rfl rfl (cell_one_new w6 _ _) (by simp [Value.oneCell']) (by unfold maxLen; rw [HOl.out]; omega) (by rw [HOl.out]; omega) (by have := HSz.out; simp; omega) ?_; intro v7 w7 hown hgrow _ hat; have H7 := Lib.hid (And.intro hown (And.intro hgrow hat)); clear hown hgrow hat)
        go_roundw
        case rel =>
          refine ⟨k + 1, by omega, by go_num, F, ?_, ?_, (HB.out.2.2.1.alloc _).grown H7.out.2.1 (fun j e => (HV.out.2.1.lt j e).1), HB.out.2.2.2⟩
          · rw [HSu.out.1]
            exact local_grown (QG.local b5) H6.out HV.out.2.2.1 H7.out.2.1
          · rw [HSu.out.2]
            exact OutsAt.app (x := []) HV.out.1 HV.out.2.1 HV.out.2.2.1 HV.out.2.2.2 (World.ownsRow_nil _ _ _ _) (Nat.le_refl _) (fun j hj => by simp [Value.ownBlock] at hj) H7.out.1 H7.out.2.1 H7.out.2.2 ((QG.local b5).lt H6.out)
        case measure => simp [intOf] <;> omega
      · as_aux_lemma =>
        have hc := qgRetire hb hsm.1 th ad
        rw [do_4] at HSu HOk
        have HC := Lib.hid hc
        clear hc hb hkd
        have HSz0 := Lib.hid HB.out.2.2.1.size
        go_wp2_with (first | (go_at_call 73; refine HC.out.mono ?_; intro e w6 ho6; obtain ⟨A6, c6, F6, rfl, o6, a6, s6, d6⟩ := ho6.ints; have hO6 := HB.out.2.1.step s6; obtain ⟨vs, v1, v2, v3, v4⟩ := hO6; have HV := Lib.hid (And.intro v1 (And.intro v2 (And.intro v3 v4))); have g6 := grow_step HB.out.2.2.1 HB.out.2.2.2 s6; have HSz := Lib.hid g6.1.size; have H6 := Lib.hid (And.intro o6 (And.intro a6 (And.intro d6 g6))); clear o6 a6 s6 d6 v1 v2 v3 v4 g6 ho6) | (at_builtin; refine wpList_append_own_at _ rfl (.tmp 278) (.tmp 280) 24 rfl w.heap.size 34 iL (.slice none 0 0) 1 24 Tryz.underlying24 HL.out.1 HL.out.2.1 HL.out.2.2.1 HL.out.2.2.2 rfl (by decide) _ (outsS s0 (l.take k)).length vs rfl (HV.out.2.1.alloc _) ⟨w6.heap.size, 0, none⟩ 1 1 [.slice A6 (retS s th ad : RO).back.length c6] rfl rfl (cell_one_new w6 _ _) (by simp [Value.oneCell']) (by unfold maxLen; rw [HOl.out]; omega) (by rw [HOl.out]; omega) (by have := HSz.out; simp; omega) ?_; intro v7 w7 hown hgrow _ hat; have H7 := Lib.hid (And.intro hown (And.intro hgrow hat)); clear hown hgrow hat))
        go_roundw
        case rel =>
          refine ⟨k + 1, by omega, by go_num, F6, ?_, ?_, (H6.out.2.2.2.1.alloc _).grown H7.out.2.1 (fun j e => (HV.out.2.1.lt j e).1), H6.out.2.2.2.2⟩
          · rw [HSu.out.1]
            exact local_grown (QG.local b5) H6.out.2.1 HV.out.2.2.1 H7.out.2.1
          · rw [HSu.out.2]
            exact OutsAt.app HV.out.1 HV.out.2.1 HV.out.2.2.1 HV.out.2.2.2 H6.out.1 HSz0.out H6.out.2.2.1 H7.out.1 H7.out.2.1 H7.out.2.2 ((QG.local b5).lt H6.out.2.1)
        case measure => simp [intOf] <;> omega
      · as_aux_lemma =>
        rw [do_5] at HSu HOk
        have hst : QG b5 wb F (⟨(restS s).st, (restS s).back, 0⟩ : RO).st := by rw [rest_five hkd hb.2]; exact hb
        have hbk : (⟨(restS s).st, (restS s).back, 0⟩ : RO).back = [] := by rw [rest_five hkd hb.2]
        rw [hbk] at HSu
        have H6 := Lib.hid hst
        have hO6 := HB.out.2.1
        obtain ⟨vs, v1, v2, v3, v4⟩ := hO6
        have HV := Lib.hid (And.intro v1 (And.intro v2 (And.intro v3 v4)))
        have HSz := Lib.hid HB.out.2.2.1.size
        obtain ⟨w6, hw6⟩ : ∃ w6, w6 = wb := ⟨_, rfl⟩
        subst hw6
        clear hst hbk hb hkd v1 v2 v3 v4
        go_wp2_with (at_builtin; refine wpList_append_own_at _ rfl (.tmp 278) (.tmp 280) 24 rfl w.heap.size 34 iL (.slice none 0 0) 1 24 Tryz.underlying24 HL.out.1 HL.out.2.1 HL.out.2.2.1 HL.out.2.2.2 rfl (by decide) _ (outsS s0 (l.take k)).length vs rfl (HV.out.2.1.alloc _) ⟨w6.heap.size, 0, none⟩ 1 1 [.slice none 0 0] rfl rfl (cell_one_new w6 _ _) (by simp [Value.oneCell']) (by unfold maxLen; rw [HOl.out]; omega) (by rw [HOl.out]; omega) (by have := HSz.out; simp; omega) ?_; intro v7 w7 hown hgrow _ hat; have H7 := Lib.hid (And.intro hown (And.intro hgrow hat)); clear hown hgrow hat)
        go_roundw
        case rel =>
          refine ⟨k + 1, by omega, by go_num, F, ?_, ?_, (HB.out.2.2.1.alloc _).grown H7.out.2.1 (fun j e => (HV.out.2.1.lt j e).1), HB.out.2.2.2⟩
          · rw [HSu.out.1]
            exact local_grown (QG.local b5) H6.out HV.out.2.2.1 H7.out.2.1
          · rw [HSu.out.2]
            exact OutsAt.app (x := []) HV.out.1 HV.out.2.1 HV.out.2.2.1 HV.out.2.2.2 (World.ownsRow_nil _ _ _ _) (Nat.le_refl _) (fun j hj => by simp [Value.ownBlock] at hj) H7.out.1 H7.out.2.1 H7.out.2.2 ((QG.local b5).lt H6.out)
        case measure => simp [intOf] <;> omega
    · obtain rfl : k = l.length := by omega
      have hki : ¬ (l.length : Int) < (l.length : Int) := by omega
      have d1 := decide_eq_false hki
      obtain ⟨F, hm, hout, hg, hF⟩ := HO.out
      rw [List.take_length] at hm hout
      have hsm : Small (runS s0 l) := (HI.out.2.1.run _).small (by omega)
      have HW := Lib.hid (quWaiting hm.1 hsm.1)
      have H8 := Lib.hid (And.intro hout hg)
      clear hm hout hg hF hsm
      go_wp2_with (go_at_call 78; refine HW.out.mono ?_; intro e w9 ho9; obtain ⟨A9, c9, rfl, o9, g9⟩ := ho9.ints; have H9 := Lib.hid (And.intro o9 g9); clear o9 g9 ho9)
      go_ret3
      exact HR.out _ _ ⟨_, A9, c9, rfl, (H8.out.1.grow H9.out.2).free, own_base_le H9.out.1 H8.out.2.size, H8.out.2.trans H9.out.2⟩
end Go.Proofs.YtcgcljmnnjalpaaGreat
