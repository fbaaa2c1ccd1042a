/- GuardKeeps: what the statement's function answers. -/
import Derived.Test.YtcgcljmnnjalpaaGreatGgR
import Derived.Test.YtcgcljmnnjalpaaGreatGgU
set_option linter.unusedVariables false
set_option linter.unusedSimpArgs false
namespace Go.Proofs.YtcgcljmnnjalpaaGreat
open Go.RowKit Go.Kx
open Go.ChangeMaps (setBlock)
def skipB (t k a : Int) (d : Dd) : Bool := ((d.th == t) && (decide (d.do_ ≤ 1) || ((d.do_ == 2) && (d.ho == k)))) || ((d.do_ == 3) && (d.ad == a))
theorem skipB_no {t k a : Int} {d : Dd} (h : skipB t k a d = false) : ¬ skipD t k a d := by
  unfold skipB at h
  unfold skipD
  simp at h
  omega
theorem modN_le (x : Int) {n : Int} (h0 : 1 ≤ n) (h4 : n ≤ 4) : 0 ≤ wrap64 ((IntKind.u64.wrap x).tmod n) ∧ wrap64 ((IntKind.u64.wrap x).tmod n) < n := by
  have hx : 0 ≤ IntKind.u64.wrap x := by simp [IntKind.wrap, IntKind.bits, IntKind.signed]; omega
  have h1 : 0 ≤ (IntKind.u64.wrap x).tmod n ∧ (IntKind.u64.wrap x).tmod n < n := by
    rw [Int.tmod_eq_emod_of_nonneg hx]
    exact ⟨Int.emod_nonneg _ (by omega), Int.emod_lt_of_pos _ (by omega)⟩
  unfold wrap64
  omega
theorem OpP.ints {At : World → FP → RS → Prop} {w w' : World} {F : FP} {r : RO} {e : Ending} (h : OpP At w F r e w') : ∃ A c F', e = .returned (.tuple #[.slice A r.back.length c, .int .i64 r.err]) ∧ w'.ownsRow w.heap.size 3 1 (.slice A r.back.length c) r.back.length (r.back.map (Value.int .i64)) ∧ At w' F' r.st ∧ Step F w F' w' ∧ ∀ k, (Value.slice A r.back.length c).ownBlock = some k → ¬ F' k := by
  obtain ⟨v, F', rfl, ho, ha, hs, hd⟩ := h
  obtain ⟨A, c, rfl, _⟩ := ints_of_own (l := r.back) ho
  exact ⟨A, c, F', rfl, ho, ha, hs, hd⟩
theorem back_le (s : RS) (hn : s.n ≤ 4) (d : Dd) : (doS s d).back.length ≤ s.items.length + 1 := by
  have hr0 : (retS0 s d.th d.ad).items.length = s.items.length + 1 := by simp [retS0]
  have h0 : (outS0 s d.th.toNat).items.length = s.items.length := by simp [outS0]
  unfold doS
  split
  · unfold inS; split <;> simp
  split
  · unfold outS
    split
    · split
      · have := sweep_len (outS0 s d.th.toNat) fun _ => true; omega
      · simp
    · simp
  split
  · unfold holdS
    split
    · split
      · simp
      · split
        · have := sweep_len (holdS0 s d.th.toNat d.ho.toNat d.ad) fun _ => true
          have h1 : (holdS0 s d.th.toNat d.ho.toNat d.ad).items.length = s.items.length := rfl
          omega
        · simp
    · simp
  split
  · simp
  split
  · unfold retS
    split
    · split
      · simp
      · split
        · split
          · have := sweep_len (retS0 s d.th d.ad) fun x => x.thr == d.th; omega
          · simp
        · split
          · have := tryS_len (retS0 s d.th d.ad); omega
          · have := sweep_len (retS0 s d.th d.ad) fun _ => true; omega
    · simp
  split
  · have := rest_cnt s
    dsimp only; omega
  · simp
set_option maxRecDepth 100000 in
set_option maxHeartbeats 8000000 in
theorem keeps_any {w : World} {A B : Option Addr} {ca cb : Nat} {l m : List Dd} (h : DdAt w A l) (h2 : DdAt w B m) (k t th ho ad : Int) : Calls Tryz.prog 5 #[.agg #[.int .i64 k, .int .i64 t, .slice A l.length ca, .int .i64 th, .int .i64 ho, .int .i64 ad, .slice B m.length cb]] w (TrueP w) := by
  refine cph fun R HR => ?_
  have HD := Lib.hid h2
  have HA := Lib.hid awake_any
  have HM : Hid (∀ w1, Grow w w1 → Calls Tryz.prog 22 #[.int .i64 k, .int .i64 t, .slice A l.length ca] w1 (MadeG w1 (runS (newS (kind6 k) (thrN t).toNat) (l.take 150)) (thrN t))) := fun w1 hg => made_any (h.fr hg (fun _ h => h.elim)) k t
  have hk6 := kind6_le k
  have htn := thrN_le t
  obtain ⟨N, hN⟩ := Int.eq_ofNat_of_zero_le (a := thrN t) (by omega)
  rw [hN] at HM htn
  rw [Int.toNat_natCast] at HM
  have hinv := (inv_new (kind6 k) (n := N) (by omega) (by omega)).run (l.take 150)
  have hfew : Few 150 (runS (newS (kind6 k) N) (l.take 150)) := ((few_new (kind6 k) (n := N) (by omega)).run (l.take 150)).mono (by simp; omega)
  have hnn : (runS (newS (kind6 k) N) (l.take 150)).n = N := runS_n (newS (kind6 k) N) (l.take 150)
  generalize runS (newS (kind6 k) N) (l.take 150) = s1 at HM hinv hfew hnn
  have hNw : IntKind.u64.wrap (N : Int) = N := by rw [IntKind.wrap_u64]; omega
  obtain ⟨hT0, hT1⟩ := modN_le th (n := (N : Int)) (by omega) (by omega)
  obtain ⟨T, hT⟩ := Int.eq_ofNat_of_zero_le hT0
  obtain ⟨hK0, hK1⟩ := modN_le ho (n := 3) (by omega) (by omega)
  obtain ⟨K, hK⟩ := Int.eq_ofNat_of_zero_le hK0
  have hTN : T < N := by omega
  have hK3 : K < 3 := by omega
  have hst := fun ha hw => keep_start (a := ad) hinv (t := T) (k := K) (by omega) hK3 ha hw
  have hin0 : (inS s1 (T : Int)).err = 0 := by simp [inS, okTh, hnn, hTN]
  have hf2 : Few 151 (inS s1 (T : Int)).st := hfew.do ⟨0, T, 0, 0⟩
  have HI := Lib.hid (And.intro hinv (And.intro hfew (And.intro hst hf2)))
  have HI0 := Lib.hid hin0
  -- the box of the case
  have hga := (Grow.refl w).alloc (Obj.cells #[.int .i64 k, .int .i64 t, .slice A l.length ca, .int .i64 th, .int .i64 ho, .int .i64 ad, .slice B m.length cb] 47)
  have hna := blk_new w (Obj.cells #[.int .i64 k, .int .i64 t, .slice A l.length ca, .int .i64 th, .int .i64 ho, .int .i64 ad, .slice B m.length cb] 47)
  obtain ⟨wa, hwa⟩ : ∃ wa, w.alloc (Obj.cells #[.int .i64 k, .int .i64 t, .slice A l.length ca, .int .i64 th, .int .i64 ho, .int .i64 ad, .slice B m.length cb] 47) = wa := ⟨_, rfl⟩
  rw [hwa] at hga hna
  have a0 := (blk_cell hna 0).trans (rfl : _ = some (Value.int .i64 k))
  have a1 := (blk_cell hna 1).trans (rfl : _ = some (Value.int .i64 t))
  have a2 := (blk_cell hna 2).trans (rfl : _ = some (Value.slice A l.length ca))
  have a3 := (blk_cell hna 3).trans (rfl : _ = some (Value.int .i64 th))
  have a4 := (blk_cell hna 4).trans (rfl : _ = some (Value.int .i64 ho))
  have a5 := (blk_cell hna 5).trans (rfl : _ = some (Value.int .i64 ad))
  have a6 := (blk_cell hna 6).trans (rfl : _ = some (Value.slice B m.length cb))
  have HGa := Lib.hid hga
  clear hinv hfew hst hf2 hin0 hga hna h h2 hN hT0 hT1 hK0 hK1
  go_enter Tryz.func5, Tryz.ntmps5
  go_upto_region 1 with fail
  go_quiet (fail)
  have hgX : Grow w (wa.drewN nq) := HGa.out.drewN nq
  clear a0 a1 a2 a3 a4 a5 a6
  generalize wa.drewN nq = wX at hgX ⊢
  have HGX := Lib.hid hgX
  clear hgX
  obtain ⟨s2, hs2⟩ : ∃ s2, (inS s1 (T : Int)).st = s2 := ⟨_, rfl⟩
  have HS2 := Lib.hid hs2
  have hlen : (addrs s2).length ≤ 1000000 := by
    have := HI.out.2.2.2.1
    rw [hs2] at this
    rw [addrs_len]; omega
  clear hs2
  go_upto_region 12 with (first | (go_at_call 13; refine (HA.out _).mono ?_; rintro e w1 ⟨rfl, hg1⟩; have HM1 := Lib.hid (HM.out w1 (HGX.out.trans hg1)); have HG1 := Lib.hid (HGX.out.trans hg1); clear hg1) | (go_at_call 22; refine HM1.out.mono ?_; rintro e w2 ⟨G, F, rfl, hA, hg, hF⟩; have HIn := Lib.hid (gmIn hA (HI.out.2.1.small (by omega)) (T : Int)); have H1 := Lib.hid (And.intro (HG1.out.trans hg) (fun j hj => Nat.le_trans HG1.out.size (hF j hj))); clear hA hg hF) | (go_at_call 23; refine HIn.out.mono ?_; rintro e w3 ⟨v3, F3, rfl, _, hA3, hs3, _⟩; rw [HI0.out]; rw [HS2.out] at hA3; have hsm2 := HI.out.2.2.2.small (by omega); rw [HS2.out] at hsm2; have HW := Lib.hid (gmWaiting hA3 hsm2); have H3 := Lib.hid (And.intro hA3 (And.intro (grow_step H1.out.1 H1.out.2 hs3) hsm2)); clear hA3 hs3 hsm2))
  cases hmem : decide (ad ∈ addrs s2)
  · have HMem := Lib.hid hmem
    by_cases ha : ad ≤ 0
    · clear hmem
      go_wp2_with (first | (go_at_call 21; refine HW.out.mono ?_; intro e w4 ho; obtain ⟨A4, c4, rfl, o4, g4⟩ := ho.ints; have hh := hasI_any (cap := c4) ad (ints_own o4) hlen; rw [HMem.out] at hh; have HHas := Lib.hid hh; have H4 := Lib.hid (H3.out.2.1.1.trans g4); clear o4 g4 ho hh) | (go_at_call 24; refine HHas.out.mono ?_; rintro e w' ⟨rfl, rfl⟩))
      exact HR.out _ _ ⟨rfl, H4.out⟩
    · have hst := HI.out.2.2.1 (by omega) (by rw [HS2.out, waits_mem]; exact hmem)
      rw [HS2.out] at hst
      have HE5 := Lib.hid hst.2.2
      have HKI := Lib.hid hst.1
      have hf2 := HI.out.2.2.2
      rw [HS2.out] at hf2
      have HF3 : Hid (Few 152 (holdS s2 (T : Int) (K : Int) ad).st) := hf2.do ⟨2, T, K, ad⟩
      clear hmem hst hf2
      go_wp2_with (first | (go_at_call 21; refine HW.out.mono ?_; intro e w4 ho; obtain ⟨A4, c4, rfl, o4, g4⟩ := ho.ints; have hh := hasI_any (cap := c4) ad (ints_own o4) hlen; rw [HMem.out] at hh; have HHas := Lib.hid hh; have h4 := (GM.local G).fr H3.out.1 (G := fun _ => False) g4 (fun _ _ h => h); have HHo := Lib.hid (gmHold h4 H3.out.2.2 (T : Int) (K : Int) ad); have H4 := Lib.hid (And.intro (H3.out.2.1.1.trans g4) H3.out.2.1.2); clear o4 g4 ho hh h4) | (go_at_call 24; refine HHas.out.mono ?_; rintro e w' ⟨rfl, rfl⟩) | (go_at_call 25; refine HHo.out.mono ?_; rintro e w5 ⟨v5, F5, rfl, _, hA5, hs5, _⟩; rw [HE5.out]; have H5 := Lib.hid (And.intro hA5 (grow_step H4.out.1 H4.out.2 hs5)); clear hA5 hs5))
      go_loopw [18] (fun i wr => ∃ j : Nat, j ≤ m.length ∧ j ≤ 150 ∧ i = .int .i64 j ∧ Hid (∃ F s', GM G wr F s' ∧ KI s' T K ad ∧ Few (152 + j) s' ∧ Grow w wr ∧ ∀ j, F j → w.heap.size ≤ j)) (fun i _ => m.length - (intOf i).toNat)
      case atStart => exact ⟨0, Nat.zero_le _, by omega, rfl, F5, _, H5.out.1, HKI.out, HF3.out, H5.out.2.1, H5.out.2.2⟩
      case round =>
        obtain ⟨j, hj, hj150, rfl, HO⟩ := hrel
        by_cases hlt : j < m.length ∧ j < 150
        · obtain ⟨hlt, hlt2⟩ := hlt
          have hki : (j : Int) < (m.length : Int) := by omega
          have hki2 : (j : Int) < 150 := by omega
          obtain ⟨d, hd⟩ : ∃ d, m[j]? = some d := ⟨m[j], by simp [hlt]⟩
          obtain ⟨Fr1, s', hm, hki', hfw, hg, hF⟩ := HO.out
          have hdd := HD.out.fr hg (fun _ h => h.elim)
          obtain ⟨b, off, rfl, hcs⟩ := hdd.resolve_left (by intro e; rw [e] at hlt; simp at hlt)
          obtain ⟨c0, c1, c2, c3⟩ := hcs j d hd
          have H2 := Lib.hid (And.intro hm (And.intro hki' (And.intro hfw (And.intro hg hF))))
          clear hd hm hki' hfw hg hF hdd hcs
          have hgb := (Grow.refl wr).alloc (Obj.cells #[.int .i64 d.do_, .int .i64 d.th, .int .i64 d.ho, .int .i64 d.ad] 32)
          have hnb := blk_new wr (Obj.cells #[.int .i64 d.do_, .int .i64 d.th, .int .i64 d.ho, .int .i64 d.ad] 32)
          obtain ⟨wb, hwb⟩ : ∃ wb, wr.alloc (Obj.cells #[.int .i64 d.do_, .int .i64 d.th, .int .i64 d.ho, .int .i64 d.ad] 32) = wb := ⟨_, rfl⟩
          rw [hwb] at hgb hnb
          have b0 := (blk_cell hnb 0).trans (rfl : _ = some (Value.int .i64 d.do_))
          have b1 := (blk_cell hnb 1).trans (rfl : _ = some (Value.int .i64 d.th))
          have b2 := (blk_cell hnb 2).trans (rfl : _ = some (Value.int .i64 d.ho))
          have b3 := (blk_cell hnb 3).trans (rfl : _ = some (Value.int .i64 d.ad))
          have HB := Lib.hid hgb
          clear hgb hnb
          go_upto_region 21 with fail
          go_cut [127] (fun v wx => v = .bool (skipB T K ad d) ∧ wb = wx)
          case first =>
            have HSK : Hid (skipB T K ad d = (((d.th == (T : Int)) && (decide (d.do_ ≤ 1) || ((d.do_ == 2) && (d.ho == (K : Int))))) || ((d.do_ == 3) && (d.ad == ad)))) := rfl
            cases q1 : (d.th == (T : Int))
            · cases q5 : (d.do_ == 3)
              · (go_wp2_with fail; go_meet; exact ⟨by simp [skipB, *], rfl⟩)
              · cases q6 : (d.ad == ad)
                · (go_wp2_with fail; go_meet; exact ⟨by simp [skipB, *], rfl⟩)
                · (go_wp2_with fail; go_meet; exact ⟨by simp [skipB, *], rfl⟩)
            · by_cases q2 : d.do_ ≤ 1
              · have q2' := decide_eq_true q2
                (go_wp2_with fail; go_meet; exact ⟨by simp [skipB, *], rfl⟩)
              · have q2' := decide_eq_false q2
                cases q3 : (d.do_ == 2)
                · cases q5 : (d.do_ == 3)
                  · (go_wp2_with fail; go_meet; exact ⟨by simp [skipB, *], rfl⟩)
                  · cases q6 : (d.ad == ad)
                    · (go_wp2_with fail; go_meet; exact ⟨by simp [skipB, *], rfl⟩)
                    · (go_wp2_with fail; go_meet; exact ⟨by simp [skipB, *], rfl⟩)
                · cases q4 : (d.ho == (K : Int))
                  · cases q5 : (d.do_ == 3)
                    · (go_wp2_with fail; go_meet; exact ⟨by simp [skipB, *], rfl⟩)
                    · cases q6 : (d.ad == ad)
                      · (go_wp2_with fail; go_meet; exact ⟨by simp [skipB, *], rfl⟩)
                      · (go_wp2_with fail; go_meet; exact ⟨by simp [skipB, *], rfl⟩)
                  · (go_wp2_with fail; go_meet; exact ⟨by simp [skipB, *], rfl⟩)
          case rest =>
            obtain ⟨rfl, rfl⟩ := hcut
            have hm' := (GM.local G).fr H2.out.1 (G := fun _ => False) HB.out (fun _ _ h => h)
            have hg' := H2.out.2.2.2.1.trans HB.out
            cases hsk : skipB T K ad d
            · have hdo := H2.out.2.1.do d (skipB_no hsk)
              have hsm := H2.out.2.2.1.small (by omega)
              have hfd := H2.out.2.2.1.do d
              have hbl := back_le s' H2.out.2.2.1.2.2 d
              have hbl2 : (doS s' d).back.length ≤ 1000000 := by have := hsm.1; omega
              have hno : decide (ad ∈ (doS s' d).back) = false := decide_eq_false hdo.1
              have HNo := Lib.hid (And.intro hno (And.intro hdo.2 hfd))
              have HDo := Lib.hid (gmDo hm' hsm d)
              have HG' := Lib.hid hg'
              clear hm' hg' hsk hdo hsm hfd hbl hno
              go_wp2_with (first | (go_at_call 20; refine HDo.out.mono ?_; intro e w6 ho; obtain ⟨A6, c6, F6, rfl, o6, a6, s6, d6⟩ := ho.ints; have hh := hasI_any (cap := c6) ad (ints_own o6) hbl2; rw [HNo.out.1] at hh; have HHas2 := Lib.hid hh; have H6 := Lib.hid (And.intro a6 (grow_step HG'.out H2.out.2.2.2.2 s6)); clear o6 a6 s6 d6 hh ho) | (go_at_call 24; refine HHas2.out.mono ?_; rintro e w' ⟨rfl, rfl⟩))
              go_roundw
              case rel => exact ⟨j + 1, by omega, by omega, by go_num, F6, _, H6.out.1, HNo.out.2.1, HNo.out.2.2, H6.out.2.1, H6.out.2.2⟩
              case measure => simp [intOf] <;> omega
            · have HQ := Lib.hid (And.intro hm' hg')
              clear hm' hg' hsk
              go_wp2_with fail
              go_roundw
              case rel => exact ⟨j + 1, by omega, by omega, by go_num, Fr1, s', HQ.out.1, H2.out.2.1, H2.out.2.2.1.mono (by omega), HQ.out.2, H2.out.2.2.2.2⟩
              case measure => simp [intOf] <;> omega
        · have d12 : (¬ (j : Int) < (m.length : Int)) ∨ ((j : Int) < (m.length : Int) ∧ ¬ (j : Int) < 150) := by omega
          obtain ⟨Fr1, s', hm, hki', hfw, hg, hF⟩ := HO.out
          have H9 := Lib.hid hg
          clear hm hki' hfw hg hF hlt
          rcases d12 with hki | ⟨hki, hki2⟩
          · have d1 := decide_eq_false hki
            go_wp2_with fail
            exact HR.out _ _ ⟨rfl, H9.out⟩
          · have d2 := decide_eq_false hki2
            go_wp2_with fail
            exact HR.out _ _ ⟨rfl, H9.out⟩
  · have HMem := Lib.hid hmem
    clear hmem
    go_wp2_with (first | (go_at_call 21; refine HW.out.mono ?_; intro e w4 ho; obtain ⟨A4, c4, rfl, o4, g4⟩ := ho.ints; have hh := hasI_any (cap := c4) ad (ints_own o4) hlen; rw [HMem.out] at hh; have HHas := Lib.hid hh; have H4 := Lib.hid (H3.out.2.1.1.trans g4); clear o4 g4 ho hh) | (go_at_call 24; refine HHas.out.mono ?_; rintro e w' ⟨rfl, rfl⟩))
    exact HR.out _ _ ⟨rfl, H4.out⟩
end Go.Proofs.YtcgcljmnnjalpaaGreat
