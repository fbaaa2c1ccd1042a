/- GuardRests: what the statement's function answers. -/
import Derived.Test.YtcgcljmnnjalpaaGreatGgF
import Derived.Test.YtcgcljmnnjalpaaGreatGxL
import Derived.Test.YtcgcljmnnjalpaaGreatGxA
set_option linter.unusedVariables false
set_option linter.unusedSimpArgs false
namespace Go.Proofs.YtcgcljmnnjalpaaGreat
open Go.RowKit Go.Kx
open Go.ChangeMaps (setBlock)
theorem runS_kind (s : RS) (l : List Dd) : (runS s l).kind = s.kind := by
  induction l generalizing s with
  | nil => rfl
  | cons d l ih => exact (ih (doS s d).st).trans (do_kind s d)
theorem runS_n (s : RS) (l : List Dd) : (runS s l).n = s.n := by
  induction l generalizing s with
  | nil => rfl
  | cons d l ih => exact (ih (doS s d).st).trans (do_n s d)
theorem out_err {s : RS} {t : Int} (h : okTh s t = true) : (outS s t).err = 0 := by
  unfold outS
  rw [if_pos h]
  split <;> rfl
theorem rest_err (s : RS) : (restS s).err = 0 := by
  unfold restS
  split
  · cases hs : (List.range s.n).map fun (t : Nat) (s : RS) => sweepS s (fun x => x.thr == (t : Int)) <;> rfl
  · split <;> rfl
/-- What lies beside a guard stays as it is. -/
theorem beside {w w' : World} {F F' : FP} {base : Nat} {e : TypeId} {sz n : Nat} {v : Value} {xs : List Value} (h : w.ownsRow base e sz v n xs) (hd : ∀ k, v.ownBlock = some k → ¬ F k) (hs : Step F w F' w') : w'.ownsRow base e sz v n xs ∧ ∀ k, v.ownBlock = some k → ¬ F' k := own_keep h hd hs
theorem WaitP.ints {w w' : World} {s : RS} {e : Ending} (h : WaitP w s e w') : ∃ A c, e = .returned (.slice A (addrs s).length c) ∧ w'.ownsRow w.heap.size 3 1 (.slice A (addrs s).length c) (addrs s).length ((addrs s).map (Value.int .i64)) ∧ Grow w w' := by
  obtain ⟨v, rfl, ho, hg⟩ := h
  rw [wait_ints, ← addrs_len] at ho
  obtain ⟨A, c, rfl, _⟩ := ints_of_own (l := addrs s) ho
  exact ⟨A, c, rfl, ho, hg⟩
theorem OpL.ints {At : World → FP → RS → Prop} {w w' : World} {F : FP} {r : RO} {e : Ending} (h : OpL At w F r e w') : ∃ A c F', e = .returned (.slice A r.back.length c) ∧ w'.ownsRow w.heap.size 3 1 (.slice A r.back.length c) r.back.length (r.back.map (Value.int .i64)) ∧ At w' F' r.st ∧ Step F w F' w' ∧ ∀ k, (Value.slice A r.back.length c).ownBlock = some k → ¬ F' k := by
  obtain ⟨v, F', rfl, ho, ha, hs, hd⟩ := h
  obtain ⟨A, c, rfl, _⟩ := ints_of_own (l := r.back) ho
  exact ⟨A, c, F', rfl, ho, ha, hs, hd⟩
theorem ints_own {w : World} {base : Nat} {A : Option Addr} {m c : Nat} {l : List Int} (h : w.ownsRow base 3 1 (.slice A m c) l.length (l.map (Value.int .i64))) : IntsAt w A l := by
  obtain ⟨A', c', e, hi, _⟩ := ints_of_own h
  injection e with e1 e2 e3
  rw [e1]; exact hi
set_option maxRecDepth 100000 in
set_option maxHeartbeats 8000000 in
theorem rests_any {w : World} {A : Option Addr} {cap : Nat} {l : List Dd} (h : DdAt w A l) (k t : Int) : Calls Tryz.prog 7 #[.int .i64 k, .int .i64 t, .slice A l.length cap] w (TrueP w) := by
  refine cph fun R HR => ?_
  have HA := Lib.hid (awake_any w)
  have HK := Lib.hid (fun w => kindOf_any k w)
  have HM : Hid (∀ w1, Grow w w1 → Calls Tryz.prog 22 #[.int .i64 k, .int .i64 t, .slice A l.length cap] w1 (MadeG w1 (runS (newS (kind6 k) (thrN t).toNat) (l.take 150)) (thrN t))) := fun w1 hg => made_any (h.fr hg (fun _ h => h.elim)) k t
  have hk6 := kind6_le k
  have htn := thrN_le t
  obtain ⟨N, hN⟩ := Int.eq_ofNat_of_zero_le (a := thrN t) (by omega)
  rw [hN] at HM htn
  rw [Int.toNat_natCast] at HM
  have hinv := (inv_new (kind6 k) (n := N) (by omega) (by omega)).run (l.take 150)
  have hfew := (few_new (kind6 k) (n := N) (by omega)).run (l.take 150)
  have hkd := runS_kind (newS (kind6 k) N) (l.take 150)
  have hnn := runS_n (newS (kind6 k) N) (l.take 150)
  have hfew1 : Few 150 (runS (newS (kind6 k) N) (l.take 150)) := hfew.mono (by simp; omega)
  generalize runS (newS (kind6 k) N) (l.take 150) = s1 at HM hinv hfew1 hkd hnn
  have HI := Lib.hid (And.intro hinv hfew1)
  have hn1 : s1.n = N := hnn
  have hkd1 : s1.kind = kind6 k := hkd
  have HKN := Lib.hid (And.intro hn1 hkd1)
  have hN4 : N ≤ 4 := by omega
  -- the plain end
  have hL := left_run (s := s1) N (by omega)
  have hi2 := hinv.run (outD N)
  have hf2 : Few 160 (runS s1 (outD N)) := (hfew1.run (outD N)).mono (by simp [outD]; omega)
  have hk2 : (runS s1 (outD N)).kind = kind6 k := (runS_kind _ _).trans hkd1
  have hleft : Left (runS s1 (outD N)) := left_all hi2 (by rw [hL.2, hn1]; exact hL.1)
  have HP := Lib.hid (And.intro hi2 (And.intro hf2 (And.intro hk2 hleft)))
  clear hinv hfew hkd hnn hfew1 hn1 hkd1 hL hi2 hf2 hk2 hleft hN h
  have hle : ∀ (s : RS) , Small s → (addrs s).length ≤ 1000000 := fun s h => by rw [addrs_len]; have := h.1; omega
  generalize hs2 : runS s1 (outD N) = s2 at HP
  have HS2 := Lib.hid hs2
  clear hs2
  go_enter Tryz.func7, Tryz.ntmps7
  go_wp2_with (first | (go_at_call 13; refine HA.out.mono ?_; rintro e w1 ⟨rfl, hg1⟩; have HM1 := Lib.hid (HM.out w1 hg1); have HG1 := Lib.hid hg1; clear hg1) | (go_at_call 22; refine HM1.out.mono ?_; rintro e w2 ⟨G, F, rfl, hA, hg, hF⟩; have H1 := Lib.hid (And.intro hA (And.intro (HG1.out.trans hg) (fun j hj => Nat.le_trans HG1.out.size (hF j hj)))); clear hA hg hF))
  go_loopw [9] (fun i wr => ∃ k : Nat, k ≤ N ∧ i = .int .i64 k ∧ Hid (∃ F, GM G wr F (runS s1 (outD k)) ∧ Grow w wr ∧ ∀ j, F j → w.heap.size ≤ j)) (fun i _ => N - (intOf i).toNat)
  case atStart => exact ⟨0, Nat.zero_le _, rfl, F, H1.out.1, H1.out.2.1, H1.out.2.2⟩
  case round =>
    obtain ⟨kk, hkk, rfl, HO⟩ := hrel
    by_cases hlt : kk < N
    · have hki : (kk : Int) < (N : Int) := by omega
      obtain ⟨F1, hm, hg, hF⟩ := HO.out
      have hsm : Small (runS s1 (outD kk)) := (HI.out.2.run (outD kk)).small (by simp [outD]; omega)
      have hok : okTh (runS s1 (outD kk)) (kk : Int) = true := by
        have := runS_n s1 (outD kk)
        rw [HKN.out.1] at this
        simp [okTh, this, hlt]
      have hout : Calls Tryz.prog 26 #[.pointer (some ⟨G, 0, none⟩), .int .i64 kk] wr fun e w' => ∃ v, e = .returned (.tuple #[v, .int .i64 0]) ∧ ∃ F', GM G w' F' (runS s1 (outD (kk + 1))) ∧ Step F1 wr F' w' := (gmOut hm hsm (kk : Int)).mono fun e w' ho => by
        obtain ⟨v, F', h1, _, h3, h4, _⟩ := ho
        rw [out_err hok] at h1
        exact ⟨v, h1, F', by rw [runS_out]; exact h3, h4⟩
      have HOu := Lib.hid hout
      have H2 := Lib.hid (And.intro hg hF)
      clear hm hg hF hsm hok hout
      go_wp2_with (go_at_call 26; refine HOu.out.mono ?_; rintro e w3 ⟨v3, rfl, hx⟩; have H3 := Lib.hid hx; clear hx)
      go_roundw
      case rel =>
        obtain ⟨F', h3, h4⟩ := H3.out
        exact ⟨kk + 1, by omega, by go_num, F', h3, grow_step H2.out.1 H2.out.2 h4⟩
      case measure => simp [intOf] <;> omega
    · obtain rfl : kk = N := by omega
      have hki : ¬ ((kk : Nat) : Int) < (kk : Int) := by omega
      obtain ⟨F1, hm, hg, hF⟩ := HO.out
      rw [HS2.out] at hm
      have hsm := HP.out.2.1.small (by omega)
      have hfl := (GM.local G).lt hm
      have HW1 := Lib.hid (gmWaiting hm hsm)
      have HQ := Lib.hid (And.intro hm (And.intro hg (And.intro hF (And.intro hsm hfl))))
      have hc3 := rest_cnt s2
      have hc4 := rest_cnt (restS s2).st
      have hsm3 : Small (restS s2).st := ⟨by have := hsm.1; omega, by have := (rest_sz s2 HP.out.2.1.2.2).2; have := HP.out.2.1.2.1; omega⟩
      have hsm4 : Small (restS (restS s2).st).st := ⟨by have := hsm3.1; omega, by
        have h1 := (rest_sz s2 HP.out.2.1.2.2).2
        have h2 := (rest_sz (restS s2).st (by rw [(Sub.rest s2).n]; exact HP.out.2.1.2.2)).2
        have := HP.out.2.1.2.1
        omega⟩
      have HSm3 := Lib.hid hsm3
      have HSm4 := Lib.hid hsm4
      have hbd := hle s2 hsm
      have HB := Lib.hid hbd
      by_cases hk0 : kind6 k = 0
      · have hr := rest_leak (HP.out.2.2.1.trans hk0)
        have hr4 : (restS (restS s2).st).st = s2 ∧ (restS (restS s2).st).back = [] := by rw [hr, hr]; exact ⟨rfl, rfl⟩
        have HL3 : Hid ((restS s2).back.length = 0) := by rw [hr]; rfl
        have HL4 : Hid ((restS (restS s2).st).back.length = 0) := by rw [hr4.2]; rfl
        have HE := Lib.hid hr4.1
        obtain ⟨M, hM⟩ : ∃ M, (addrs s2).length = M := ⟨_, rfl⟩
        have HL2 := Lib.hid hM
        have hMb : M ≤ 1000000 := by omega
        clear hm hg hF hfl hc3 hc4 hsm hsm3 hsm4 hr hr4 hM hbd
        go_wp2_with (first | (go_at_call 28; refine (HK.out _).mono ?_; rintro e w' ⟨rfl, rfl⟩) | (go_at_call 16; refine HS.out.mono ?_; rintro e w8 ⟨rfl, g8⟩; have H8 := Lib.hid (H7.out.trans g8); clear g8) | (go_at_call 21; refine HW2.out.mono ?_; rw [HE.out]; intro e w7 ho; obtain ⟨A7, c7, rfl, o7, g7⟩ := ho.ints; have hs := sameI_any (ca := c7) (cb := c4) (ints_own o7) (ints_own (owns_grow H6.out.2.1 g7)) HB.out HB.out; rw [decide_eq_true rfl, HL2.out] at hs; rw [HL2.out]; have HS := Lib.hid hs; have H7 := Lib.hid (H6.out.1.1.trans g7); clear o7 g7 ho hs) | (go_at_call 27; refine HR2.out.mono ?_; intro e w6 ho; obtain ⟨A6, c6, F6, rfl, o6, a6, s6, d6⟩ := ho.ints; rw [HL4.out]; have k6 := beside H5.out.2.1 H5.out.2.2 s6; have g6 := grow_step H5.out.1.1 H5.out.1.2 s6; have HW2 := Lib.hid (gmWaiting a6 HSm4.out); have H6 := Lib.hid (And.intro g6 k6); clear o6 a6 s6 d6 k6 g6 ho) | (go_at_call 27; refine HR1.out.mono ?_; intro e w5 ho; obtain ⟨A5, c5, F5, rfl, o5, a5, s5, d5⟩ := ho.ints; rw [HL3.out]; have k5 := beside H4.out.2.1 H4.out.2.2 s5; have g5 := grow_step H4.out.1 HQ.out.2.2.1 s5; have HR2 := Lib.hid (gmRest a5 HSm3.out); have H5 := Lib.hid (And.intro g5 k5); clear o5 a5 s5 d5 k5 g5 ho) | (go_at_call 21; refine HW1.out.mono ?_; intro e w4 ho; obtain ⟨A4, c4, rfl, o4, g4⟩ := ho.ints; rw [HL2.out]; have h4 := (GM.local G).fr HQ.out.1 (G := fun _ => False) g4 (fun _ _ h => h); have HR1 := Lib.hid (gmRest h4 HQ.out.2.2.2.1); have H4 := Lib.hid (And.intro (HQ.out.2.1.trans g4) (And.intro o4 (show ∀ j, (Value.slice A4 (addrs s2).length c4).ownBlock = some j → ¬ F1 j from fun j hj hf => by have := (o4.lt j hj).1; have := HQ.out.2.2.2.2 j hf; omega))); clear h4 o4 g4 ho))
        exact HR.out _ _ ⟨rfl, H8.out⟩
      · have hra := rest_all HP.out.1 HP.out.2.2.2 (by rw [HP.out.2.2.1]; omega)
        rw [hra] at hc3 hc4
        simp only [List.length_nil, Nat.add_zero] at hc3 hc4
        have HL3 : Hid ((restS s2).back.length = (addrs s2).length) := by rw [addrs_len]; exact hc3
        have HL4 : Hid ((restS (restS s2).st).back.length = 0) := by show _ = _; omega
        have HL7 : Hid ((addrs (restS (restS s2).st).st).length = 0) := by show _ = _; rw [addrs_len]; omega
        obtain ⟨M, hM⟩ : ∃ M, (addrs s2).length = M := ⟨_, rfl⟩
        have HL2 := Lib.hid hM
        have hMb : M ≤ 1000000 := by omega
        clear hm hg hF hfl hc3 hc4 hsm hsm3 hsm4 hra hM hbd
        go_wp2_with (first | (go_at_call 28; refine (HK.out _).mono ?_; rintro e w' ⟨rfl, rfl⟩) | (go_at_call 21; refine HW2.out.mono ?_; intro e w7 ho; obtain ⟨A7, c7, rfl, o7, g7⟩ := ho.ints; rw [HL7.out]; have H7 := Lib.hid (H6.out.1.1.trans g7); clear o7 g7 ho) | (go_at_call 27; refine HR2.out.mono ?_; intro e w6 ho; obtain ⟨A6, c6, F6, rfl, o6, a6, s6, d6⟩ := ho.ints; rw [HL4.out]; have k6 := beside H5.out.2.1 H5.out.2.2 s6; have g6 := grow_step H5.out.1.1 H5.out.1.2 s6; have HW2 := Lib.hid (gmWaiting a6 HSm4.out); have H6 := Lib.hid (And.intro g6 k6); clear o6 a6 s6 d6 k6 g6 ho) | (go_at_call 27; refine HR1.out.mono ?_; intro e w5 ho; obtain ⟨A5, c5, F5, rfl, o5, a5, s5, d5⟩ := ho.ints; rw [HL3.out, HL2.out]; have k5 := beside H4.out.2.1 H4.out.2.2 s5; have g5 := grow_step H4.out.1 HQ.out.2.2.1 s5; have HR2 := Lib.hid (gmRest a5 HSm3.out); have H5 := Lib.hid (And.intro g5 k5); clear o5 a5 s5 d5 k5 g5 ho) | (go_at_call 21; refine HW1.out.mono ?_; intro e w4 ho; obtain ⟨A4, c4, rfl, o4, g4⟩ := ho.ints; rw [HL2.out]; have h4 := (GM.local G).fr HQ.out.1 (G := fun _ => False) g4 (fun _ _ h => h); have HR1 := Lib.hid (gmRest h4 HQ.out.2.2.2.1); have H4 := Lib.hid (And.intro (HQ.out.2.1.trans g4) (And.intro o4 (show ∀ j, (Value.slice A4 (addrs s2).length c4).ownBlock = some j → ¬ F1 j from fun j hj hf => by have := (o4.lt j hj).1; have := HQ.out.2.2.2.2 j hf; omega))); clear h4 o4 g4 ho))
        exact HR.out _ _ ⟨rfl, H7.out⟩
end Go.Proofs.YtcgcljmnnjalpaaGreat
