/- GuardSame: what the statement's function answers. -/
import Derived.Test.YtcgcljmnnjalpaaGreatGhB1
import Derived.Test.YtcgcljmnnjalpaaGreatGhB2
import Derived.Test.YtcgcljmnnjalpaaGreatGhB3
import Derived.Test.YtcgcljmnnjalpaaGreatGhB4
import Derived.Test.YtcgcljmnnjalpaaGreatGhB5
set_option linter.unusedVariables false
set_option linter.unusedSimpArgs false
namespace Go.Proofs.YtcgcljmnnjalpaaGreat
open Go.RowKit Go.Kx
open Go.ChangeMaps (setBlock)
theorem mgr_any {w : World} {A : Option Addr} {cap : Nat} {l : List Dd} (h : DdAt w A l) {n : Nat} (h1 : 1 ≤ n) (h4 : n ≤ 4) (hv : ∀ d ∈ l, 0 ≤ d.do_ ∧ d.do_ ≤ 5) (hl : l.length ≤ 150) {k : Int} (hk : 1 ≤ k ∧ k ≤ 5) : Calls Tryz.prog 19 #[.int .i64 k, .int .i64 n, .slice A l.length cap] w (MgrP w (outsS (newS k n) l) (addrs (runS (newS k n) l))) := by
  obtain rfl | rfl | rfl | rfl | rfl : k = 1 ∨ k = 2 ∨ k = 3 ∨ k = 4 ∨ k = 5 := by omega
  · exact mgr1 h h1 h4 hv hl
  · exact mgr2 h h1 h4 hv hl
  · exact mgr3 h h1 h4 hv hl
  · exact mgr4 h h1 h4 hv hl
  · exact mgr5 h h1 h4 hv hl
theorem infoD : ((Tryz.prog.info? 32).map fun i => (i.zero, i.size, i.bytes)) = some (some (.agg #[.int .i64 0, .int .i64 0, .int .i64 0, .int .i64 0]), 4, 32) := by kernel_rfl
def normD (d : Dd) : Dd := ⟨kind6 d.do_, d.th, d.ho, d.ad⟩
theorem encD_len (d : Dd) : (encD d).length = 4 := rfl
theorem dd_of_own {w : World} {base : Nat} {v : Value} {l : List Dd} (h : w.ownsRow base 32 4 v l.length (l.flatMap encD)) : ∃ A c, v = .slice A l.length c ∧ DdAt w A l := by
  rcases own_val h with ⟨rfl, h0⟩ | ⟨g, cap, rfl, _⟩
  · have : l = [] := List.eq_nil_of_length_eq_zero h0
    subst this
    exact ⟨none, 0, rfl, .inl rfl⟩
  · refine ⟨_, cap, rfl, .inr ⟨g, 0, rfl, fun j d hd => ?_⟩⟩
    have q0 := (own_at encD_len h hd (o := 0) (by omega)).trans (rfl : _ = some (Value.int .i64 d.do_))
    have q1 := (own_at encD_len h hd (o := 1) (by omega)).trans (rfl : _ = some (Value.int .i64 d.th))
    have q2 := (own_at encD_len h hd (o := 2) (by omega)).trans (rfl : _ = some (Value.int .i64 d.ho))
    have q3 := (own_at encD_len h hd (o := 3) (by omega)).trans (rfl : _ = some (Value.int .i64 d.ad))
    rw [Nat.zero_add]
    exact ⟨q0, q1, q2, q3⟩
theorem mod5_le (x : Int) : 0 ≤ wrap64 ((IntKind.u64.wrap x).tmod 5) ∧ wrap64 ((IntKind.u64.wrap x).tmod 5) < 5 := by
  have hx : 0 ≤ IntKind.u64.wrap x := by simp [IntKind.wrap, IntKind.bits, IntKind.signed]; omega
  have h1 : 0 ≤ (IntKind.u64.wrap x).tmod 5 ∧ (IntKind.u64.wrap x).tmod 5 < 5 := by
    rw [Int.tmod_eq_emod_of_nonneg hx]
    omega
  unfold wrap64
  omega
theorem OutsAt.into {B0 : Nat} {F : FP} {ls : List (List Int)} {u : Value} {w : World} (h : OutsAt B0 (fun _ => False) ls u w) (hF : ∀ j, F j → j < B0) : OutsAt B0 F ls u w := by
  obtain ⟨vs, h1, h2, h3, h4⟩ := h
  exact ⟨vs, h1, h2, fun j hj hf => by have := (h2.lt j hj).1; have := hF j hf; omega, fun i x hx => by
    obtain ⟨v, p1, p2, p3⟩ := h4 i x hx
    exact ⟨v, p1, p2, fun j hj hf => by have := (p2.lt j hj).1; have := hF j hf; omega⟩⟩
theorem OutsAt.sl {B0 : Nat} {F : FP} {ls : List (List Int)} {u : Value} {w : World} (h : OutsAt B0 F ls u w) : ∃ A c, u = .slice A ls.length c := by
  obtain ⟨vs, h1, h2, h3, h4⟩ := h
  rcases own_val h2 with ⟨rfl, h0⟩ | ⟨g, cap, rfl, _⟩
  · exact ⟨none, 0, by rw [h0]⟩
  · exact ⟨_, cap, rfl⟩
set_option maxRecDepth 100000 in
set_option maxHeartbeats 16000000 in
theorem same_any {w : World} {A : Option Addr} {cap : Nat} {l : List Dd} (h : DdAt w A l) (k t : Int) : Calls Tryz.prog 4 #[.int .i64 k, .int .i64 t, .slice A l.length cap] w (TrueP w) := by
  refine cph fun R HR => ?_
  have HD := Lib.hid h
  have HA := Lib.hid (awake_any w)
  have hm5 := mod5_le k
  have htn := thrN_le t
  obtain ⟨N, hN⟩ := Int.eq_ofNat_of_zero_le (a := thrN t) (by omega)
  have hTe : wrap64 (1 + bits BinOp.and IntKind.i64 t 3) = (N : Int) := hN
  obtain ⟨K, hK⟩ : ∃ K, 1 + wrap64 ((IntKind.u64.wrap k).tmod 5) = K := ⟨_, rfl⟩
  have hK5 : 1 ≤ K ∧ K ≤ 5 := by omega
  have hN1 : 1 ≤ N := by omega
  have hN4 : N ≤ 4 := by omega
  have HKN := Lib.hid (And.intro hK5 (And.intro hN1 hN4))
  obtain ⟨i1, hi, hz0, hz1, hz2⟩ := info_parts infoD
  have HJ := Lib.hid (And.intro hi (And.intro hz0 (And.intro hz1 hz2)))
  have HTK := Lib.hid (And.intro hTe hK)
  clear h hi hz0 hz1 hz2 hK hN hTe
  go_enter Tryz.func4, Tryz.ntmps4
  go_wp2_with (go_at_call 13; refine HA.out.mono ?_; rintro e w1 ⟨rfl, hg1⟩; have HG1 := Lib.hid hg1; clear hg1)
  rw [HTK.out.1, HTK.out.2]
  clear hm5 htn
  go_loopw [9, 10] (fun u i wr => ∃ j : Nat, j ≤ l.length ∧ j ≤ 150 ∧ i = .int .i64 j ∧ Hid (wr.ownsRow w.heap.size 32 4 u j (((l.take j).map normD).flatMap encD) ∧ Grow w wr)) (fun _ i _ => l.length - (intOf i).toNat)
  case atStart => exact ⟨0, Nat.zero_le _, by omega, rfl, World.ownsRow_nil _ _ _ _, HG1.out⟩
  case round =>
    obtain ⟨j, hj, hj150, rfl, HO⟩ := hrel
    by_cases hlt : j < l.length ∧ j < 150
    · obtain ⟨hlt, hlt2⟩ := hlt
      have hki : (j : Int) < (l.length : Int) := by omega
      have hki2 : (j : Int) < 150 := by omega
      obtain ⟨d, hd⟩ : ∃ d, l[j]? = some d := ⟨l[j], by simp [hlt]⟩
      have hdd := HD.out.fr HO.out.2 (fun _ h => h.elim)
      obtain ⟨b, off, rfl, hcs⟩ := hdd.resolve_left (by intro e; rw [e] at hlt; simp at hlt)
      obtain ⟨c0, c1, c2, c3⟩ := hcs j d hd
      have HdL := Lib.hid hd
      have hgs := HO.out.2.size
      have hnw := cells_new (wr.alloc (Obj.cells #[.int .i64 d.do_, .int .i64 d.th, .int .i64 d.ho, .int .i64 d.ad] 32)) (encD (normD d)) 32
      rw [size_alloc] at hnw
      have HNW := Lib.hid hnw
      clear hd hdd hcs hnw
      go_wp2_with (at_builtin; refine wpList_append_own_at _ rfl (.tmp 44) (.tmp 57) 22 rfl w.heap.size 32 i1 (.agg #[.int .i64 0, .int .i64 0, .int .i64 0, .int .i64 0]) 4 32 Tryz.underlying22 HJ.out.1 HJ.out.2.1 HJ.out.2.2.1 HJ.out.2.2.2 rfl (by decide) _ j (((l.take j).map normD).flatMap encD) rfl ((HO.out.1.alloc _).alloc _) ⟨wr.heap.size + 1, 0, none⟩ 1 1 (encD (normD d)) rfl rfl HNW.out (by simp [Value.oneCell', encD]) (by unfold maxLen; omega) (by omega) (by simp; omega) ?_; intro v7 w7 hown hgrow _ _; have H7 : Hid (w7.ownsRow w.heap.size 32 4 v7 (j + 1) (((l.take (j + 1)).map normD).flatMap encD) ∧ Grow w w7) := ⟨by rw [List.take_add_one, HdL.out]; simpa using hown, ((HO.out.2.alloc _).alloc _).grown hgrow (fun i e => (HO.out.1.lt i e).1)⟩; clear hown hgrow)
      go_roundw
      case rel => exact ⟨j + 1, by omega, by omega, by go_num, H7.out⟩
      case measure => simp [intOf] <;> omega
    · obtain ⟨wx, hwx⟩ : ∃ x, x = wr := ⟨_, rfl⟩
      subst hwx
      obtain ⟨D, hD⟩ : ∃ D, (l.take 150).map normD = D := ⟨_, rfl⟩
      have e1 : l.take j = l.take 150 := by
        by_cases h : j < l.length
        · have : j = 150 := by omega
          rw [this]
        · rw [List.take_of_length_le (by omega), List.take_of_length_le (by omega)]
      have hDl : D.length = j := by rw [← hD, ← e1]; simp; omega
      have hown := HO.out.1
      rw [e1, hD, ← hDl] at hown
      obtain ⟨A9, c9, hu9, hdd⟩ := dd_of_own hown
      subst hu9
      have hDv : ∀ d ∈ D, 0 ≤ d.do_ ∧ d.do_ ≤ 5 := fun d hd => by
        rw [← hD] at hd
        obtain ⟨x, _, rfl⟩ := List.mem_map.1 hd
        exact kind6_le x.do_
      have hD150 : D.length ≤ 150 := by omega
      have hNw := gmNew wx K N
      unfold GNewK at hNw
      simp only [if_pos (And.intro (And.intro (by omega : 0 ≤ K) hK5.2) (by omega : 1 ≤ (N : Int) ∧ (N : Int) ≤ 4))] at hNw
      rw [Int.toNat_natCast] at hNw
      have HNw := Lib.hid hNw
      have HDd := Lib.hid (And.intro hdd (And.intro hDv HO.out.2))
      have d12 : (¬ (j : Int) < (l.length : Int)) ∨ ((j : Int) < (l.length : Int) ∧ ¬ (j : Int) < 150) := by omega
      clear hown hdd hDv hNw e1 hD hDl hlt
      have hmgr : ∀ w2, Grow wx w2 → Calls Tryz.prog 19 #[.int .i64 K, .int .i64 N, .slice A9 D.length c9] w2 (MgrP w2 (outsS (newS K N) D) (addrs (runS (newS K N) D))) := fun w2 hg => mgr_any (HDd.out.1.fr hg (fun _ h => h.elim)) HKN.out.2.1 HKN.out.2.2 HDd.out.2.1 hD150 HKN.out.1
      have HMg := Lib.hid hmgr
      have hfew0 := few_new K (n := N) HKN.out.2.2
      have HLo := Lib.hid (outsS_len (newS K N) D)
      have hbk : ∀ q, q ≤ D.length → Small (runS (newS K N) (D.take q)) ∧ Few 150 (runS (newS K N) (D.take q)) := fun q hq => ⟨(hfew0.run _).small (by simp; omega), (hfew0.run _).mono (by simp; omega)⟩
      have HBk := Lib.hid hbk
      clear hbk hfew0 hmgr
      generalize newS K N = s0 at HNw HLo HBk HMg
      rcases d12 with hki | ⟨hki, hki2⟩
      case' inl => have d1 := decide_eq_false hki
      case' inr => have d2 := decide_eq_false hki2
      all_goals
        go_wp2_with (first | (go_at_call 18; refine HNw.out.mono ?_; rintro e w2 ⟨G, F, rfl, hA, hg, hF⟩; have HMg2 := Lib.hid (HMg.out w2 hg); have H2 := Lib.hid (And.intro hA (And.intro hg hF)); clear hA hg hF) | (go_at_call 19; refine HMg2.out.mono ?_; rintro e w3 ⟨u3, A3, c3, rfl, ho3, hf3, hg3⟩; obtain ⟨A14, c14, hu3⟩ := ho3.sl; subst hu3; have H3 := Lib.hid (And.intro ho3 (And.intro hf3 hg3)); clear ho3 hf3 hg3))
        have hFl := (GM.local G).lt H2.out.1
        have hg3 := H3.out.2.2
        have hI3 : ∃ F', GM G w3 F' (runS s0 (D.take 0)) ∧ OutsAt w2.heap.size F' (outsS s0 D) (.slice A14 (outsS s0 D).length c14) w3 ∧ (w3.ownsRow w2.heap.size 3 1 (.slice A3 (addrs (runS s0 D)).length c3) (addrs (runS s0 D)).length ((addrs (runS s0 D)).map (Value.int .i64)) ∧ ∀ j, (Value.slice A3 (addrs (runS s0 D)).length c3).ownBlock = some j → ¬ F' j) ∧ Grow wx w3 ∧ ∀ j, F' j → wx.heap.size ≤ j :=
          ⟨F, (GM.local G).fr H2.out.1 (G := fun _ => False) hg3 (fun _ _ h => h), H3.out.1.into hFl, ⟨H3.out.2.1, fun j hj hf => by have := (H3.out.2.1.lt j hj).1; have := hFl j hf; omega⟩, H2.out.2.1.trans hg3, H2.out.2.2⟩
        have HI3 := Lib.hid hI3
        clear hFl hg3 hI3
        rw [HLo.out] at HI3
        rw [HLo.out]
        go_loopw [17] (fun i wr => ∃ q : Nat, q ≤ D.length ∧ i = .int .i64 q ∧ Hid (∃ F', GM G wr F' (runS s0 (D.take q)) ∧ OutsAt w2.heap.size F' (outsS s0 D) (.slice A14 D.length c14) wr ∧ (wr.ownsRow w2.heap.size 3 1 (.slice A3 (addrs (runS s0 D)).length c3) (addrs (runS s0 D)).length ((addrs (runS s0 D)).map (Value.int .i64)) ∧ ∀ j, (Value.slice A3 (addrs (runS s0 D)).length c3).ownBlock = some j → ¬ F' j) ∧ Grow wx wr ∧ ∀ j, F' j → wx.heap.size ≤ j)) (fun i _ => D.length - (intOf i).toNat)
        case atStart => exact ⟨0, Nat.zero_le _, rfl, HI3.out⟩
        case round =>
          obtain ⟨q, hq, rfl, HQ⟩ := hrel
          by_cases hql : q < D.length
          · have hqi : (q : Int) < (D.length : Int) := by omega
            obtain ⟨y, hy⟩ : ∃ y, D[q]? = some y := ⟨D[q], by simp [hql]⟩
            obtain ⟨F', hm, ho, hf, hg, hF⟩ := HQ.out
            have hdd := HDd.out.1.fr hg (fun _ h => h.elim)
            obtain ⟨b9, o9, rfl, hcs⟩ := hdd.resolve_left (by intro e; rw [e] at hql; simp at hql)
            obtain ⟨c0, c1, c2, c3⟩ := hcs q y hy
            have hw := outsS_at (s := s0) hy
            obtain ⟨b14, A', c', rfl, -, -, -⟩ := ho.at_ hw
            have hsm := (HBk.out q hq).1
            have hfw := (HBk.out q hq).2
            have hbl := back_le _ hfw.2.2 y
            have hbl2 : (doS (runS s0 (D.take q)) y).back.length ≤ 1000000 := by have := hfw.1; omega
            have HDo := Lib.hid (gmDo hm hsm y)
            have HSu := Lib.hid (runS_succ (s := s0) hy)
            have H4 := Lib.hid (And.intro ho (And.intro hf (And.intro hg (And.intro hF hw))))
            clear hy hm ho hf hg hF hdd hcs hw hsm hfw hbl
            go_wp2_with (first | (go_at_call 20; refine HDo.out.mono ?_; intro e w6 ho6; obtain ⟨A6, c6, F6, rfl, o6, a6, s6, d6⟩ := ho6.ints; have ho' := H4.out.1.step s6; obtain ⟨bq, Aq, cq, e1, -, hcq, hiq⟩ := ho'.at_ H4.out.2.2.2.2; injection e1 with e2; injection e2 with e3; subst e3; have hs := sameI_any (ca := c6) (cb := cq) (ints_own o6) hiq hbl2 hbl2; rw [decide_eq_true rfl] at hs; have HSa := Lib.hid hs; have hf' := beside H4.out.2.1.1 H4.out.2.1.2 s6; have g6 := grow_step H4.out.2.2.1 H4.out.2.2.2.1 s6; have H6 := Lib.hid (And.intro a6 (And.intro ho' (And.intro hf' g6))); clear o6 a6 s6 d6 ho' hiq hs hf' g6 ho6) | (go_at_call 16; refine HSa.out.mono ?_; rintro e w10 ⟨rfl, g10⟩; have HG10 := Lib.hid g10; clear g10))
            go_roundw
            case rel =>
              refine ⟨q + 1, by omega, by go_num, F6, ?_, H6.out.2.1.grow HG10.out, ⟨owns_grow H6.out.2.2.1.1 HG10.out, H6.out.2.2.1.2⟩, H6.out.2.2.2.1.trans HG10.out, H6.out.2.2.2.2⟩
              rw [HSu.out]
              exact (GM.local G).fr H6.out.1 (G := fun _ => False) HG10.out (fun _ _ h => h)
            case measure => simp [intOf] <;> omega
          · obtain rfl : q = D.length := by omega
            have hqi : ¬ (D.length : Int) < (D.length : Int) := by omega
            obtain ⟨F', hm, ho, hf, hg, hF⟩ := HQ.out
            have hbq := HBk.out D.length (Nat.le_refl _)
            rw [List.take_length] at hm hbq
            have hal : (addrs (runS s0 D)).length ≤ 1000000 := by rw [addrs_len]; have := hbq.2.1; omega
            have HW := Lib.hid (gmWaiting hm hbq.1)
            have H8 := Lib.hid (And.intro hf hg)
            have HAl := Lib.hid hal
            clear hm ho hf hg hF hbq hal
            go_wp2_with (first | (go_at_call 21; refine HW.out.mono ?_; intro e w9 ho9; obtain ⟨A7, c7, rfl, o7, g7⟩ := ho9.ints; have hs := sameI_any (ca := c7) (cb := c3) (ints_own o7) (ints_own (owns_grow H8.out.1.1 g7)) HAl.out HAl.out; rw [decide_eq_true rfl] at hs; have HSa := Lib.hid hs; have HG9 := Lib.hid g7; clear o7 g7 ho9 hs) | (go_at_call 16; refine HSa.out.mono ?_; rintro e w10 ⟨rfl, g10⟩; have HG10 := Lib.hid g10; clear g10))
            exact HR.out _ _ ⟨rfl, ((HDd.out.2.2.trans H8.out.2).trans HG9.out).trans HG10.out⟩
end Go.Proofs.YtcgcljmnnjalpaaGreat
