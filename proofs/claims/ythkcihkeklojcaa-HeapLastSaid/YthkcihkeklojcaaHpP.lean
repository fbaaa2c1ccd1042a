/- The statement HeapFull answers true, for every two numbers. -/
import Derived.Test.YthkcihkeklojcaaHpO
import Derived.Test.YthkcihkeklojcaaHpW
set_option linter.unusedVariables false
set_option linter.unusedSimpArgs false
namespace Go.Proofs.Ythkcihkeklojcaa
open Go.RowKit Go.Kx
theorem room_of {r : Int} (h1 : 2 ≤ r) (h2 : r ≤ 18) : ∃ K : Nat, (1000 : Int).tdiv r = (K : Int) ∧ 55 ≤ K ∧ K ≤ 500 ∧ (K : Int) * r ≤ 1000 ∧ 1000 < (K : Int) * r + r := by
  have e : (1000 : Int).tdiv r = 1000 / r := Int.tdiv_eq_ediv_of_nonneg (by omega)
  have h0 : 0 ≤ (1000 : Int) / r := Int.ediv_nonneg (by omega) (by omega)
  obtain ⟨K, hK⟩ := Int.eq_ofNat_of_zero_le h0
  have h3 : (1000 : Int) / r * r ≤ 1000 := Int.ediv_mul_le _ (by omega)
  have h4 : 1000 < ((1000 : Int) / r + 1) * r := Int.lt_ediv_add_one_mul_self _ (by omega)
  rw [hK] at h3 h4
  rw [Int.add_mul, Int.one_mul] at h4
  have h5 : (K : Int) * r ≤ (K : Int) * 18 := Int.mul_le_mul_of_nonneg_left h2 (by omega)
  have h6 : (K : Int) * 2 ≤ (K : Int) * r := Int.mul_le_mul_of_nonneg_left h1 (by omega)
  exact ⟨K, by rw [e, hK], by omega, by omega, h3, h4⟩
theorem ints_of_made {w w' : World} {l : List Int} {e : Ending} (h : Made w l e w') : ∃ A cap, e = .returned (.slice A l.length cap) ∧ IntsAt w' A l ∧ Grow w w' := by
  obtain ⟨v, rfl, hrow, hg⟩ := h
  rcases hrow.2 with ⟨rfl, h0⟩ | ⟨g, cap, cur, rfl, hb, hgg, h1, h2, h3, h4⟩
  · have : l = [] := List.eq_nil_of_length_eq_zero h0
    subst this
    exact ⟨none, 0, rfl, .inl rfl, hg⟩
  · refine ⟨some ⟨g, 0, none⟩, cap, rfl, .inr ⟨g, 0, rfl, fun j x hx => ?_⟩, hg⟩
    have := hrow.cells (g := g) (by simp [Value.ownBlock]) j (.int .i64 x) (by simp [hx])
    rw [Addr.add_lit] at this
    exact this
theorem mulk {k K : Nat} {r : Int} (hr : 0 < r) (h : k < K) : (k : Int) * r + r ≤ (K : Int) * r := by
  have h2 : ((k + 1 : Nat) : Int) * r ≤ (K : Int) * r := Int.mul_le_mul_of_nonneg_right (by omega) (by omega)
  rw [Int.natCast_add, Int.add_mul] at h2
  simpa using h2
set_option maxRecDepth 100000 in
set_option maxHeartbeats 4000000 in
theorem full_any (w : World) (cells size : Int) : Calls Try.prog 5 #[.int .i64 cells, .int .i64 size] w (TrueP w) := by
  refine cph fun R HR => ?_
  go_enter Try.func5, Try.ntmps5
  go_wp2_with (go_at_call 8; refine (awake_any _).mono ?_)
  rintro e w1 ⟨rfl, hg1⟩
  have H1 := Lib.hid hg1
  clear hg1
  have hc := and_bound cells 15 (by decide)
  obtain ⟨n, hn⟩ : ∃ n, n = bits .and .i64 cells 15 := ⟨_, rfl⟩
  have hn0 : 0 ≤ n ∧ n ≤ 15 := by rw [hn]; exact hc
  have en := hn.symm
  have HN := Lib.hid hn0
  have HNEW := Lib.hid (new_any (w := w1) n hn0.1 (by omega))
  clear hc hn hn0
  go_wp2_with (go_at_call 9; refine HNEW.out.mono ?_)
  rintro e w2 ⟨q, rfl, h2, hg2, hfv⟩
  have H2 := Lib.hid (And.intro h2 hg2)
  clear h2 hg2 hfv HNEW
  have hu : 0 ≤ IntKind.u64.wrap size := by
    have := (bits_within .and .u64 0 0).1
    simp [IntKind.wrap, IntKind.bits, IntKind.signed]
    omega
  obtain ⟨m, hm⟩ : ∃ m, m = (IntKind.u64.wrap size).tmod 18 := ⟨_, rfl⟩
  have hm0 : 0 ≤ m ∧ m ≤ 17 := by rw [hm, Int.tmod_eq_emod_of_nonneg hu]; omega
  have em := hm.symm
  have hm00 := hm0.1
  have hm01 := hm0.2
  obtain ⟨r, hr⟩ : ∃ r, r = rnd (1 + m) := ⟨_, rfl⟩
  have hb := rnd_bound (z := 1 + m) (by omega) (by omega)
  rw [← hr] at hb
  have er : (1 + m) + (1 + m) % 2 = r := hr.symm
  obtain ⟨K, hK, hK1, hK2, hK3, hK4⟩ := room_of (r := r) hb.1 hb.2.1
  have HR2 := Lib.hid hr
  have hr0 : (r == 0) = false := by rw [beq_eq_false_iff_ne]; omega
  clear hu hm hm0 hr
  have hb1 := hb.1
  have hb2 := hb.2.1
  clear hb
  go_wp2_with fail
  go_loopw [9, 10] (fun la i wr => ∃ k : Nat, k ≤ K ∧ i = .int .i64 k ∧ la = .int .i64 (if k = 0 then 0 else 100 + ((k - 1 : Nat) : Int) * r) ∧ Hid (∃ fv S, HeapAt wr w1.heap.size { q with fv := fv } S ∧ LSt S n (1 + m) k [] ∧ Grow w1 wr)) (fun _ i _ => K - (intOf i).toNat)
  case atStart => exact ⟨0, by omega, rfl, rfl, q.fv, _, H2.out.1, new_state n (1 + m), H2.out.2⟩
  case round =>
    obtain ⟨k, hk, rfl, rfl, HI⟩ := hrel
    by_cases hlt : k < K
    · have hki : (k : Int) < (K : Int) := by omega
      obtain ⟨fv, S, hS, hO, hG⟩ := HI.out
      have hmk := mulk (r := r) (by omega) hlt
      have hk0 : 0 ≤ (k : Int) * r := Int.mul_nonneg (by omega) (by omega)
      have hk1 : (k : Int) * r ≤ 1000 := by omega
      obtain ⟨S', hm, hO'⟩ := hO.mk_top (by omega) (by omega) (by rw [← HR2.out]; omega)
      rw [← HR2.out] at hm
      have HM := Lib.hid ((make_any hS (by rw [hO.free]; simp) (1 + m)).mono fun _ _ h => MakeP.of h hm)
      have HS := Lib.hid (And.intro hS (And.intro hO' hG))
      clear hS hO hG hm hO' HI hmk hlt
      go_wp2_with (go_at_call 10; refine HM.out.mono ?_; rintro e w3 ⟨rfl, fv3, h3, hf3, _⟩; have H3 := Lib.hid (And.intro h3 (HS.out.1.then HS.out.2.2 hf3)); clear h3 hf3)
      go_roundw
      case rel => exact ⟨k + 1, by omega, by go_num, by rw [if_neg (by omega)]; rfl, fv3, S', H3.out.1, HS.out.2.1, H3.out.2⟩
      case measure => simp [intOf]; omega
    · have hki : ¬ (k : Int) < (K : Int) := by omega
      obtain rfl : k = K := by omega
      obtain ⟨K', rfl⟩ : ∃ K', k = K' + 1 := ⟨k - 1, by omega⟩
      rw [if_neg (by omega), show K' + 1 - 1 = K' from rfl]
      obtain ⟨fv, S, hS, hO, hG⟩ := HI.out
      have hk0 : 0 ≤ (K' : Int) * r := Int.mul_nonneg (by omega) (by omega)
      have hk1 : (K' : Int) * r + r ≤ ((K' + 1 : Nat) : Int) * r := mulk (r := r) (by omega) (Nat.lt_succ_self K')
      have hkn : 100 + (K' : Int) * r ≠ 0 := by omega
      have hfull : 1100 < 100 + ((K' + 1 : Nat) : Int) * rnd (1 + m) + rnd (1 + m) := by rw [← HR2.out]; omega
      have hm1 := hO.mk_full (by omega) (by omega) hfull
      have HM := Lib.hid ((make_any hS (by rw [hO.free]; simp) (1 + m)).mono fun _ _ h => MakeP.of h hm1)
      have HS := Lib.hid (And.intro hS (And.intro hO hG))
      have HFull := Lib.hid hfull
      clear hS hO hG HI hlt hm1 hfull
      go_wp2_with (go_at_call 10; refine HM.out.mono ?_; rintro e w3 ⟨rfl, fv3, h3, hf3, _⟩; have H3 := Lib.hid (And.intro h3 (HS.out.1.then HS.out.2.2 hf3)); clear h3 hf3)
      have hal := adr_len r (K' + 1)
      have hmem : 100 + (K' : Int) * r ∈ adr (rnd (1 + m)) (K' + 1) := by rw [← HR2.out]; exact adr_mem.2 ⟨K', by omega, rfl⟩
      have hnl : S.nodes.length ≤ 1000 := by
        have := HS.out.2.1.perm.length_eq
        rw [List.append_nil, List.length_map, adr_len] at this
        omega
      have hND := nodes_any H3.out.1 (adr r (K' + 1)) (by have := HS.out.2.1.perm; rw [List.append_nil, ← HR2.out] at this; exact this) (adr_sorted (by omega) _) hnl
      obtain ⟨S2, hg2, hO2⟩ := HS.out.2.1.gv (by rw [← HR2.out]; omega) hmem (by simp)
      obtain ⟨S3, hg3, hO3⟩ := LSt.mk_last (g := []) hO2 (by omega) (by omega)
      have hm4 := hO3.mk_full (by omega) (by omega) HFull.out
      have HND := Lib.hid hND
      have HGV := Lib.hid (fun (w' : World) (hw : Grow w3 w') => (give_any (H3.out.1.grow hw) (Nat.le_trans H3.out.2.size hw.size) (by rw [HS.out.2.1.free]; simp) (100 + (K' : Int) * r)).mono fun _ _ h => GiveP.of h hg2)
      have HO := Lib.hid (And.intro hO2 (And.intro hO3 (And.intro hg3 hm4)))
      clear hmem hnl hND hg2 hO2 hg3 hO3 hm4
      dsimp only at HGV
      go_wp2_with (first | (go_at_call 19; refine HND.out.mono ?_; rintro e w4 hp; obtain ⟨A4, c4, rfl, _, hg4⟩ := ints_of_made hp; have H4 := Lib.hid hg4; clear hp hg4) | (go_at_call 11; refine (HGV.out _ H4.out).mono ?_; rintro e w5 ⟨rfl, fv5, h5, hf5, _⟩; have H5 := Lib.hid (And.intro h5 ((H3.out.1.grow H4.out).then (H3.out.2.trans H4.out) hf5)); have HM5 := Lib.hid ((make_any h5 (by rw [HO.out.1.free]; simp) (1 + m)).mono fun _ _ h => MakeP.of h HO.out.2.2.1); dsimp only at HM5; clear h5 hf5))
      go_wp2_with (go_at_call 10; refine HM5.out.mono ?_; rintro e w6 ⟨rfl, fv6, h6, hf6, _⟩; have H6 := Lib.hid (And.intro h6 (H5.out.1.then H5.out.2 hf6)); have HM6 := Lib.hid ((make_any h6 (by rw [HO.out.2.1.free]; simp) (1 + m)).mono fun _ _ h => MakeP.of h HO.out.2.2.2); dsimp only at HM6; clear h6 hf6)
      go_wp2_with (go_at_call 10; refine HM6.out.mono ?_; rintro e w7 ⟨rfl, fv7, h7, hf7, _⟩; have H7 := Lib.hid (H6.out.1.then H6.out.2 hf7); clear h7 hf7)
      exact HR.out _ _ ⟨rfl, H1.out.trans H7.out⟩
end Go.Proofs.Ythkcihkeklojcaa
