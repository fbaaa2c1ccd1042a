/- The statement HeapRounds answers true, for every three numbers. -/
import Derived.Test.YthkcihkeklojcaaHpV
import Derived.Laws.Closers25b
set_option linter.unusedVariables false
set_option linter.unusedSimpArgs false
namespace Go.Proofs.Ythkcihkeklojcaa
open Go.RowKit Go.Kx
theorem nodeOf_near {sz : Int} {c : Int} (hc0 : 100 ≤ c) (hc1 : c ≤ 118) : nodeOf [(100, sz)] c = (100, decide (c < 100 + rnd sz)) := by
  have step : ∀ (m f : Nat), m < f → 100 + 2 * (m : Int) ≤ c → nodeScan [(100, sz)] c f (100 + 2 * m) = (100, decide (c < 100 + rnd sz)) := by
    intro m
    induction m with
    | zero =>
      intro f hf hle
      obtain ⟨f, rfl⟩ : ∃ g, f = g + 1 := ⟨f - 1, by omega⟩
      unfold nodeScan
      rw [if_pos (by omega), nget_one, if_pos (by omega)]
      rfl
    | succ m ih =>
      intro f hf hle
      obtain ⟨f, rfl⟩ : ∃ g, f = g + 1 := ⟨f - 1, by omega⟩
      unfold nodeScan
      rw [if_pos (by omega), nget_one, if_neg (by omega)]
      have e : (100 + 2 * ((m + 1 : Nat) : Int) - 2) = 100 + 2 * (m : Int) := by omega
      show nodeScan _ _ _ _ = _
      rw [e]
      exact ih f (by omega) (by omega)
  unfold nodeOf
  rw [Int.tmod_eq_emod_of_nonneg (by omega)]
  obtain ⟨m, hm⟩ : ∃ m : Nat, c - c % 2 = 100 + 2 * (m : Int) := ⟨((c - c % 2 - 100) / 2).toNat, by omega⟩
  rw [hm]
  exact step m 11 (by omega) (by omega)
theorem One.dead {s : HS} {n sz c : Int} (h : One s n sz c) (hn : n ≤ 16) (h1 : 1 ≤ sz) (h2 : sz ≤ 18) : s.alive 99 = false ∧ s.alive (100 + rnd sz) = false := by
  have hb := rnd_bound h1 h2
  have hc := h.cells
  constructor
  · unfold HS.alive
    rw [nodeOf_low (by omega), hc]
    simp; omega
  · unfold HS.alive
    rw [h.nodes, nodeOf_near (by omega) (by omega), hc]
    simp; omega
theorem One.storeAt {s : HS} {n sz c : Int} (h : One s n sz c) (x w : Int) : ∃ c', One (s.store x w) n sz c' := by
  unfold HS.store
  split
  · exact ⟨_, h.cells, h.nodes, h.free, h.top, rfl⟩
  · exact ⟨_, h⟩
theorem One.again2 {s : HS} {n sz c : Int} (h : One s n sz c) (hg : Good s) (h1 : 1 ≤ sz) (h2 : sz ≤ 18) : ∃ s' c', HS.make { s with nodes := [], free := [(100, rnd sz)] } sz = (s', 100, 0) ∧ One s' n sz c' ∧ ∀ j : Nat, 100 ≤ j → (j : Int) < 100 + rnd sz → HS.at_ s'.words j = 0 := by
  have hb := rnd_bound h1 h2
  obtain ⟨s', hm, ho⟩ := h.again hg h1 h2
  refine ⟨s', _, hm, ho, ?_⟩
  have hl : lastOf [((100 : Int), rnd sz)] (rnd sz) = 0 := by
    unfold lastOf
    show lastFrom _ _ 1 = 0
    unfold lastFrom
    exact if_pos rfl
  have hm2 : HS.make { s with nodes := [], free := [(100, rnd sz)] } sz = ((HS.take { s with nodes := [], free := [(100, rnd sz)] } (0 : Int).toNat 100 sz).fill 100 (rnd sz).toNat, 100, 0) := by
    unfold HS.make; rw [if_pos ⟨h1, h2⟩, show ({ s with nodes := [], free := [(100, rnd sz)] } : HS).free = [(100, rnd sz)] from rfl, hl, if_pos (by omega)]; rfl
  rw [hm] at hm2
  have hs : s' = _ := congrArg Prod.fst hm2
  intro j hj0 hj1
  obtain ⟨N, hN⟩ := Int.eq_ofNat_of_zero_le (show 0 ≤ rnd sz by omega)
  rw [hN] at hj1 hs
  rw [hs, Int.toNat_natCast]
  have := fill_word (s := HS.take { s with nodes := [], free := [(100, (N : Int))] } (0 : Int).toNat 100 sz) (a := 100) N (by show 100 + N ≤ s.words.length; rw [hg.wl]; omega) j
  refine this.trans ?_
  rw [if_pos (by omega)]
theorem size_one {w : World} {base : Nat} {q : HB} {s : HS} {n sz c : Int} (h : HeapAt w base q s) (ho : One s n sz c) :
    Calls Try.prog 16 #[.pointer (some ⟨q.b, 0, none⟩), .int .i64 100] w fun e w' => e = .returned (.tuple #[.int .i64 sz, .int .i64 0]) ∧ w = w' := by
  have hv := Size_any h 100
  rw [ho.nodes, nget_one, if_pos rfl] at hv
  exact hv
theorem load_zero {w : World} {base : Nat} {q : HB} {s : HS} {n sz c : Int} (h : HeapAt w base q s) (ho : One s n sz c) (h1 : 1 ≤ sz) (h2 : sz ≤ 18) (hz : ∀ j : Nat, 100 ≤ j → (j : Int) < 100 + rnd sz → HS.at_ s.words j = 0) (k : Nat) (hk : (k : Int) < rnd sz) :
    Calls Try.prog 13 #[.pointer (some ⟨q.b, 0, none⟩), .int .i64 (100 + (k : Int))] w fun e w' => e = .returned (.tuple #[.int .i64 0, .int .i64 0]) ∧ w = w' := by
  have hb := rnd_bound h1 h2
  have ha := ho.alive h1 h2 (x := 100 + (k : Int)) (by omega) (by omega)
  have hv := load_any h (100 + (k : Int)) (by omega) (by omega)
  have hz1 := hz (100 + k) (by omega) (by omega)
  rw [show ((100 + k : Nat) : Int) = 100 + (k : Int) by omega] at hz1
  rw [ha, if_pos rfl, hz1, show s.asked (100 + (k : Int)) = 0 by unfold HS.asked; rw [ha]; rfl] at hv
  exact hv
theorem node_one {w : World} {base : Nat} {q : HB} {s : HS} {n sz c : Int} (h : HeapAt w base q s) (ho : One s n sz c) (h1 : 1 ≤ sz) (h2 : sz ≤ 18) (k : Nat) (hk : (k : Int) < rnd sz) :
    Calls Try.prog 18 #[.pointer (some ⟨q.b, 0, none⟩), .int .i64 (100 + (k : Int))] w fun e w' => e = .returned (.tuple #[.int .i64 100, .int .i64 0]) ∧ w = w' := by
  have hb := rnd_bound h1 h2
  have hv := Node_any h (100 + (k : Int)) (by omega) (by omega)
  rw [ho.nodes, nodeOf_one h1 h2 (by omega) (by omega)] at hv
  exact hv
set_option maxRecDepth 100000 in
set_option maxHeartbeats 4000000 in
theorem rounds_any (w : World) (cells size word : Int) : Calls Try.prog 4 #[.int .i64 cells, .int .i64 size, .int .i64 word] w (TrueP w) := by
  refine cph fun R HR => ?_
  go_enter Try.func4, Try.ntmps4
  go_wp2_with (go_at_call 8; refine (awake_any _).mono ?_)
  rintro e w1 ⟨rfl, hg1⟩
  have H1 := Lib.hid hg1
  clear hg1
  have hc := and_bound cells 15 (by decide)
  obtain ⟨n, hn⟩ : ∃ n, n = bits .and .i64 cells 15 := ⟨_, rfl⟩
  have hn0 : 0 ≤ n ∧ n ≤ 15 := by rw [hn]; exact hc
  have en := hn.symm
  have HN := Lib.hid hn0
  have HNEW := Lib.hid (new_any (w := w1) n hn0.1 (by omega))
  clear hc hn hn0
  go_wp2_with (go_at_call 9; refine HNEW.out.mono ?_)
  rintro e w2 ⟨q, rfl, h2, hg2, hfv⟩
  have H2 := Lib.hid (And.intro h2 hg2)
  clear h2 hg2 hfv HNEW
  have hu : 0 ≤ IntKind.u64.wrap size := by
    have := (bits_within .and .u64 0 0).1
    simp [IntKind.wrap, IntKind.bits, IntKind.signed]
    omega
  obtain ⟨m, hm⟩ : ∃ m, m = (IntKind.u64.wrap size).tmod 18 := ⟨_, rfl⟩
  have hm0 : 0 ≤ m ∧ m ≤ 17 := by rw [hm, Int.tmod_eq_emod_of_nonneg hu]; omega
  have em := hm.symm
  have hm00 := hm0.1
  have hm01 := hm0.2
  clear hu hm hm0
  obtain ⟨s1, hmk, hone⟩ := make_first (n := n) (sz := 1 + m) (by omega) (by omega)
  have HM := Lib.hid (make_any H2.out.1 (Nat.zero_le _) (1 + m))
  have H1a := Lib.hid (And.intro hmk hone)
  clear hmk hone
  go_wp2_with (go_at_call 10; refine (HM.out.mono fun _ _ h => MakeP.of h H1a.out.1).mono ?_)
  rintro e w3 ⟨rfl, fv, h3, hf3, _⟩
  have hg3 := H2.out.1.then H2.out.2 hf3
  have H3 := Lib.hid (And.intro h3 hg3)
  have hrn : (1 + m) + (1 + m) % 2 = rnd (1 + m) := rfl
  have hrb := rnd_bound (z := 1 + m) (by omega) (by omega)
  clear h3 hf3 hg3 HM
  go_wp2_with fail
  go_loopw [12] (fun i wr => ∃ k : Nat, (k : Int) ≤ rnd (1 + m) ∧ i = .int .i64 k ∧ Hid (∃ S c, HeapAt wr w1.heap.size { q with fv := fv } S ∧ One S n (1 + m) c ∧ Grow w1 wr)) (fun i _ => 100 - (intOf i).toNat)
  case atStart => exact ⟨0, by omega, rfl, _, _, H3.out.1, H1a.out.2, H3.out.2⟩
  case round =>
    obtain ⟨k, hk, rfl, HI⟩ := hrel
    obtain ⟨S, c, hS, hO, hG⟩ := HI.out
    by_cases hlt : (k : Int) < rnd (1 + m)
    · have hx1 : (k : Int) < (1 + m) + (1 + m) % 2 := hlt
      have hal := hO.alive (by omega) (by omega) (x := 100 + (k : Int)) (by omega) (by omega)
      have hst := store_any hS (100 + (k : Int)) word (by omega) (by omega)
      rw [show S.asked (100 + (k : Int)) = 0 by unfold HS.asked; rw [hal]; rfl] at hst
      dsimp only at hst
      obtain ⟨c', hO'⟩ := hO.storeAt (100 + (k : Int)) word
      have HST := Lib.hid hst
      have HO := Lib.hid (And.intro hS (And.intro hO' hG))
      have hk18 : (k : Int) ≤ 18 := by omega
      clear hst hal hS hO hO' hG HI hlt hrn hrb
      go_wp2_with (go_at_call 15; refine HST.out.mono ?_)
      rintro e w4 ⟨rfl, h4, hf4⟩
      have hg4 := HO.out.1.then HO.out.2.2 hf4
      have H4 := Lib.hid (And.intro h4 hg4)
      clear h4 hf4 hg4
      go_wp2_with fail
      go_roundw
      case rel =>
        have : (k : Int) + 1 ≤ rnd (1 + m) := by unfold rnd; omega
        exact ⟨k + 1, by omega, by go_num, _, _, H4.out.1, HO.out.2.1, H4.out.2⟩
      case measure => simp [intOf]; omega
    · have hx1 : ¬ (k : Int) < (1 + m) + (1 + m) % 2 := hlt
      have HSZ := Lib.hid (size_one hS hO)
      obtain ⟨hd1, hd2⟩ := hO.dead (by have := HN.out.2; omega) (by omega) (by omega)
      have ha1 := alive_any hS 99 (by omega) (by omega)
      have ha2 := alive_any hS (100 + (1 + m) + (1 + m) % 2) (by omega) (by omega)
      rw [hd1] at ha1
      rw [show 100 + (1 + m) + (1 + m) % 2 = 100 + rnd (1 + m) by unfold rnd; omega, hd2, show 100 + rnd (1 + m) = 100 + (1 + m) + (1 + m) % 2 by unfold rnd; omega] at ha2
      have HA1 := Lib.hid ha1
      have HA2 := Lib.hid ha2
      have hgv := Lib.hid ((give_any hS hG.size (by rw [hO.free]; decide) 100).mono fun _ _ h => GiveP.of h hO.give)
      dsimp only at HSZ HA1 HA2 hgv
      have HO := Lib.hid (And.intro hS (And.intro hO hG))
      clear hd1 hd2 ha1 ha2 hS hO hG HI hlt hrn hrb
      go_wp2_with (go_at_call 16; refine HSZ.out.mono ?_; rintro e w' ⟨rfl, rfl⟩)
      clear HSZ
      go_wp2_with (go_at_call 17; (with_reducible refine HA1.out.mono ?_); rintro e w' ⟨rfl, rfl⟩)
      clear HA1
      go_wp2_with (go_at_call 17; (with_reducible refine HA2.out.mono ?_); rintro e w' ⟨rfl, rfl⟩)
      clear HA2
      refine hgv.out.mono ?_
      rintro e w4 ⟨rfl, fv4, h4, hf4, _⟩
      have hg4 := HO.out.1.then HO.out.2.2 hf4
      obtain ⟨s5, c5, hm5, ho5, hz5⟩ := HO.out.2.1.again2 HO.out.1.good (by omega) (by omega)
      have HM := Lib.hid ((make_any h4 (by show 1 ≤ 100000; decide) (1 + m)).mono fun _ _ h => MakeP.of h hm5)
      dsimp only at HM
      have H4 := Lib.hid (And.intro h4 (And.intro hg4 (And.intro ho5 hz5)))
      clear h4 hf4 hg4 hm5 ho5 hz5 hgv
      go_wp2_with (go_at_call 10; refine HM.out.mono ?_)
      rintro e w5 ⟨rfl, fv5, h5, hf5, _⟩
      have hg5 := H4.out.1.then H4.out.2.1 hf5
      have H5 := Lib.hid (And.intro h5 hg5)
      clear h5 hf5 hg5 HM
      go_wp2_with fail
      go_loop [17] (fun i => ∃ k : Nat, (k : Int) ≤ rnd (1 + m) ∧ i = .int .i64 k) (fun i => 100 - (intOf i).toNat)
      case atStart => exact ⟨0, by unfold rnd; omega, rfl⟩
      case round =>
        obtain ⟨k2, hk2, rfl⟩ := hrel
        by_cases hlt : (k2 : Int) < rnd (1 + m)
        · have hx1 : (k2 : Int) < (1 + m) + (1 + m) % 2 := hlt
          have HL := Lib.hid (load_zero H5.out.1 H4.out.2.2.1 (by omega) (by omega) H4.out.2.2.2 k2 hlt)
          have HN2 := Lib.hid (node_one H5.out.1 H4.out.2.2.1 (by omega) (by omega) k2 hlt)
          dsimp only at HL HN2
          have hk18 : (k2 : Int) ≤ 18 := by unfold rnd at hk2; omega
          clear hlt
          go_wp2_with (first | (go_at_call 13; refine HL.out.mono ?_; rintro e w' ⟨rfl, rfl⟩) | (go_at_call 18; refine HN2.out.mono ?_; rintro e w' ⟨rfl, rfl⟩))
          go_round
          case rel =>
            have : (k2 : Int) + 1 ≤ rnd (1 + m) := by unfold rnd; omega
            exact ⟨k2 + 1, by omega, by go_num⟩
          case measure => simp [intOf]; omega
        · have hx1 : ¬ (k2 : Int) < (1 + m) + (1 + m) % 2 := hlt
          clear hlt
          go_wp2_with fail
          exact HR.out _ _ ⟨rfl, H1.out.trans H5.out.2⟩
end Go.Proofs.Ythkcihkeklojcaa
