/- The statement HeapVersions answers true, for every number and every list of ints that memory holds. -/
import Derived.Test.YthkcihkeklojcaaHpJ
import Derived.Laws.BitsLemmas
set_option linter.unusedVariables false
set_option linter.unusedSimpArgs false
namespace Go.Proofs.Ythkcihkeklojcaa
open Go.RowKit Go.Kx
theorem and_bound (x : Int) (m : Nat) (hm : m < 1000000) : 0 ≤ bits .and .i64 x m ∧ bits .and .i64 x m ≤ m := by
  simp only [bits, BitVec.ofInt_natCast, BitVec.toNat_and, BitVec.toNat_ofNat]
  have h : m % 2 ^ IntKind.i64.bits = m := Nat.mod_eq_of_lt (by show m < 2 ^ 64; omega)
  rw [h]
  have hle := @Nat.and_le_right (BitVec.ofInt IntKind.i64.bits x).toNat m
  generalize ((BitVec.ofInt IntKind.i64.bits x).toNat &&& m) = r at hle ⊢
  rw [IntKind.wrap_i64]
  omega
def IntsAt (w : World) (A : Option Addr) (l : List Int) : Prop := l = [] ∨ ∃ b off, A = some ⟨b, off, none⟩ ∧ ∀ j x, l[j]? = some x → w.cell? ⟨b, off + j, none⟩ = some (.int .i64 x)
theorem ver_one {w : World} {base : Nat} {q : HB} {s : HS} {n sz c : Int} (h : HeapAt w base q s) (ho : One s n sz c) (h1 : 1 ≤ sz) (h2 : sz ≤ 18) :
    Calls Try.prog 12 #[.pointer (some ⟨q.b, 0, none⟩), .int .i64 100] w fun e w' => e = .returned (.tuple #[.int .i64 c, .int .i64 0]) ∧ w = w' := by
  have hb := rnd_bound h1 h2
  have ha := ho.alive h1 h2 (x := 100) (by omega) (by omega)
  have hv := version_any h 100 (by omega) (by omega)
  rw [ha, if_pos rfl, ho.ver, show s.asked 100 = 0 by unfold HS.asked; rw [ha]; rfl] at hv
  exact hv
theorem ver_gone {w : World} {base : Nat} {q : HB} {s : HS} (h : HeapAt w base q s) (hn : s.nodes = []) :
    Calls Try.prog 12 #[.pointer (some ⟨q.b, 0, none⟩), .int .i64 100] w fun e w' => e = .returned (.tuple #[.int .i64 0, .int .i64 3]) ∧ w = w' := by
  have hc := h.good.c1
  have ha : s.alive 100 = false := by
    unfold HS.alive
    rw [hn, nodeOf_none]
    simp; omega
  have hv := version_any h 100 (by omega) (by omega)
  rw [ha, show s.asked 100 = 3 by unfold HS.asked; rw [ha]; rfl] at hv
  exact hv
theorem load_one {w : World} {base : Nat} {q : HB} {s : HS} {n sz c : Int} (h : HeapAt w base q s) (ho : One s n sz c) (h1 : 1 ≤ sz) (h2 : sz ≤ 18) :
    Calls Try.prog 13 #[.pointer (some ⟨q.b, 0, none⟩), .int .i64 100] w fun e w' => e = .returned (.tuple #[.int .i64 (HS.at_ s.words 100), .int .i64 0]) ∧ w = w' := by
  have hb := rnd_bound h1 h2
  have ha := ho.alive h1 h2 (x := 100) (by omega) (by omega)
  have hv := load_any h 100 (by omega) (by omega)
  rw [ha, if_pos rfl, show s.asked 100 = 0 by unfold HS.asked; rw [ha]; rfl] at hv
  exact hv
def StepP (w : World) (base : Nat) (q : HB) (n sz c : Int) (w' : World) : Prop := ∃ s', HeapAt w' base q s' ∧ One s' n sz (wrap64 (c + 1)) ∧ Fr q.set w w'
theorem add_one {w : World} {base : Nat} {q : HB} {s : HS} {n sz c : Int} (h : HeapAt w base q s) (ho : One s n sz c) (h1 : 1 ≤ sz) (h2 : sz ≤ 18) (x : Int) :
    Calls Try.prog 14 #[.pointer (some ⟨q.b, 0, none⟩), .int .i64 100, .int .i64 x] w fun e w' => e = .returned (.tuple #[.int .i64 (HS.at_ s.words 100), .int .i64 0]) ∧ StepP w base q n sz c w' := by
  have hb := rnd_bound h1 h2
  have ha := ho.alive h1 h2 (x := 100) (by omega) (by omega)
  have hv := add_any h 100 x (by omega) (by omega)
  rw [ha, if_pos rfl, show s.asked 100 = 0 by unfold HS.asked; rw [ha]; rfl] at hv
  exact hv.mono fun e w' ⟨e1, e2⟩ => ⟨e1, _, e2.1, ho.store h.good h1 h2 _, e2.2⟩
theorem store_one {w : World} {base : Nat} {q : HB} {s : HS} {n sz c : Int} (h : HeapAt w base q s) (ho : One s n sz c) (h1 : 1 ≤ sz) (h2 : sz ≤ 18) (x : Int) :
    Calls Try.prog 15 #[.pointer (some ⟨q.b, 0, none⟩), .int .i64 100, .int .i64 x] w fun e w' => e = .returned (.int .i64 0) ∧ StepP w base q n sz c w' := by
  have hb := rnd_bound h1 h2
  have ha := ho.alive h1 h2 (x := 100) (by omega) (by omega)
  have hv := store_any h 100 x (by omega) (by omega)
  rw [show s.asked 100 = 0 by unfold HS.asked; rw [ha]; rfl] at hv
  exact hv.mono fun e w' ⟨e1, e2⟩ => ⟨e1, _, e2.1, ho.store h.good h1 h2 _, e2.2⟩
set_option maxRecDepth 100000 in
set_option maxHeartbeats 4000000 in
theorem versions_any (w : World) (A : Option Addr) (l : List Int) (cap : Nat) (cells size : Int) (hl : IntsAt w A l) :
    Calls Try.prog 3 #[.int .i64 cells, .int .i64 size, .slice A l.length cap] w (TrueP w) := by
  refine cph fun R HR => ?_
  have HL := Lib.hid hl
  clear hl
  go_enter Try.func3, Try.ntmps3
  go_wp2_with (go_at_call 8; refine (awake_any _).mono ?_)
  rintro e w1 ⟨rfl, hg1⟩
  have H1 := Lib.hid hg1
  clear hg1
  have hc := and_bound cells 15 (by decide)
  have hz := and_bound size 15 (by decide)
  have hc2 : Hid (0 ≤ bits .and .i64 cells 15 ∧ bits .and .i64 cells 15 ≤ 15) := hc
  obtain ⟨n, hn⟩ : ∃ n, n = bits .and .i64 cells 15 := ⟨_, rfl⟩
  obtain ⟨z, hzz⟩ : ∃ z, z = bits .and .i64 size 15 := ⟨_, rfl⟩
  have hn0 : 0 ≤ n ∧ n ≤ 15 := by rw [hn]; exact hc
  have hz0 : 0 ≤ z ∧ z ≤ 15 := by rw [hzz]; exact hz
  have hz00 := hz0.1
  have hz01 := hz0.2
  have en := hn.symm
  have ez := hzz.symm
  have HN := Lib.hid hn0
  have HNEW := Lib.hid (new_any (w := w1) n hn0.1 (by omega))
  clear hc hz hc2 hn hzz hn0 hz0
  go_wp2_with (go_at_call 9; refine HNEW.out.mono ?_)
  rintro e w2 ⟨q, rfl, h2, hg2, hfv⟩
  obtain ⟨s1, hm, hone⟩ := make_first (n := n) (sz := 1 + z) (by omega) (by omega)
  have HM := Lib.hid (make_any h2 (Nat.zero_le _) (1 + z))
  have H2 := Lib.hid (And.intro h2 (And.intro hg2 (And.intro hm hone)))
  clear h2 hg2 hfv hm hone HNEW
  go_wp2_with (go_at_call 10; refine (HM.out.mono fun _ _ h => MakeP.of h H2.out.2.2.1).mono ?_)
  rintro e w3 ⟨rfl, fv, h3, hf3, _⟩
  have hg3 := H2.out.1.then H2.out.2.1 hf3
  have H3 := Lib.hid (And.intro h3 hg3)
  clear h3 hf3 hg3 HM
  go_wp2_with fail
  go_loopw [12, 13] (fun c i wr => ∃ k : Nat, k ≤ l.length ∧ k ≤ 200 ∧ i = .int .i64 k ∧ c = .int .i64 ((k : Int) + 1) ∧ Hid (∃ fv S, HeapAt wr w1.heap.size { q with fv := fv } S ∧ One S n (1 + z) ((k : Int) + 1) ∧ Grow w1 wr)) (fun _ i _ => l.length - (intOf i).toNat)
  case atStart => exact ⟨0, by omega, by omega, rfl, rfl, _, _, H3.out.1, H2.out.2.2.2, H3.out.2⟩
  case round =>
    obtain ⟨k, hk, hk2, rfl, rfl, HI⟩ := hrel
    obtain ⟨fv2, S, hS, hO, hG⟩ := HI.out
    by_cases hlt : k < l.length ∧ k < 200
    · obtain ⟨hlt1, hlt2⟩ := hlt
      obtain ⟨x, hx⟩ : ∃ x, l[k]? = some x := ⟨l[k], by simp [hlt1]⟩
      obtain ⟨b, off, hAe, hacc⟩ := HL.out.resolve_left (by rintro rfl; simp at hlt1)
      subst hAe
      have c0 := hG.cell (H1.out.cell (hacc k x hx))
      have hm3 := and_bound x 3 (by decide)
      obtain ⟨m, hmm⟩ : ∃ m, m = bits .and .i64 x 3 := ⟨_, rfl⟩
      have em := hmm.symm
      have hm0 : 0 ≤ m ∧ m ≤ 3 := by rw [hmm]; exact hm3
      have hm00 := hm0.1
      have hm01 := hm0.2
      have hw64 : wrap64 ((k : Int) + 1 + 1) = (k : Int) + 1 + 1 := by unfold wrap64; omega
      have hki : (k : Int) < (l.length : Int) := by omega
      have hki2 : (k : Int) < 200 := by omega
      have hk0 : (0 : Int) ≤ (k : Int) := by omega
      have HO := Lib.hid (And.intro hS (And.intro hO (And.intro hG hw64)))
      clear hacc hx hmm hm0 hm3 hS hO hG hw64 HI
      by_cases m0 : m = 0
      · subst m0
        have hgv := Lib.hid ((give_any HO.out.1 HO.out.2.2.1.size (by rw [HO.out.2.1.free]; decide) 100).mono fun _ _ h => GiveP.of h HO.out.2.1.give)
        dsimp only at hgv
        go_wp2_with (go_at_call 11; refine hgv.out.mono ?_)
        rintro e w4 ⟨rfl, fv3, h4, hf4, _⟩
        have hg4 := HO.out.1.then HO.out.2.2.1 hf4
        have HV := Lib.hid (ver_gone h4 rfl)
        obtain ⟨s5, hm5, ho5⟩ := HO.out.2.1.again HO.out.1.good (by omega) (by omega)
        have HM := Lib.hid ((make_any h4 (by show 1 ≤ 100000; decide) (1 + z)).mono fun _ _ h => MakeP.of h hm5)
        dsimp only at HV HM
        have H4 := Lib.hid (And.intro h4 (And.intro hg4 ho5))
        clear h4 hf4 hg4 hm5 ho5 hgv c0
        go_wp2_with (first | (go_at_call 12; refine HV.out.mono ?_; rintro e w' ⟨rfl, rfl⟩) | (go_at_call 10; refine HM.out.mono ?_))
        rintro e w5 ⟨rfl, fv5, h5, hf5, _⟩
        have hg5 := H4.out.1.then H4.out.2.1 hf5
        have ho5 := H4.out.2.2
        rw [HO.out.2.2.2] at ho5
        have HV2 := Lib.hid (ver_one h5 ho5 (by omega) (by omega))
        dsimp only at HV2
        have H5 := Lib.hid (And.intro h5 (And.intro hg5 ho5))
        clear h5 hf5 hg5 ho5 HV HM
        go_wp2_with (go_at_call 12; refine HV2.out.mono ?_; rintro e w' ⟨rfl, rfl⟩)
        go_roundw
        case rel => exact ⟨k + 1, by omega, by omega, by go_num, by go_num, _, _, H5.out.1, H5.out.2.2, H5.out.2.1⟩
        case measure => simp [intOf]; omega
      · by_cases m1 : m = 1
        · subst m1
          have HLD := Lib.hid (load_one HO.out.1 HO.out.2.1 (by omega) (by omega))
          have HAD := Lib.hid (add_one HO.out.1 HO.out.2.1 (by omega) (by omega) x)
          dsimp only at HLD HAD
          generalize HS.at_ S.words 100 = y at HLD HAD
          go_wp2_with (first | (go_at_call 13; refine HLD.out.mono ?_; rintro e w' ⟨rfl, rfl⟩) | (go_at_call 14; refine HAD.out.mono ?_))
          rintro e w5 ⟨rfl, hstep⟩
          obtain ⟨s5, h5, ho5, hf5⟩ := hstep
          have hg5 := HO.out.1.then HO.out.2.2.1 hf5
          rw [HO.out.2.2.2] at ho5
          have HV2 := Lib.hid (ver_one h5 ho5 (by omega) (by omega))
          dsimp only at HV2
          have H5 := Lib.hid (And.intro h5 (And.intro hg5 ho5))
          clear h5 hf5 hg5 ho5
          go_wp2_with (go_at_call 12; refine HV2.out.mono ?_; rintro e w' ⟨rfl, rfl⟩)
          go_roundw
          case rel => exact ⟨k + 1, by omega, by omega, by go_num, by go_num, _, _, H5.out.1, H5.out.2.2, H5.out.2.1⟩
          case measure => simp [intOf]; omega
        · skip
          have HST := Lib.hid (store_one HO.out.1 HO.out.2.1 (by omega) (by omega) x)
          dsimp only at HST
          have m0' : (m == 0) = false := by simp [m0]
          have m1' : (m == 1) = false := by simp [m1]
          go_wp2_with (go_at_call 15; refine HST.out.mono ?_)
          rintro e w5 ⟨rfl, hstep⟩
          obtain ⟨s5, h5, ho5, hf5⟩ := hstep
          have hg5 := HO.out.1.then HO.out.2.2.1 hf5
          rw [HO.out.2.2.2] at ho5
          have HV2 := Lib.hid (ver_one h5 ho5 (by omega) (by omega))
          dsimp only at HV2
          have H5 := Lib.hid (And.intro h5 (And.intro hg5 ho5))
          clear h5 hf5 hg5 ho5
          go_wp2_with (go_at_call 12; refine HV2.out.mono ?_; rintro e w' ⟨rfl, rfl⟩)
          go_roundw
          case rel => exact ⟨k + 1, by omega, by omega, by go_num, by go_num, _, _, H5.out.1, H5.out.2.2, H5.out.2.1⟩
          case measure => simp [intOf]; omega
    · have hend : ¬ ((k : Int) < (l.length : Int) ∧ (k : Int) < 200) := by omega
      have HV := Lib.hid (ver_one hS hO (by omega) (by omega))
      dsimp only at HV
      have HG := Lib.hid hG
      clear hS hO hG HI
      by_cases hq : (k : Int) < (l.length : Int)
      · have hq2 : ¬ (k : Int) < 200 := by omega
        clear hlt hend
        go_wp2_with (go_at_call 12; refine HV.out.mono ?_; rintro e w' ⟨rfl, rfl⟩)
        exact HR.out _ _ ⟨rfl, H1.out.trans HG.out⟩
      · clear hlt hend
        go_wp2_with (go_at_call 12; refine HV.out.mono ?_; rintro e w' ⟨rfl, rfl⟩)
        exact HR.out _ _ ⟨rfl, H1.out.trans HG.out⟩
end Go.Proofs.Ythkcihkeklojcaa
