/- The statements' made. -/
import Derived.Test.YtcgcljmnnjalpaaGreatGxK
set_option linter.unusedVariables false
set_option linter.unusedSimpArgs false
namespace Go.Proofs.YtcgcljmnnjalpaaGreat
open Go.RowKit Go.Kx
open Go.ChangeMaps (setBlock)
theorem and3 (t : Int) : 0 ≤ bits BinOp.and IntKind.i64 t 3 ∧ bits BinOp.and IntKind.i64 t 3 ≤ 3 := by
  obtain ⟨m, hm, h3⟩ : ∃ m : Nat, bits .and .i64 t 3 = IntKind.i64.wrap (m : Int) ∧ m ≤ 3 :=
    ⟨(BitVec.ofInt 64 t &&& BitVec.ofInt 64 3).toNat, rfl, by rw [BitVec.toNat_and]; exact Nat.and_le_right⟩
  rw [hm]
  obtain rfl | rfl | rfl | rfl : m = 0 ∨ m = 1 ∨ m = 2 ∨ m = 3 := by omega
  all_goals decide
/-- How many threads a raw number makes. -/
def thrN (t : Int) : Int := wrap64 (1 + bits BinOp.and IntKind.i64 t 3)
theorem thrN_le (t : Int) : 1 ≤ thrN t ∧ thrN t ≤ 4 := by
  have := and3 t
  unfold thrN wrap64
  omega
def MadeG (w : World) (s : RS) (n : Int) (e : Ending) (w' : World) : Prop :=
  ∃ G F, e = .returned (.tuple #[.pointer (some ⟨G, 0, none⟩), .int .i64 n]) ∧ GM G w' F s ∧ Grow w w' ∧ ∀ j, F j → w.heap.size ≤ j
theorem grow_step {w w1 w2 : World} {F F' : FP} (hg : Grow w w1) (hF : ∀ j, F j → w.heap.size ≤ j) (hs : Step F w1 F' w2) : Grow w w2 ∧ ∀ j, F' j → w.heap.size ≤ j :=
  ⟨Fr.then hg hs.fr (fun i hi h => by have := hF i h; omega), fun j hj => (hs.sub j hj).elim (hF j) (fun q => Nat.le_trans hg.size q)⟩
set_option maxRecDepth 100000 in
set_option maxHeartbeats 4000000 in
theorem made_any {w : World} {A : Option Addr} {cap : Nat} {l : List Dd} (h : DdAt w A l) (k t : Int) : Calls Tryz.prog 22 #[.int .i64 k, .int .i64 t, .slice A l.length cap] w (MadeG w (runS (newS (kind6 k) (thrN t).toNat) (l.take 150)) (thrN t)) := by
  refine cph fun R HR => ?_
  have HD := Lib.hid h
  have HK := Lib.hid (kindOf_any k w)
  have hN := gmNew w (kind6 k) (thrN t)
  have hk6 := kind6_le k
  have htn := thrN_le t
  unfold GNewK at hN
  simp only [if_pos (And.intro hk6 htn)] at hN
  have HN := Lib.hid hN
  have hfew := few_new (kind6 k) (n := (thrN t).toNat) (by omega)
  generalize hs0 : newS (kind6 k) (thrN t).toNat = s0 at HR HN hfew
  have HF := Lib.hid hfew
  clear h hN hs0 hfew hk6 htn
  have hT : wrap64 (1 + bits BinOp.and IntKind.i64 t 3) = thrN t := rfl
  generalize thrN t = n at HR HN hT
  go_enter Tryz.func22, Tryz.ntmps22
  go_wp2_with (first | (go_at_call 28; refine HK.out.mono ?_; rintro e w' ⟨rfl, rfl⟩) | (go_at_call 18; refine HN.out.mono ?_; rintro e w1 ⟨G, F, rfl, hA, hg, hF⟩; have H1 := Lib.hid (And.intro hA (And.intro hg hF)); clear hA hg hF))
  go_loopw [11] (fun i wr => ∃ k : Nat, k ≤ l.length ∧ k ≤ 150 ∧ i = .int .i64 k ∧ Hid (∃ F, GM G wr F (runS s0 (l.take k)) ∧ Grow w wr ∧ ∀ j, F j → w.heap.size ≤ j)) (fun i _ => l.length - (intOf i).toNat)
  case atStart => exact ⟨0, Nat.zero_le _, by omega, rfl, F, H1.out.1, H1.out.2.1, H1.out.2.2⟩
  case round =>
    obtain ⟨k, hk, hk150, rfl, HO⟩ := hrel
    by_cases hlt : k < l.length ∧ k < 150
    · obtain ⟨hlt, hlt2⟩ := hlt
      have hki : (k : Int) < (l.length : Int) := by omega
      have hki2 : (k : Int) < 150 := by omega
      obtain ⟨d, hd⟩ : ∃ d, l[k]? = some d := ⟨l[k], by simp [hlt]⟩
      obtain ⟨F1, hm, hg, hF⟩ := HO.out
      have hdd := HD.out.fr hg (fun _ h => h.elim)
      obtain ⟨b, off, rfl, hcs⟩ := hdd.resolve_left (by intro e; rw [e] at hlt; simp at hlt)
      obtain ⟨c0, c1, c2, c3⟩ := hcs k d hd
      have hsm : Small (runS s0 (l.take k)) := (HF.out.run _).small (by simp; omega)
      have HDo := Lib.hid (gmDo hm hsm d)
      have HS := Lib.hid (runS_succ (s := s0) hd)
      have H2 := Lib.hid (And.intro hg hF)
      clear hd hm hg hF hdd hcs hsm
      go_wp2_with (go_at_call 20; refine HDo.out.mono ?_; rintro e w2 ⟨v2, F2, rfl, _, hA2, hst, _⟩; have H3 := Lib.hid (And.intro hA2 hst); clear hA2 hst)
      go_roundw
      case rel => exact ⟨k + 1, by omega, by omega, by go_num, F2, by rw [HS.out]; exact H3.out.1, grow_step H2.out.1 H2.out.2 H3.out.2⟩
      case measure => simp [intOf] <;> omega
    · have e1 : l.take k = l.take 150 := by
        by_cases h : k < l.length
        · have : k = 150 := by omega
          rw [this]
        · rw [List.take_of_length_le (by omega), List.take_of_length_le (by omega)]
      by_cases hkl : k < l.length
      · have hki : (k : Int) < (l.length : Int) := by omega
        have hki2 : ¬ (k : Int) < 150 := by omega
        have d2 : decide ((k : Int) < 150) = false := decide_eq_false hki2
        go_wp2_with fail
        obtain ⟨F1, hm, hg, hF⟩ := HO.out
        rw [e1] at hm
        exact HR.out _ _ ⟨G, F1, by first | rfl | rw [hT], hm, hg, hF⟩
      · have hki : ¬ (k : Int) < (l.length : Int) := by omega
        have d2 : decide ((k : Int) < (l.length : Int)) = false := decide_eq_false hki
        go_wp2_with fail
        obtain ⟨F1, hm, hg, hF⟩ := HO.out
        rw [e1] at hm
        exact HR.out _ _ ⟨G, F1, by first | rfl | rw [hT], hm, hg, hF⟩
end Go.Proofs.YtcgcljmnnjalpaaGreat
