/- GuardBounds: what the statement's function answers. -/
import Derived.Test.YtcgcljmnnjalpaaGreatGgR
import Derived.Test.YtcgcljmnnjalpaaGreatGxL
import Derived.Test.YtcgcljmnnjalpaaGreatGxB
set_option linter.unusedVariables false
set_option linter.unusedSimpArgs false
namespace Go.Proofs.YtcgcljmnnjalpaaGreat
open Go.RowKit Go.Kx
open Go.ChangeMaps (setBlock)
theorem BInv.run {s : RS} (hi : Inv s) (h : BInv s) : ∀ l : List Dd, BInv (runS s l) := by
  intro l
  induction l generalizing s with
  | nil => exact h
  | cons d l ih => exact ih (hi.do d) (h.do hi d)
set_option maxRecDepth 100000 in
set_option maxHeartbeats 8000000 in
theorem bounds_any {w : World} {A : Option Addr} {cap : Nat} {l : List Dd} (h : DdAt w A l) (k t : Int) : Calls Tryz.prog 10 #[.int .i64 k, .int .i64 t, .slice A l.length cap] w (TrueP w) := by
  refine cph fun R HR => ?_
  have HD := Lib.hid h
  have HA := Lib.hid (awake_any w)
  have HK := Lib.hid (fun w => kindOf_any k w)
  have HM : Hid (∀ w1, Calls Tryz.prog 22 #[.int .i64 k, .int .i64 t, .slice none 0 0] w1 (MadeG w1 (newS (kind6 k) (thrN t).toNat) (thrN t))) := fun w1 => made_any (A := none) (l := []) (.inl rfl) k t
  have hk6 := kind6_le k
  have htn := thrN_le t
  obtain ⟨N, hN⟩ := Int.eq_ofNat_of_zero_le (a := thrN t) (by omega)
  rw [hN] at HM htn
  rw [Int.toNat_natCast] at HM
  have hinv := inv_new (kind6 k) (n := N) (by omega) (by omega)
  have hfew := few_new (kind6 k) (n := N) (by omega)
  have hbi := binv_new (kind6 k) N
  have hB := gBound
  have hok : (okK (kind6 k) && okT (N : Int)) = true := by
    unfold okK okT
    simp
    omega
  have HBd : Hid (∀ w, Calls Tryz.prog 34 #[.int .i64 (kind6 k), .int .i64 N] w fun e w' => e = .returned (.tuple #[.int .i64 (bdV (kind6 k) N), .int .i64 0]) ∧ w = w') := fun w => (gBound w (kind6 k) N).mono fun e w' ⟨h1, h2⟩ => ⟨by rw [h1, hok]; rfl, h2⟩
  have hle : ∀ l : List Dd, (kind6 k = 1 → (runS (newS (kind6 k) N) l).items.length ≤ 3 * N * N) ∧ (kind6 k = 4 → (runS (newS (kind6 k) N) l).items.length ≤ 3 * N) := fun l => by
    have := bound_le (hinv.run l) (hbi.run hinv l)
    rw [runS_kind, runS_n] at this
    exact this
  have hBc : ∃ B, bdV (kind6 k) N = B ∧ ((0 ≤ B ∧ (kind6 k = 1 ∨ kind6 k = 4) ∧ ∀ l : List Dd, ((addrs (runS (newS (kind6 k) N) l)).length : Int) ≤ B) ∨ (B = -1 ∧ kind6 k ≠ 1 ∧ kind6 k ≠ 4)) := by
    refine ⟨_, rfl, ?_⟩
    unfold bdV
    by_cases h1 : kind6 k = 1
    · rw [if_pos h1]
      have h0 : (0 : Int) ≤ 3 * (N : Int) * N := Int.mul_nonneg (by omega) (by omega)
      refine .inl ⟨h0, .inl h1, fun l => ?_⟩
      have := (hle l).1 h1
      rw [addrs_len]
      have h2 : (((runS (newS (kind6 k) N) l).items.length : Nat) : Int) ≤ ((3 * N * N : Nat) : Int) := by exact_mod_cast this
      simpa using h2
    · by_cases h4 : kind6 k = 4
      · rw [if_neg h1, if_pos h4]
        refine .inl ⟨by omega, .inr h4, fun l => ?_⟩
        have := (hle l).2 h4
        rw [addrs_len]
        omega
      · rw [if_neg h1, if_neg h4]
        exact .inr ⟨rfl, h1, h4⟩
  obtain ⟨B, hBB, hBc⟩ := hBc
  have HB : Hid (∀ w, Calls Tryz.prog 34 #[.int .i64 (kind6 k), .int .i64 N] w fun e w' => e = .returned (.tuple #[.int .i64 B, .int .i64 0]) ∧ w = w') := fun w => by rw [← hBB]; exact HBd.out w
  generalize newS (kind6 k) N = s0 at HM hinv hfew hbi hle hBc
  have HI := Lib.hid (And.intro hinv hfew)
  have HBC := Lib.hid hBc
  clear hinv hfew hbi hle hok hB HBd h hBB hN
  go_enter Tryz.func10, Tryz.ntmps10
  go_wp2_with (first | (go_at_call 13; refine HA.out.mono ?_; rintro e w1 ⟨rfl, hg1⟩; have HG1 := Lib.hid hg1; clear hg1) | (go_at_call 22; refine (HM.out _).mono ?_; rintro e w2 ⟨G, F, rfl, hA, hg, hF⟩; have H1 := Lib.hid (And.intro hA (And.intro (HG1.out.trans hg) (fun j hj => Nat.le_trans HG1.out.size (hF j hj)))); clear hA hg hF) | (go_at_call 28; refine (HK.out _).mono ?_; rintro e w' ⟨rfl, rfl⟩) | (go_at_call 34; refine (HB.out _).mono ?_; rintro e w' ⟨rfl, rfl⟩))
  go_loopw [11] (fun i wr => ∃ k : Nat, k ≤ l.length ∧ k ≤ 150 ∧ i = .int .i64 k ∧ Hid (∃ F, GM G wr F (runS s0 (l.take k)) ∧ Grow w wr ∧ ∀ j, F j → w.heap.size ≤ j)) (fun i _ => l.length - (intOf i).toNat)
  case atStart => exact ⟨0, Nat.zero_le _, by omega, rfl, F, H1.out.1, H1.out.2.1, H1.out.2.2⟩
  case round =>
    obtain ⟨j, hj, hj150, rfl, HO⟩ := hrel
    by_cases hlt : j < l.length ∧ j < 150
    · obtain ⟨hlt, hlt2⟩ := hlt
      have hki : (j : Int) < (l.length : Int) := by omega
      have hki2 : (j : Int) < 150 := by omega
      obtain ⟨d, hd⟩ : ∃ d, l[j]? = some d := ⟨l[j], by simp [hlt]⟩
      obtain ⟨F1, hm, hg, hF⟩ := HO.out
      have hdd := HD.out.fr hg (fun _ h => h.elim)
      obtain ⟨b, off, rfl, hcs⟩ := hdd.resolve_left (by intro e; rw [e] at hlt; simp at hlt)
      obtain ⟨c0, c1, c2, c3⟩ := hcs j d hd
      have hsm : Small (runS s0 (l.take j)) := (HI.out.2.run _).small (by simp; omega)
      have HDo := Lib.hid (gmDo hm hsm d)
      have HS := Lib.hid (runS_succ (s := s0) hd)
      have HSm : Hid (Small (runS s0 (l.take (j + 1)))) := (HI.out.2.run _).small (by simp; omega)
      have H2 := Lib.hid (And.intro hg hF)
      clear hd hm hg hF hdd hcs hsm
      rcases HBC.out with ⟨hB0, _, hBl⟩ | ⟨hB1, _, _⟩
      · have hlen := hBl (l.take (j + 1))
        obtain ⟨M, hM⟩ : ∃ M, (addrs (runS s0 (l.take (j + 1)))).length = M := ⟨_, rfl⟩
        rw [hM] at hlen
        have HM7 := Lib.hid hM
        have d0 : decide (0 ≤ B) = true := decide_eq_true hB0
        have d1 : decide (B < (M : Int)) = false := decide_eq_false (by omega)
        clear hM hBl
        go_wp2_with (first | (go_at_call 20; refine HDo.out.mono ?_; rintro e w2 ⟨v2, F2, rfl, _, hA2, hst, _⟩; rw [← HS.out] at hA2; have HW := Lib.hid (gmWaiting hA2 HSm.out); have H3 := Lib.hid (And.intro hA2 (grow_step H2.out.1 H2.out.2 hst)); clear hA2 hst) | (go_at_call 21; refine HW.out.mono ?_; intro e w4 ho; obtain ⟨A4, c4, rfl, o4, g4⟩ := ho.ints; rw [HM7.out]; have H4 := Lib.hid (And.intro ((GM.local G).fr H3.out.1 (G := fun _ => False) g4 (fun _ _ h => h)) (H3.out.2.1.trans g4)); clear o4 g4 ho))
        go_roundw
        case rel => exact ⟨j + 1, by omega, by omega, by go_num, F2, H4.out.1, H4.out.2, H3.out.2.2⟩
        case measure => simp [intOf] <;> omega
      · subst hB1
        go_wp2_with (go_at_call 20; refine HDo.out.mono ?_; rintro e w2 ⟨v2, F2, rfl, _, hA2, hst, _⟩; rw [← HS.out] at hA2; have H3 := Lib.hid (And.intro hA2 (grow_step H2.out.1 H2.out.2 hst)); clear hA2 hst)
        go_roundw
        case rel => exact ⟨j + 1, by omega, by omega, by go_num, F2, H3.out.1, H3.out.2.1, H3.out.2.2⟩
        case measure => simp [intOf] <;> omega
    · have d12 : (¬ (j : Int) < (l.length : Int)) ∨ ((j : Int) < (l.length : Int) ∧ ¬ (j : Int) < 150) := by omega
      obtain ⟨F1, hm, hg, hF⟩ := HO.out
      have H9 := Lib.hid hg
      clear hm hg hF hlt
      rcases HBC.out with ⟨hB0, hk14, _⟩ | ⟨hB1, hk1, hk4⟩
      · have d0 : decide (0 ≤ B) = true := decide_eq_true hB0
        rcases hk14 with hk1 | hk4
        · have e1 : (kind6 k == 1) = true := by simp [hk1]
          have HKK := Lib.hid hk1
          clear hk1
          rcases d12 with hki | ⟨hki, hki2⟩
          · have d1 := decide_eq_false hki
            go_wp2_with (go_at_call 28; refine (HK.out _).mono ?_; rintro e w' ⟨rfl, rfl⟩)
            exact HR.out _ _ ⟨rfl, H9.out⟩
          · have d2 := decide_eq_false hki2
            go_wp2_with (go_at_call 28; refine (HK.out _).mono ?_; rintro e w' ⟨rfl, rfl⟩)
            exact HR.out _ _ ⟨rfl, H9.out⟩
        · have e1 : (kind6 k == 1) = false := by simp [hk4]
          have e4 : (kind6 k == 4) = true := by simp [hk4]
          have HKK := Lib.hid hk4
          clear hk4
          rcases d12 with hki | ⟨hki, hki2⟩
          · have d1 := decide_eq_false hki
            go_wp2_with (go_at_call 28; refine (HK.out _).mono ?_; rintro e w' ⟨rfl, rfl⟩)
            exact HR.out _ _ ⟨rfl, H9.out⟩
          · have d2 := decide_eq_false hki2
            go_wp2_with (go_at_call 28; refine (HK.out _).mono ?_; rintro e w' ⟨rfl, rfl⟩)
            exact HR.out _ _ ⟨rfl, H9.out⟩
      · subst hB1
        have e1 : (kind6 k == 1) = false := by simpa using hk1
        have e4 : (kind6 k == 4) = false := by simpa using hk4
        have HKK := Lib.hid (And.intro hk1 hk4)
        clear hk1 hk4
        rcases d12 with hki | ⟨hki, hki2⟩
        · have d1 := decide_eq_false hki
          go_wp2_with (go_at_call 28; refine (HK.out _).mono ?_; rintro e w' ⟨rfl, rfl⟩)
          exact HR.out _ _ ⟨rfl, H9.out⟩
        · have d2 := decide_eq_false hki2
          go_wp2_with (go_at_call 28; refine (HK.out _).mono ?_; rintro e w' ⟨rfl, rfl⟩)
          exact HR.out _ _ ⟨rfl, H9.out⟩
end Go.Proofs.YtcgcljmnnjalpaaGreat
