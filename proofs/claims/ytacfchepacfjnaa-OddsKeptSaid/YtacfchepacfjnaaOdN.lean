/- Least; OddsLeast answers true. -/
import Derived.Test.YtacfchepacfjnaaOdM
set_option linter.unusedVariables false
set_option linter.unusedSimpArgs false
namespace Go.Proofs.Ytacfchepacfjnaa
open Go.RowKit Go.Kx Go.Maps Go.Sort Go.Shelf
def pw (m : Nat) (T : Int) : Nat → Int
  | 0 => m
  | k + 1 => pw m T k * T
theorem pw_bd {m : Nat} {T : Int} (hm : m ≤ 4) (h0 : 0 ≤ T) (hT : T ≤ 24) {k : Nat} (hk : k ≤ 2) : 0 ≤ pw m T k ∧ pw m T k ≤ 2304 := by
  have h1 : 0 ≤ (m : Int) * T ∧ (m : Int) * T ≤ 96 := ⟨Int.mul_nonneg (by omega) h0, by
    have := Int.mul_le_mul (a := (m : Int)) (b := T) (c := 4) (d := 24) (by omega) hT h0 (by omega)
    omega⟩
  have h2 : 0 ≤ (m : Int) * T * T ∧ (m : Int) * T * T ≤ 2304 := ⟨Int.mul_nonneg h1.1 h0, by
    have := Int.mul_le_mul (a := (m : Int) * T) (b := T) (c := 96) (d := 24) h1.2 hT h0 (by omega)
    omega⟩
  have e0 : pw m T 0 = m := rfl
  have e1 : pw m T 1 = (m : Int) * T := rfl
  have e2 : pw m T 2 = (m : Int) * T * T := rfl
  match k, hk with
  | 0, _ => rw [e0]; omega
  | 1, _ => rw [e1]; omega
  | 2, _ => rw [e2]; omega
def okL (cs : List Int) (d : Int) : Bool := decide (0 < tot cs) && (decide (0 ≤ d) && decide (d ≤ 2))
def LeastR (cs : List Int) (d : Int) : Value := if okL cs d then .tuple #[.int .i64 1, .int .i64 (pw cs.length (tot cs) d.toNat), .int .i64 0] else .tuple #[.int .i64 0, .int .i64 0, .int .i64 1]
set_option maxHeartbeats 1000000 in
theorem Least_any {w : World} {A : Option Addr} {cap : Nat} {cs : List Int} (h : IntsAt w A cs) (d : Int) :
    Calls Try.prog 21 #[.slice A cs.length cap, .int .i64 d] w fun e w' => e = .returned (LeastR cs d) ∧ w = w' := by
  refine cph fun R HR => ?_
  have HV := Lib.hid (valid_any (cap := cap) h)
  unfold LeastR at HR
  by_cases hv : 0 < tot cs
  · obtain ⟨n1, n4, hcv, hts⟩ := tot_pos hv
    have hvd : decide (0 < tot cs) = true := by simp [hv]
    rw [hvd] at HV
    have HS := Lib.hid (sum_any (cap := cap) h hcv (by omega))
    rw [← hts] at HS
    have htb := tot_bd cs
    clear hvd hts hcv h
    by_cases h0 : d < 0
    · have e : okL cs d = false := by simp [okL]; intro _ _; omega
      rw [e] at HR
      simp only [Bool.false_eq_true, if_false, if_true] at HR
      clear e hv
      go_enter Try.func21, Try.ntmps21
      go_wp2_with (go_at_call 16; refine HV.out.mono ?_; rintro e w' ⟨rfl, rfl⟩)
      go_ret3
      exact HR.out _ _ ⟨rfl, rfl⟩
    · by_cases h2 : 2 < d
      · have e : okL cs d = false := by simp [okL]; intro _ _; omega
        rw [e] at HR
        simp only [Bool.false_eq_true, if_false, if_true] at HR
        clear e hv
        go_enter Try.func21, Try.ntmps21
        go_wp2_with (go_at_call 16; refine HV.out.mono ?_; rintro e w' ⟨rfl, rfl⟩)
        go_ret3
        exact HR.out _ _ ⟨rfl, rfl⟩
      · have e : okL cs d = true := by simp [okL, hv]; omega
        rw [e] at HR
        simp only [Bool.false_eq_true, if_false, if_true] at HR
        obtain ⟨n, rfl⟩ := Int.eq_ofNat_of_zero_le (show 0 ≤ d by omega)
        rw [Int.toNat_natCast] at HR
        generalize tot cs = T at HS HR htb
        clear e hv
        obtain ⟨t0, t24⟩ := htb
        have hn2 : n ≤ 2 := by omega
        go_enter Try.func21, Try.ntmps21
        go_wp2_with (go_at_call 16; refine HV.out.mono ?_; rintro e w' ⟨rfl, rfl⟩)
        go_loop [5, 21] (fun v i => ∃ k : Nat, k ≤ n ∧ i = .int .i64 k ∧ v = .int .i64 (pw cs.length T k)) (fun _ i => n - (intOf i).toNat)
        case atStart => exact ⟨0, Nat.zero_le _, rfl, rfl⟩
        case round =>
          obtain ⟨k, hk, rfl, rfl⟩ := hrel
          by_cases hlt : k < n
          · have hki : (k : Int) < (n : Int) := by omega
            have b1 := pw_bd n4 t0 t24 (k := k) (by omega)
            have b2 := pw_bd n4 t0 t24 (k := k + 1) (by omega)
            have e1 : pw cs.length T (k + 1) = pw cs.length T k * T := rfl
            rw [e1] at b2
            have HE := Lib.hid e1
            generalize pw cs.length T k = y at b1 b2 HE ⊢
            have hw : IntKind.i64.wrap (y * T) = y * T := by rw [IntKind.wrap_i64]; omega
            have HW := Lib.hid hw
            clear e1 hw
            go_wp2_with (go_at_call 35; refine HS.out.mono ?_; rintro e w' ⟨rfl, rfl⟩)
            go_round
            case rel => exact ⟨k + 1, by omega, by go_num, by rw [HE.out]⟩
            case measure => simp [intOf]; omega
          · have hki : ¬ (k : Int) < (n : Int) := by omega
            obtain rfl : k = n := by omega
            go_wp2_with fail
            go_ret3
            exact HR.out _ _ ⟨rfl, rfl⟩
  · have hvd : decide (0 < tot cs) = false := by simpa using hv
    have e : okL cs d = false := by simp [okL, hv]
    rw [e] at HR
    simp only [Bool.false_eq_true, if_false, if_true] at HR
    rw [hvd] at HV
    clear e hv hvd h
    go_enter Try.func21, Try.ntmps21
    go_wp2_with (go_at_call 16; refine HV.out.mono ?_; rintro e w' ⟨rfl, rfl⟩)
    go_ret3
    exact HR.out _ _ ⟨rfl, rfl⟩
set_option maxHeartbeats 1000000 in
theorem leasts_any (w : World) (A : Option Addr) (cap : Nat) (cs : List Int) (d : Int) (h : IntsAt w A cs) :
    Calls Try.prog 4 #[.slice A cs.length cap, .int .i64 d] w (TrueP w) := by
  refine cph fun R HR => ?_
  have HAW := Lib.hid (awake_any w)
  have HLf := Lib.hid (fun (w1 : World) (hg : Grow w w1) => Least_any (w := w1) (cap := cap) (h.grow hg) d)
  have HTf := Lib.hid (fun (w1 : World) (hg : Grow w w1) => total_any (w := w1) (cap := cap) (h.grow hg))
  go_enter Try.func4, Try.ntmps4
  go_wp2_with (go_at_call 14; refine HAW.out.mono ?_)
  rintro e w1 ⟨rfl, hg1⟩
  have HL := Lib.hid (HLf.out w1 hg1)
  have HT := Lib.hid (HTf.out w1 hg1)
  have H1 := Lib.hid hg1
  clear hg1 HAW HLf HTf h
  unfold LeastR at HL
  by_cases hv : 0 < tot cs
  · obtain ⟨n1, n4, hcv, hts⟩ := tot_pos hv
    have htb := tot_bd cs
    clear hts hcv
    by_cases h0 : d < 0
    · have e : okL cs d = false := by simp [okL]; intro _ _; omega
      rw [e] at HL
      simp only [Bool.false_eq_true, if_false, if_true] at HL
      generalize tot cs = T at HT hv
      have hv' : (T == 0) = false := by simp; omega
      clear e
      go_wp2_with (first | (go_at_call 21; refine HL.out.mono ?_; rintro e w' ⟨rfl, rfl⟩) | (go_at_call 17; refine HT.out.mono ?_; rintro e w' ⟨rfl, rfl⟩))
      exact HR.out _ _ ⟨rfl, H1.out⟩
    · by_cases h2 : 2 < d
      · have e : okL cs d = false := by simp [okL]; intro _ _; omega
        rw [e] at HL
        simp only [Bool.false_eq_true, if_false, if_true] at HL
        generalize tot cs = T at HT hv
        have hv' : (T == 0) = false := by simp; omega
        clear e
        go_wp2_with (first | (go_at_call 21; refine HL.out.mono ?_; rintro e w' ⟨rfl, rfl⟩) | (go_at_call 17; refine HT.out.mono ?_; rintro e w' ⟨rfl, rfl⟩))
        exact HR.out _ _ ⟨rfl, H1.out⟩
      · have e : okL cs d = true := by simp [okL, hv]; omega
        rw [e] at HL
        simp only [Bool.false_eq_true, if_false, if_true] at HL
        obtain ⟨n, rfl⟩ := Int.eq_ofNat_of_zero_le (show 0 ≤ d by omega)
        rw [Int.toNat_natCast] at HL
        generalize tot cs = T at HT hv HL htb
        have hv' : (T == 0) = false := by simp; omega
        obtain ⟨t0, t24⟩ := htb
        have hn2 : n ≤ 2 := by omega
        clear e
        go_wp2_with (first | (go_at_call 21; refine HL.out.mono ?_; rintro e w' ⟨rfl, rfl⟩) | (go_at_call 17; refine HT.out.mono ?_; rintro e w' ⟨rfl, rfl⟩))
        go_loop [9, 10] (fun v i => ∃ k : Nat, k ≤ n ∧ i = .int .i64 k ∧ v = .int .i64 (pw cs.length T k)) (fun _ i => n - (intOf i).toNat)
        case atStart => exact ⟨0, Nat.zero_le _, rfl, rfl⟩
        case round =>
          obtain ⟨k, hk, rfl, rfl⟩ := hrel
          by_cases hlt : k < n
          · have hki : (k : Int) < (n : Int) := by omega
            have b1 := pw_bd n4 t0 t24 (k := k) (by omega)
            have b2 := pw_bd n4 t0 t24 (k := k + 1) (by omega)
            have e1 : pw cs.length T (k + 1) = pw cs.length T k * T := rfl
            rw [e1] at b2
            have HE := Lib.hid e1
            generalize pw cs.length T k = y at b1 b2 HE ⊢
            have hw : IntKind.i64.wrap (y * T) = y * T := by rw [IntKind.wrap_i64]; omega
            have HW := Lib.hid hw
            clear e1 hw
            go_wp2_with fail
            go_round
            case rel => exact ⟨k + 1, by omega, by go_num, by rw [HE.out]⟩
            case measure => simp [intOf]; omega
          · have hki : ¬ (k : Int) < (n : Int) := by omega
            obtain rfl : k = n := by omega
            go_wp2_with fail
            exact HR.out _ _ ⟨rfl, H1.out⟩
  · have e : okL cs d = false := by simp [okL, hv]
    have ht0 : tot cs = 0 := by have := tot_bd cs; omega
    rw [e] at HL
    simp only [Bool.false_eq_true, if_false, if_true] at HL
    rw [ht0] at HT
    clear e hv ht0
    go_wp2_with (first | (go_at_call 21; refine HL.out.mono ?_; rintro e w' ⟨rfl, rfl⟩) | (go_at_call 17; refine HT.out.mono ?_; rintro e w' ⟨rfl, rfl⟩))
    exact HR.out _ _ ⟨rfl, H1.out⟩
end Go.Proofs.Ytacfchepacfjnaa
