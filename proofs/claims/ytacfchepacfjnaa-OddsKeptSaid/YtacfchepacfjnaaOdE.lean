/- The thread that goes: the closure of the schedule, and the reference's best. -/
import Derived.Test.YtacfchepacfjnaaOdD
set_option linter.unusedVariables false
set_option linter.unusedSimpArgs false
namespace Go.Proofs.Ytacfchepacfjnaa
open Go.RowKit Go.Kx Go.Maps Go.Sort Go.Shelf
/-- The thread with steps left that has the greatest priority, of the first k; -1: there is none. -/
def bstK (l p : List Int) : Nat → Int
  | 0 => -1
  | k + 1 => if 0 < l[k]?.getD 0 ∧ (bstK l p k < 0 ∨ p[(bstK l p k).toNat]?.getD 0 < p[k]?.getD 0) then (k : Int) else bstK l p k
def bst (l p : List Int) : Int := bstK l p l.length
theorem bstK_bd (l p : List Int) : ∀ k, -1 ≤ bstK l p k ∧ bstK l p k < k
  | 0 => by simp [bstK]
  | k + 1 => by
    have := bstK_bd l p k
    unfold bstK
    split <;> omega
theorem bstK_pos {l p : List Int} {k j : Nat} (hj : j < k) (h : 0 < l[j]?.getD 0) : 0 ≤ bstK l p k := by
  induction k with
  | zero => omega
  | succ k ih =>
    unfold bstK
    by_cases e : j = k
    · subst e
      split
      · omega
      · next hn =>
        have := bstK_bd l p j
        have : ¬ bstK l p j < 0 := fun q => hn ⟨h, .inl q⟩
        omega
    · have := ih (by omega)
      split <;> omega
def DrewInt (w : World) (z : Int) (e : Ending) (w' : World) : Prop := e = .returned (.int .i64 z) ∧ ∃ q, w' = w.drewN q
theorem drewN_add (w : World) (a b : Nat) : (w.drewN a).drewN b = w.drewN (a + b) := by
  simp [World.drewN, Nat.add_assoc]
theorem IntsAt.drewN {w : World} {A : Option Addr} {l : List Int} (h : IntsAt w A l) (q : Nat) : IntsAt (w.drewN q) A l := h
set_option maxRecDepth 20000 in
set_option maxHeartbeats 1000000 in
theorem best_any {w : World} {A B : Option Addr} {c d : Nat} {l p : List Int} (h1 : IntsAt w A l) (h2 : IntsAt w B p) (hlp : p.length = l.length) (hl : l.length ≤ 1000000) :
    Calls Try.prog 42 #[.slice A l.length c, .slice B p.length d] w (DrewInt w (bst l p)) := by
  refine cph fun R HR => ?_
  have H1 := Lib.hid (And.intro h1 (And.intro h2 hlp))
  clear h1 h2
  generalize hn : p.length = n at *
  have HN := Lib.hid hlp
  have HP := Lib.hid hn
  clear hlp hn
  go_enter Try.func42, Try.ntmps42
  go_wp2_with fail
  go_loopw [5, 6] (fun v i wr => ∃ k q : Nat, k ≤ l.length ∧ i = .int .i64 k ∧ v = .int .i64 (bstK l p k) ∧ wr = w.drewN q) (fun _ i _ => l.length - (intOf i).toNat)
  case atStart => exact ⟨0, 0, Nat.zero_le _, rfl, rfl, rfl⟩
  case round =>
    obtain ⟨k, q, hk, rfl, rfl, rfl⟩ := hrel
    by_cases hlt : k < l.length
    · have hki : (k : Int) < (l.length : Int) := by omega
      obtain ⟨b1, o1, rfl, hc1⟩ := H1.out.1.at_ hlt
      have hltp : k < p.length := by rw [HP.out, HN.out]; exact hlt
      obtain ⟨b2, o2, rfl, hc2⟩ := H1.out.2.1.at_ hltp
      have hkn : (k : Int) < (n : Int) := by rw [HN.out]; exact hki
      have hbd := bstK_bd l p k
      obtain ⟨a, ha⟩ : ∃ a, a = bstK l p k := ⟨_, rfl⟩
      obtain ⟨x, hx⟩ : ∃ x, x = l[k] := ⟨_, rfl⟩
      obtain ⟨y, hy⟩ : ∃ y, y = p[k] := ⟨_, rfl⟩
      have hstep : bstK l p (k + 1) = if 0 < x ∧ (a < 0 ∨ p[a.toNat]?.getD 0 < y) then (k : Int) else a := by
        rw [ha]
        show (if 0 < l[k]?.getD 0 ∧ (bstK l p k < 0 ∨ p[(bstK l p k).toNat]?.getD 0 < p[k]?.getD 0) then (k : Int) else bstK l p k) = _
        simp only [List.getElem?_eq_getElem hlt, List.getElem?_eq_getElem hltp, Option.getD_some, hx, hy]
      rw [← ha] at hbd ⊢
      rw [← hx] at hc1
      rw [← hy] at hc2
      have HH := Lib.hid (And.intro ha (And.intro hx hy))
      clear ha hx hy
      obtain ⟨ha0, ha1⟩ := hbd
      by_cases hx0 : 0 < x
      · by_cases hna : a < 0
        · rw [if_pos ⟨hx0, .inl hna⟩] at hstep
          have HS := Lib.hid hstep
          clear hstep
          go_wp2_with fail
          go_quiet (fail)
          go_wp2_with fail
          go_roundw
          case rel => exact ⟨k + 1, _, by omega, by go_num, by rw [HS.out], rfl⟩
          case measure => simp [intOf]; omega
        · obtain ⟨m, rfl⟩ := Int.eq_ofNat_of_zero_le (show 0 ≤ a by omega)
          have hm : m < p.length := by rw [HP.out, HN.out]; omega
          obtain ⟨b3, o3, e3, hc3⟩ := H1.out.2.1.at_ hm
          cases e3
          have hpm : p[(m : Int).toNat]?.getD 0 = p[m] := by simp [hm]
          rw [hpm] at hstep
          have hmn : (m : Int) < (n : Int) := by rw [HN.out]; omega
          have hna' : decide ((m : Int) < 0) = false := by simp
          generalize p[m] = z at hc3 hstep hpm
          by_cases hzy : z < y
          · rw [if_pos ⟨hx0, .inr hzy⟩] at hstep
            have HS := Lib.hid hstep
            clear hstep hpm
            go_wp2_with fail
            go_quiet (fail)
            go_wp2_with fail
            go_roundw
            case rel => exact ⟨k + 1, _, by omega, by go_num, by rw [HS.out], rfl⟩
            case measure => simp [intOf]; omega
          · rw [if_neg (by rintro ⟨_, h | h⟩ <;> omega)] at hstep
            have HS := Lib.hid hstep
            have hzy' : decide (z < y) = false := by simp [hzy]
            clear hstep hpm
            go_wp2_with fail
            go_quiet (fail)
            go_wp2_with fail
            go_roundw
            case rel => exact ⟨k + 1, _, by omega, by go_num, by rw [HS.out], rfl⟩
            case measure => simp [intOf]; omega
      · rw [if_neg (fun h => hx0 h.1)] at hstep
        have HS := Lib.hid hstep
        have hx0' : decide (0 < x) = false := by simp [hx0]
        clear hstep
        go_wp2_with fail
        go_quiet (fail)
        go_wp2_with fail
        go_roundw
        case rel => exact ⟨k + 1, _, by omega, by go_num, by rw [HS.out], rfl⟩
        case measure => simp [intOf]; omega
    · have hki : ¬ (k : Int) < (l.length : Int) := by omega
      obtain rfl : k = l.length := by omega
      go_wp2_with fail
      exact HR.out _ _ ⟨rfl, _, rfl⟩
set_option maxRecDepth 20000 in
set_option maxHeartbeats 1000000 in
theorem chosen_any {w : World} {A B : Option Addr} {c d : Nat} {l p : List Int} {Bl Bn : Nat} (bl : Boxed w Bl 22 (.slice A l.length c)) (bn : Boxed w Bn 22 (.slice B p.length d)) (h1 : IntsAt w A l) (h2 : IntsAt w B p) (hlp : p.length = l.length) (hl : l.length ≤ 1000000) :
    Calls Try.prog 58 #[.pointer (some ⟨Bl, 0, none⟩), .pointer (some ⟨Bn, 0, none⟩)] w (DrewInt w (bst l p)) := by
  refine cph fun R HR => ?_
  have H1 := Lib.hid (And.intro h1 (And.intro h2 hlp))
  have hbl := bl.cell
  have hbn := bn.cell
  clear h1 h2 bl bn
  generalize hn : p.length = n at *
  have HN := Lib.hid hlp
  have HP := Lib.hid hn
  clear hlp hn
  go_enter Try.func58, Try.ntmps58
  go_wp2_with fail
  go_loopw [3, 8] (fun v i wr => ∃ k q : Nat, k ≤ l.length ∧ i = .int .i64 k ∧ v = .int .i64 (bstK l p k) ∧ wr = w.drewN q) (fun _ i _ => l.length - (intOf i).toNat)
  case atStart => exact ⟨0, 0, Nat.zero_le _, rfl, rfl, rfl⟩
  case round =>
    obtain ⟨k, q, hk, rfl, rfl, rfl⟩ := hrel
    by_cases hlt : k < l.length
    · have hki : (k : Int) < (l.length : Int) := by omega
      obtain ⟨b1, o1, rfl, hc1⟩ := H1.out.1.at_ hlt
      have hltp : k < p.length := by rw [HP.out, HN.out]; exact hlt
      obtain ⟨b2, o2, rfl, hc2⟩ := H1.out.2.1.at_ hltp
      have hkn : (k : Int) < (n : Int) := by rw [HN.out]; exact hki
      have hbd := bstK_bd l p k
      obtain ⟨a, ha⟩ : ∃ a, a = bstK l p k := ⟨_, rfl⟩
      obtain ⟨x, hx⟩ : ∃ x, x = l[k] := ⟨_, rfl⟩
      obtain ⟨y, hy⟩ : ∃ y, y = p[k] := ⟨_, rfl⟩
      have hstep : bstK l p (k + 1) = if 0 < x ∧ (a < 0 ∨ p[a.toNat]?.getD 0 < y) then (k : Int) else a := by
        rw [ha]
        show (if 0 < l[k]?.getD 0 ∧ (bstK l p k < 0 ∨ p[(bstK l p k).toNat]?.getD 0 < p[k]?.getD 0) then (k : Int) else bstK l p k) = _
        simp only [List.getElem?_eq_getElem hlt, List.getElem?_eq_getElem hltp, Option.getD_some, hx, hy]
      rw [← ha] at hbd ⊢
      rw [← hx] at hc1
      rw [← hy] at hc2
      have HH := Lib.hid (And.intro ha (And.intro hx hy))
      clear ha hx hy
      obtain ⟨ha0, ha1⟩ := hbd
      by_cases hx0 : 0 < x
      · by_cases hna : a < 0
        · rw [if_pos ⟨hx0, .inl hna⟩] at hstep
          have HS := Lib.hid hstep
          clear hstep
          go_wp2_with fail
          go_quiet (fail)
          go_wp2_with fail
          go_roundw
          case rel => exact ⟨k + 1, _, by omega, by go_num, by rw [HS.out], rfl⟩
          case measure => simp [intOf]; omega
        · obtain ⟨m, rfl⟩ := Int.eq_ofNat_of_zero_le (show 0 ≤ a by omega)
          have hm : m < p.length := by rw [HP.out, HN.out]; omega
          obtain ⟨b3, o3, e3, hc3⟩ := H1.out.2.1.at_ hm
          cases e3
          have hpm : p[(m : Int).toNat]?.getD 0 = p[m] := by simp [hm]
          rw [hpm] at hstep
          have hmn : (m : Int) < (n : Int) := by rw [HN.out]; omega
          have hna' : decide ((m : Int) < 0) = false := by simp
          generalize p[m] = z at hc3 hstep hpm
          by_cases hzy : z < y
          · rw [if_pos ⟨hx0, .inr hzy⟩] at hstep
            have HS := Lib.hid hstep
            clear hstep hpm
            go_wp2_with fail
            go_quiet (fail)
            go_wp2_with fail
            go_roundw
            case rel => exact ⟨k + 1, _, by omega, by go_num, by rw [HS.out], rfl⟩
            case measure => simp [intOf]; omega
          · rw [if_neg (by rintro ⟨_, h | h⟩ <;> omega)] at hstep
            have HS := Lib.hid hstep
            have hzy' : decide (z < y) = false := by simp [hzy]
            clear hstep hpm
            go_wp2_with fail
            go_quiet (fail)
            go_wp2_with fail
            go_roundw
            case rel => exact ⟨k + 1, _, by omega, by go_num, by rw [HS.out], rfl⟩
            case measure => simp [intOf]; omega
      · rw [if_neg (fun h => hx0 h.1)] at hstep
        have HS := Lib.hid hstep
        have hx0' : decide (0 < x) = false := by simp [hx0]
        clear hstep
        go_wp2_with fail
        go_quiet (fail)
        go_wp2_with fail
        go_roundw
        case rel => exact ⟨k + 1, _, by omega, by go_num, by rw [HS.out], rfl⟩
        case measure => simp [intOf]; omega
    · have hki : ¬ (k : Int) < (l.length : Int) := by omega
      obtain rfl : k = l.length := by omega
      go_wp2_with fail
      exact HR.out _ _ ⟨rfl, _, rfl⟩
end Go.Proofs.Ytacfchepacfjnaa
