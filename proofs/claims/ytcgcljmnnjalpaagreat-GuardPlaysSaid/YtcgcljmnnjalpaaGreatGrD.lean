/- The reference's manager: Count, Free. -/
import Derived.Test.YtcgcljmnnjalpaaGreatGrC
set_option linter.unusedVariables false
set_option linter.unusedSimpArgs false
namespace Go.Proofs.YtcgcljmnnjalpaaGreat
open Go.RowKit Go.Kx
open Go.ChangeMaps (setBlock)
def cnJ (h : Nat → Nat → Int) (a : Int) (j : Nat) : Nat := (List.range j).countP fun i => h (i / 3) (i % 3) == a
theorem cnJ_succ (h : Nat → Nat → Int) (a : Int) (t : Nat) {k : Nat} (hk : k < 3) : cnJ h a (t * 3 + (k + 1)) = if h t k == a then cnJ h a (t * 3 + k) + 1 else cnJ h a (t * 3 + k) := by
  unfold cnJ
  rw [← Nat.add_assoc, List.range_succ, List.countP_append]
  have e1 : (t * 3 + k) / 3 = t := by omega
  have e2 : (t * 3 + k) % 3 = k := by omega
  rw [List.countP_singleton, e1, e2]
  cases h t k == a <;> simp
theorem cnJ_le (h : Nat → Nat → Int) (a : Int) (j : Nat) : cnJ h a j ≤ j := by
  unfold cnJ
  exact Nat.le_trans List.countP_le_length (by simp)
set_option maxHeartbeats 1000000 in
theorem rCount {b : Nat} {vi vb : Value} {kb : List P2} {w : World} {F : FP} {s : RS} (h : RMv b vi vb kb w F s) (a : Int) (ha : 0 < a) : Calls Tryz.prog 149 #[.pointer (some ⟨b, 0, none⟩), .int .i64 a] w fun e w' => e = .returned (.int .i64 (cnH s.holds a)) ∧ w = w' := by
  refine cph fun R HR => ?_
  have hh : ∀ t k : Nat, t < 4 → k < 3 → w.cell? ⟨b, 4 + t * 3 + k, none⟩ = some (.int .i64 (s.holds t k)) := fun t k ht hk => (blk_cell h.blk _).trans (ref_hold s vi vb ht hk)
  have HH := Lib.hid hh
  rw [show cnH s.holds a = cnJ s.holds a 12 from rfl] at HR
  generalize s.holds = hs at HH HR
  clear hh h
  go_enter Tryz.func149, Tryz.ntmps149
  go_wp2_with fail
  go_loop [5, 6] (fun c i => ∃ t : Nat, t ≤ 4 ∧ i = .int .i64 t ∧ c = .int .i64 (cnJ hs a (t * 3))) (fun _ i => 4 - (intOf i).toNat)
  case atStart => exact ⟨0, by omega, rfl, rfl⟩
  case round =>
    obtain ⟨t, ht, rfl, rfl⟩ := hrel
    by_cases hlt : t < 4
    · have hki : (t : Int) < 4 := by omega
      go_wp2_with fail
      go_loop [5, 7] (fun c i => ∃ k : Nat, k ≤ 3 ∧ i = .int .i64 k ∧ c = .int .i64 (cnJ hs a (t * 3 + k))) (fun _ i => 3 - (intOf i).toNat)
      case atStart => exact ⟨0, by omega, rfl, rfl⟩
      case round =>
        obtain ⟨k, hk, rfl, rfl⟩ := hrel
        by_cases hl2 : k < 3
        · have hk2 : (k : Int) < 3 := by omega
          have c0 := HH.out t k hlt hl2
          have hsucc := cnJ_succ hs a t hl2
          have hle := cnJ_le hs a (t * 3 + k)
          cases hx : hs t k == a
          · rw [hx] at hsucc
            have HS := Lib.hid hsucc
            clear hsucc
            go_wp2_with fail
            go_round
            case rel => exact ⟨k + 1, by omega, by go_num, by rw [HS.out]; rfl⟩
            case measure => simp [intOf] <;> omega
          · rw [hx] at hsucc
            have HS := Lib.hid hsucc
            clear hsucc
            go_wp2_with fail
            go_round
            case rel => exact ⟨k + 1, by omega, by go_num, by rw [HS.out]; go_num⟩
            case measure => simp [intOf] <;> omega
        · obtain rfl : k = 3 := by omega
          have hle := cnJ_le hs a (t * 3 + 3)
          go_wp2_with fail
          go_round
          case rel => exact ⟨t + 1, by omega, by go_num, by rw [Nat.add_mul]⟩
          case measure => simp [intOf] <;> omega
    · obtain rfl : t = 4 := by omega
      have hle := cnJ_le hs a 12
      go_wp2_with fail
      exact HR.out _ _ ⟨rfl, rfl⟩
end Go.Proofs.YtcgcljmnnjalpaaGreat
