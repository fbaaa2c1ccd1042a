/- The contract of the statements' same, for every two lists of accesses that memory holds. -/
import Derived.Test.YtabplbalacldfaaLRefMoves
import Derived.Laws.StructEq
set_option linter.unusedVariables false
set_option linter.unusedSimpArgs false
namespace Go.Proofs.Ytabplbalacldfaa
open Go.RowKit Go.Kx
@[go_sem] theorem eq24 (a b c d e f : Int) (w : World) : (Op.equalIn 10000 24 (.agg #[.int .i64 a, .int .i64 b, .int .i64 c]) (.agg #[.int .i64 d, .int .i64 e, .int .i64 f])).run Try.prog w = .ok (a == d && b == e && c == f) w := by
  have u3 := Try.underlying3
  have a3 := Try.isAgg3
  have z3 := Try.sizeOf3
  rw [show (10000 : Nat) = 9999 + 1 from rfl, Op.equalIn]
  simp only [Sem.run_bind, run_underlying Try.underlying24, Result.andThen_ok]
  simp only [Std.Legacy.Range.forIn_eq_forIn_range', Std.Legacy.Range.size, Nat.sub_zero, Nat.add_sub_cancel, Nat.div_one, List.range'_succ, List.range'_zero, List.forIn_cons, List.forIn_nil]
  go_simp
  by_cases h1 : a = d <;> by_cases h2 : b = e <;> by_cases h3 : c = f <;> simp [h1, h2, h3]
@[go_sem] theorem eq41 (a b c d e f g h : Int) (w : World) : (Op.equalIn 10000 41 (.agg #[.int .i64 a, .int .i64 b, .int .i64 c, .int .i64 d]) (.agg #[.int .i64 e, .int .i64 f, .int .i64 g, .int .i64 h])).run Try.prog w = .ok (a == e && b == f && c == g && d == h) w := by
  have u3 := Try.underlying3
  have a3 := Try.isAgg3
  have z3 := Try.sizeOf3
  have hS : Try.prog.underlying 41 = some (.struct (Try.prog.fieldsOf 41)) := by kernel_rfl
  rw [show (10000 : Nat) = 9999 + 1 from rfl, run_equalIn_agg w 9999 41 _ _ hS (by kernel_rfl)]
  simp only [Program.fieldsOf, Try.underlying41]
  go_simp
  by_cases h1 : a = e <;> by_cases h2 : b = f <;> by_cases h3 : c = g <;> by_cases h4 : d = h <;> simp [h1, h2, h3, h4]
set_option maxHeartbeats 2000000 in
theorem same_any (w : World) (A B : Option Addr) (l m : List A3) (cap cap2 : Nat) (hl : Acc w A l) (hm : Acc w B m) (hn : l.length ≤ 4000) (hn2 : m.length ≤ 4000) :
    Calls Try.prog 17 #[.slice A l.length cap, .slice B m.length cap2] w fun e w' => e = .returned (.bool (decide (l = m))) ∧ Grow w w' := by
  refine cph fun R HR => ?_
  by_cases hlen : (l.length : Int) = (m.length : Int)
  · have hlen' : l.length = m.length := by omega
    by_cases h0 : l = []
    · subst h0
      have h1 : m = [] := List.eq_nil_of_length_eq_zero (by simpa using hlen'.symm)
      subst h1
      go_enter Try.func17, Try.ntmps17
      go_wp2_with fail
      refine wp_loop_once ?_
      go_wp2_with fail
      exact HR.out _ _ ⟨rfl, Grow.refl _⟩
    · obtain ⟨b, off, rfl, hA⟩ := hl.resolve_left h0
      obtain ⟨b2, off2, rfl, hB⟩ := hm.resolve_left (by rintro rfl; exact h0 (List.eq_nil_of_length_eq_zero (by simpa using hlen')))
      have HA := Lib.hid hA
      have HB := Lib.hid hB
      have HN := Lib.hid hlen'
      clear hA hl h0 hB hm hlen'
      go_enter Try.func17, Try.ntmps17
      go_wp2_with fail
      go_loopw [5] (fun i wr => ∃ k : Nat, k ≤ l.length ∧ i = .int .i64 k ∧ Hid (Grow w wr ∧ l.take k = m.take k)) (fun i _ => l.length - (intOf i).toNat)
      case atStart => exact ⟨0, by omega, rfl, Grow.refl _, rfl⟩
      case round =>
        obtain ⟨k, hk, rfl, HI⟩ := hrel
        by_cases hlt : k < l.length
        · obtain ⟨⟨x, y, z⟩, hx⟩ : ∃ x, l[k]? = some x := ⟨l[k]'(by omega), by simp⟩
          obtain ⟨⟨x2, y2, z2⟩, hx2⟩ : ∃ x, m[k]? = some x := ⟨m[k]'(by have := HN.out; omega), by simp⟩
          obtain ⟨c0, c1, c2⟩ := (HA.out.grow HI.out.1) k _ hx
          obtain ⟨d0, d1, d2⟩ := (HB.out.grow HI.out.1) k _ hx2
          dsimp only at c0 c1 c2 d0 d1 d2
          have HX := Lib.hid (And.intro hx hx2)
          clear hx hx2
          have hk0 : (0 : Int) ≤ (k : Int) := by omega
          have hk1 : (k : Int) < (l.length : Int) := by omega
          have hk2 : (k : Int) < (m.length : Int) := by omega
          have hk3 : k < m.length := by omega
          go_wp2_with fail
          go_quiet (fail)
          cases hq : (!x == x2 || !y == y2 || !z == z2)
          · go_wp2_with fail
            go_roundw
            case rel =>
              refine ⟨k + 1, by omega, by go_num, HI.out.1.drewN _, ?_⟩
              rw [take_snoc HX.out.1, take_snoc HX.out.2, HI.out.2]
              simp only [Bool.or_eq_false_iff, Bool.not_eq_false', beq_iff_eq] at hq
              rw [hq.1.1, hq.1.2, hq.2]
            case measure => simp [intOf]; have := HN.out; omega
          · go_wp2_with fail
            refine HR.out _ _ ⟨?_, HI.out.1.drewN _⟩
            have : l ≠ m := by
              rintro rfl
              have := HX.out.1.symm.trans HX.out.2
              simp at this
              obtain ⟨rfl, rfl, rfl⟩ := this
              simp at hq
            rw [decide_eq_false this]; rfl
        · obtain rfl : k = l.length := by omega
          go_wp2_with fail
          refine HR.out _ _ ⟨?_, HI.out.1⟩
          have := HI.out.2
          rw [List.take_length, List.take_of_length_le (by rw [HN.out]; exact Nat.le_refl _)] at this
          rw [decide_eq_true this]; rfl
  · go_enter Try.func17, Try.ntmps17
    go_wp2_with fail
    refine HR.out _ _ ⟨?_, Grow.refl _⟩
    have : l ≠ m := by rintro rfl; exact hlen rfl
    rw [decide_eq_false this]; rfl
end Go.Proofs.Ytabplbalacldfaa
