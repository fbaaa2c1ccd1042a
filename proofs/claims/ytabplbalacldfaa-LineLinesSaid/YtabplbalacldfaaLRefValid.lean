/- Contracts of the reference's Valid and right, for every number and every list of accesses that memory holds. -/
import Derived.Test.YtabplbalacldfaaLLarger
set_option linter.unusedVariables false
set_option linter.unusedSimpArgs false
namespace Go.Proofs.Ytabplbalacldfaa
open Go.RowKit Go.Kx
set_option maxHeartbeats 2000000 in
theorem refValid_any (w : World) (A : Option Addr) (l : List A3) (cap : Nat) (hl : Acc w A l) (hn : l.length ≤ maxLen) :
    Calls Try.prog 16 #[.slice A l.length cap] w fun e w' => e = .returned (.bool (okL l)) ∧ Grow w w' := by
  refine cph fun R HR => ?_
  unfold maxLen at hn
  by_cases h0 : l = []
  · subst h0
    go_enter Try.func16, Try.ntmps16
    go_wp2_with fail
    refine wp_loop_once ?_
    go_wp2_with fail
    exact HR.out _ _ ⟨rfl, Grow.refl _⟩
  · obtain ⟨b, off, rfl, hA⟩ := hl.resolve_left h0
    have HA := Lib.hid hA
    clear hA hl h0
    go_enter Try.func16, Try.ntmps16
    go_wp2_with fail
    go_loopw [3] (fun i wr => ∃ k : Nat, k ≤ l.length ∧ i = .int .i64 k ∧ Hid (Grow w wr ∧ ∀ j x, j < k → l[j]? = some x → bad x = false)) (fun i _ => l.length - (intOf i).toNat)
    case atStart => exact ⟨0, by omega, rfl, Grow.refl _, fun j x hj => absurd hj (by omega)⟩
    case round =>
      obtain ⟨k, hk, rfl, HI⟩ := hrel
      by_cases hlt : k < l.length
      · obtain ⟨⟨x, y, z⟩, hx⟩ : ∃ x, l[k]? = some x := ⟨l[k], by simp [hlt]⟩
        obtain ⟨c0, c1, c2⟩ := (HA.out.grow HI.out.1) k _ hx
        dsimp only at c0 c1 c2
        have HX := Lib.hid hx
        clear hx
        go_upto_region 5 with fail
        go_cut [42] (fun v wx => v = .bool (bad (x, y, z)) ∧ wr.alloc (Obj.cells #[Value.int IntKind.i64 x, Value.int IntKind.i64 y, Value.int IntKind.i64 z] 24) = wx)
        case first =>
          go_wp2
          all_goals go_meet
          all_goals refine ⟨?_, rfl⟩
          all_goals first | rfl | (simp [bad]; omega)
        case rest =>
        obtain ⟨rfl, rfl⟩ := hcut
        cases hb : bad (x, y, z)
        · go_wp2_with fail
          go_roundw
          case rel =>
            refine ⟨k + 1, by omega, by go_num, HI.out.1.alloc _, fun j x' hj hx' => ?_⟩
            by_cases hjk : j = k
            · subst hjk; rw [HX.out] at hx'; cases hx'; exact hb
            · exact HI.out.2 j x' (by omega) hx'
          case measure => simp [intOf]; omega
        · go_wp2_with fail
          refine HR.out _ _ ⟨?_, HI.out.1.alloc _⟩
          have : l.any bad = true := List.any_eq_true.2 ⟨_, List.mem_of_getElem? HX.out, hb⟩
          simp [okL, this]
      · obtain rfl : k = l.length := by omega
        go_wp2_with fail
        refine HR.out _ _ ⟨?_, HI.out.1⟩
        have : l.any bad = false := by
          rw [List.any_eq_false]
          intro x hx
          obtain ⟨j, hj, rfl⟩ := List.getElem_of_mem hx
          simpa using HI.out.2 j _ hj (by simp [hj])
        simp [okL, this]
        try omega
theorem right_any (w : World) (A : Option Addr) (l : List A3) (cap : Nat) (size : Int) (hl : Acc w A l) (hn : l.length ≤ maxLen) :
    Calls Try.prog 30 #[.int .i64 size, .slice A l.length cap] w fun e w' => e = .returned (.bool (goodB size l)) ∧ Grow w w' := by
  refine cph fun R HR => ?_
  have HC := Lib.hid (refValid_any w A l cap hl hn)
  clear hl
  by_cases h1 : 1 ≤ size
  · by_cases h2 : size ≤ 16
    · go_enter Try.func30, Try.ntmps30
      go_wp2_with (go_at_call 16; refine HC.out.mono ?_)
      rintro e w1 ⟨rfl, hg⟩
      have HG := Lib.hid hg
      clear hg
      go_wp2_with fail
      exact HR.out _ _ ⟨by simp [goodB, h1, h2], HG.out⟩
    · go_enter Try.func30, Try.ntmps30
      go_wp2_with fail
      exact HR.out _ _ ⟨by simp [goodB, h1]; intros; omega, Grow.refl _⟩
  · go_enter Try.func30, Try.ntmps30
    go_wp2_with fail
    exact HR.out _ _ ⟨by simp [goodB]; intros; omega, Grow.refl _⟩
end Go.Proofs.Ytabplbalacldfaa
