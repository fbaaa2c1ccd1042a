/- The contract of the reference's Moves, for every size and every list of accesses that memory holds. -/
import Derived.Test.YtabplbalacldfaaLJudgeLaw
import Derived.Maps.AppendAt
set_option linter.unusedVariables false
set_option linter.unusedSimpArgs false
namespace Go.Proofs.Ytabplbalacldfaa
open Go.RowKit Go.Kx
set_option maxHeartbeats 2000000 in
theorem refMoves_any (w : World) (A : Option Addr) (l : List A3) (cap : Nat) (size : Int) (hl : Acc w A l) (hn : l.length ≤ 1000) :
    Calls Try.prog 14 #[.int .i64 size, .slice A l.length cap] w (MovesP w size l) := by
  refine cph fun R HR => ?_
  have HV := Lib.hid (right_any w A l cap size hl (by unfold maxLen; omega))
  have HL := Lib.hid hl
  clear hl
  cases hgood : goodB size l
  · go_enter Try.func14, Try.ntmps14
    go_wp2_with (go_at_call 30; refine HV.out.mono ?_)
    rintro e w1 ⟨rfl, hg⟩
    have HG := Lib.hid hg
    clear hg
    rw [hgood]
    go_wp2_with fail
    exact HR.out _ _ ⟨HG.out, _, _, rfl, fun h => absurd (hgood.symm.trans h) (by decide), fun _ => ⟨rfl, rfl⟩⟩
  · obtain ⟨p1, p2, p3, p4⟩ := good_parts hgood
    have HOK := Lib.hid p4
    have HGD := Lib.hid hgood
    clear p4
    rw [hgood] at HV
    clear hgood
    go_enter Try.func14, Try.ntmps14
    go_wp2_with (go_at_call 30; refine HV.out.mono ?_)
    rintro e w1 ⟨rfl, hg⟩
    have HG := Lib.hid hg
    clear hg
    go_wp2_with fail
    go_loopw [6, 7] (fun v i wr => ∃ k : Nat, k ≤ l.length ∧ i = .int .i64 k ∧ Hid (Grow w wr ∧ wr.ownsRow w.heap.size 4 1 v k (bools ((mvs size l).take k)))) (fun _ i _ => l.length - (intOf i).toNat)
    case atStart => exact ⟨0, by omega, rfl, HG.out, World.ownsRow_nil _ _ _ _⟩
    case round =>
      obtain ⟨k, hk, rfl, HI⟩ := hrel
      by_cases hlt : k < l.length
      · obtain ⟨x, hx⟩ : ∃ x, l[k]? = some x := ⟨l[k]'(by omega), by simp⟩
        obtain ⟨b, off, hAe, hacc⟩ := HL.out.resolve_left (by rintro rfl; simp at hlt)
        subst hAe
        have HJ := Lib.hid (judge_any wr b off l cap size k x (hacc.grow HI.out.1) hx (by omega) p1 p2 HOK.out)
        have HX := Lib.hid hx
        clear hx hacc
        go_wp2_with (go_at_call 31; refine HJ.out.mono ?_)
        rintro e w2 ⟨rfl, hg2⟩
        have hown := owns_grow HI.out.2 hg2
        have HG2 := Lib.hid (And.intro hg2 hown)
        have hsz : Hid (w.heap.size ≤ w2.heap.size) := by have h1 := HI.out.1.size; have h2 := hg2.size; show _ ≤ _; omega
        clear hg2 hown
        obtain ⟨i0, hi, hz0, hz1, hz2⟩ := info_parts info4
        have hk63 : Hid (k + 1 ≤ maxLen) := by show _ ≤ _; unfold maxLen; omega
        go_wp2_with (at_builtin; refine wpList_append_own_at _ rfl (.tmp 27) (.tmp 29) 36 rfl w.heap.size 4 i0 (.bool false) 1 1 Try.underlying36 hi hz0 hz1 hz2 rfl (by decide) _ _ _ rfl (HG2.out.2.alloc _) ⟨w2.heap.size, 0, none⟩ 1 1 [.bool (judgeOf size l k x).1] rfl rfl (cell_one_new _ _ _) (by simp [Value.oneCell']) hk63.out (by omega) ?_ ?_)
        · rw [size_alloc]; exact Nat.le_succ_of_le hsz.out
        · intro v1 w3 hown1 hgrow1 _ hat1
          have H3 := Lib.hid (And.intro hown1 hgrow1)
          clear hown1 hgrow1 hat1
          go_wp2_with fail
          go_roundw
          case rel =>
            refine ⟨k + 1, by omega, by go_num, ?_, ?_⟩
            · exact ((HI.out.1.trans HG2.out.1).alloc _).grown H3.out.2 (fun j hj => (HI.out.2.lt j hj).1)
            · have e : (mvs size l).take (k + 1) = (mvs size l).take k ++ [(judgeOf size l k x).1] := take_snoc (by simp [mvs, judge_eq HOK.out HX.out])
              rw [e]
              simpa [bools] using H3.out.1
          case measure => simp [intOf]; omega
      · obtain rfl : k = l.length := by omega
        go_wp2_with fail
        refine HR.out _ _ ⟨HI.out.1, _, _, rfl, fun _ => ⟨rfl, ?_⟩, fun h => absurd (HGD.out.symm.trans h) (by decide)⟩
        have := HI.out.2
        rwa [List.take_of_length_le (by rw [mvs_length]; exact Nat.le_refl _)] at this
end Go.Proofs.Ytabplbalacldfaa
