/- Contracts of the reference's lines and Pad, for every size and every list of accesses that memory holds. -/
import Derived.Test.YtabplbalacldfaaLpE
import Derived.Test.YtabplbalacldfaaLpG
set_option linter.unusedVariables false
set_option linter.unusedSimpArgs false
namespace Go.Proofs.Ytabplbalacldfaa
open Go.RowKit Go.Kx Go.Maps Go.Sort Go.Shelf
def lnsL (size : Int) (l : List A3) : List Int := l.map fun a => a.2.1 / size
theorem lnsL_one (l : List A3) : lnsL 1 l = cellsL l := by simp [lnsL, cellsL]
theorem lnsL_len (size : Int) (l : List A3) : (lnsL size l).length = l.length := by simp [lnsL]
theorem lnsL_at {size : Int} {l : List A3} {k : Nat} {x : A3} (h : l[k]? = some x) : (lnsL size l)[k]? = some (x.2.1 / size) := by simp [lnsL, h]
theorem nubK_next {zs : List Int} {k : Nat} {n : Int} (h : zs[k]? = some n) : nubK (k + 1) zs = if ((nubK k zs).any fun x => decide (x = n)) then nubK k zs else nubK k zs ++ [n] := by
  show (if _ then _ else _) = _
  rw [h, Option.getD_some]
set_option maxRecDepth 100000 in
set_option maxHeartbeats 4000000 in
theorem lines_any (w : World) (A : Option Addr) (l : List A3) (cap : Nat) (size : Int) (hA : Acc w A l) (hn : l.length ≤ 300) (s1 : 1 ≤ size) (s16 : size ≤ 16) (hok : ∀ x ∈ l, bad x = false) :
    Calls Try.prog 38 #[.int .i64 size, .slice A l.length cap] w (Made w (dist (lnsL size l))) := by
  refine cph fun R HR => ?_
  have HA := Lib.hid hA
  have HOK := Lib.hid hok
  clear hA hok
  obtain ⟨i0, hi, hz0, hz1, hz2⟩ := info_parts info3x
  have HI := Lib.hid (And.intro hi (And.intro hz0 (And.intro hz1 hz2)))
  clear hi hz0 hz1 hz2
  go_enter Try.func38, Try.ntmps38
  go_wp2_with fail
  go_loopw [5, 6] (fun v i wr => ∃ k : Nat, k ≤ l.length ∧ i = .int .i64 k ∧ Hid (wr.ownsRow w.heap.size 3 1 v (nubK k (lnsL size l)).length ((nubK k (lnsL size l)).map (Value.int .i64)) ∧ Grow w wr)) (fun _ i _ => l.length - (intOf i).toNat)
  case atStart => exact ⟨0, by omega, rfl, World.ownsRow_nil _ _ _ _, Grow.refl _⟩
  case round =>
    obtain ⟨k, hk, rfl, HO⟩ := hrel
    by_cases hlt : k < l.length
    · obtain ⟨⟨x, y, z⟩, hx⟩ : ∃ x, l[k]? = some x := ⟨l[k], by simp [hlt]⟩
      obtain ⟨b, off, hAe, hacc⟩ := HA.out.resolve_left (by rintro rfl; simp at hlt)
      obtain ⟨c0, c1, c2⟩ := (hacc.grow HO.out.2) k _ hx
      subst hAe
      dsimp only at c0 c1 c2
      have hb := HOK.out _ (List.mem_of_getElem? hx)
      simp [bad] at hb
      obtain ⟨⟨⟨⟨⟨b1, b2⟩, b3⟩, b4⟩, b5⟩, b6⟩ := hb
      have hnext := nubK_next (lnsL_at (size := size) hx)
      dsimp only at hnext
      have hlen := nubK_len (lnsL size l) k
      have hki : (k : Int) < (l.length : Int) := by omega
      obtain ⟨A2, cap2, he, hints, _⟩ := ints_of_own HO.out.1
      subst he
      have hq0 : 0 ≤ y / size := Int.ediv_nonneg b3 (by omega)
      have hq1 : y / size ≤ y := Int.ediv_le_self _ b3
      have hgs := HO.out.2.size
      have HN := Lib.hid (has_any (cap := cap2) hints (y / size) (by omega))
      have HZ := Lib.hid (And.intro HO.out.1 (And.intro HO.out.2 hnext))
      clear hx hacc hnext hints HO b1 b2 b5 b6
      generalize nubK k (lnsL size l) = N at HN HZ hlen ⊢
      by_cases hh : (N.any fun x => decide (x = y / size)) = true
      · rw [hh] at HN
        have hm := HZ.out.2.2
        rw [if_pos hh] at hm
        have HM := Lib.hid hm
        clear hm hh
        go_wp2_with (go_at_call 57; refine HN.out.mono ?_; rintro e w' ⟨rfl, rfl⟩)
        go_roundw
        case rel => exact ⟨k + 1, by omega, by go_num, by rw [HM.out]; exact ⟨HZ.out.1, HZ.out.2.1⟩⟩
        case measure => simp [intOf] <;> omega
      · have hh2 : (N.any fun x => decide (x = y / size)) = false := by rw [Bool.eq_false_iff]; exact hh
        rw [hh2] at HN
        have hm := HZ.out.2.2
        rw [if_neg hh] at hm
        have HM := Lib.hid hm
        clear hm hh hh2
        go_wp2_with (first | (go_at_call 57; refine HN.out.mono ?_; rintro e w' ⟨rfl, rfl⟩) | (at_builtin; refine wpList_append_own_at _ rfl (.tmp 25) (.tmp 27) 44 rfl w.heap.size 3 i0 (.int .i64 0) 1 8 Try.underlying44 HI.out.1 HI.out.2.1 HI.out.2.2.1 HI.out.2.2.2 rfl (by decide) _ _ _ rfl (HZ.out.1.alloc _) ⟨wr.heap.size, 0, none⟩ 1 1 [.int .i64 (y / size)] rfl rfl (cell_one_new _ _ _) (by simp [Value.oneCell']) (by unfold maxLen; omega) (by omega) (by simp; omega) ?_))
        intro v' w1 hown hgrow _ hat
        have H7 : Hid (w1.ownsRow w.heap.size 3 1 v' (N ++ [y / size]).length ((N ++ [y / size]).map (Value.int .i64)) ∧ Grow w w1) := ⟨by simpa using hown, (HZ.out.2.1.alloc _).grown hgrow (fun j e => (HZ.out.1.lt j e).1)⟩
        clear hown hgrow hat
        go_wp2_with fail
        go_roundw
        case rel => exact ⟨k + 1, by omega, by go_num, by rw [HM.out]; exact H7.out⟩
        case measure => simp [intOf] <;> omega
    · obtain rfl : k = l.length := by omega
      have hd : srt (nubK l.length (lnsL size l)) = dist (lnsL size l) := by
        have := dist_nub (lnsL size l)
        unfold nub at this
        rwa [lnsL_len] at this
      obtain ⟨A2, cap2, he, hints, hnone⟩ := ints_of_own HO.out.1
      subst he
      have hlen := nubK_len (lnsL size l) l.length
      have HS := Lib.hid (refSort_any hints hnone (by omega))
      rw [hd] at HS
      have HG := Lib.hid HO.out.2
      clear hints hnone HO hd
      generalize nubK l.length (lnsL size l) = N at HS hlen ⊢
      go_wp2_with (go_at_call 58; refine HS.out.mono ?_)
      rintro e w2 ⟨v, rfl, hown, hg⟩
      have H2 := Lib.hid (And.intro hown hg)
      clear hown hg
      go_wp2_with fail
      exact HR.out _ _ ⟨_, rfl, own_base_le H2.out.1 HG.out.size, HG.out.trans H2.out.2⟩
end Go.Proofs.Ytabplbalacldfaa
