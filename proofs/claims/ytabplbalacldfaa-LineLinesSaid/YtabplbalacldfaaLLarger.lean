/- The statement LineLarger answers true, for every size and every two lists of accesses that memory holds. -/
import Derived.Test.YtabplbalacldfaaLOwn
import Derived.BigQuiet
set_option linter.unusedVariables false
set_option linter.unusedSimpArgs false
namespace Go.Proofs.Ytabplbalacldfaa
open Go.RowKit Go.Kx
def MovesP (w : World) (size : Int) (l : List A3) (e : Ending) (w' : World) : Prop := Grow w w' ∧ ∃ v err, e = .returned (.tuple #[v, .int .i64 err]) ∧ (goodB size l = true → err = 0 ∧ w'.ownsRow w.heap.size 4 1 v l.length (bools (mvs size l))) ∧ (goodB size l = false → err = 1 ∧ v = .slice none 0 0)
theorem moves_p (w : World) (A : Option Addr) (l : List A3) (cap : Nat) (size : Int) (hl : Acc w A l) (hn : l.length ≤ 1000) : Calls Try.prog 13 #[.int .i64 size, .slice A l.length cap] w (MovesP w size l) :=
  (moves_any w A l cap size hl (by unfold maxLen; omega)).mono fun e w' ⟨h1, h2⟩ => by
    refine ⟨h1, ?_⟩
    cases hg : goodB size l
    · rw [hg] at h2
      exact ⟨_, _, h2, fun h => by simp at h, fun _ => ⟨rfl, rfl⟩⟩
    · rw [hg] at h2
      obtain ⟨v, rfl, hv⟩ := h2
      exact ⟨v, 0, rfl, fun _ => ⟨rfl, hv⟩, fun h => by simp at h⟩
theorem outs_append (size : Int) (l m : List A3) : ∀ st, outs size (l ++ m) st = outs size l st ++ outs size m (l.foldl (stepSt size) st) := by
  induction l with
  | nil => intro st; rfl
  | cons a l ih => intro st; simp [outs, ih]
theorem mvs_append_get (size : Int) (l m : List A3) (i : Nat) (hi : i < l.length) : (mvs size (l ++ m))[i]? = (mvs size l)[i]? := by
  simp only [mvs, outs_append, List.map_append]
  rw [List.getElem?_append_left (by simp [outs_length]; exact hi)]
theorem mvs_length (size : Int) (l : List A3) : (mvs size l).length = l.length := by simp [mvs, outs_length]
theorem bools_shape {w : World} {base n : Nat} {v : Value} {xs : List Bool} (h : w.ownsRow base 4 1 v n (bools xs)) : ∃ A c, v = .slice A n c := by
  rcases h.2 with ⟨rfl, rfl⟩ | ⟨g, cap, cur, rfl, _⟩
  · exact ⟨none, 0, rfl⟩
  · exact ⟨_, cap, rfl⟩
def TrueP (w : World) (e : Ending) (w' : World) : Prop := e = .returned (.bool true) ∧ Grow w w'
theorem sane_p (w : World) : Calls Try.prog 9 #[] w (TrueP w) := sane_any w
set_option maxHeartbeats 2000000 in
theorem larger_any (w : World) (A B : Option Addr) (l m : List A3) (cap cap2 : Nat) (size : Int) (hA : Arg w A l cap) (hB : Arg w B m cap2) :
    Calls Try.prog 5 #[.int .i64 size, .slice A l.length cap, .slice B m.length cap2] w (TrueP w) := by
  refine cph fun R HR => ?_
  have HA := Lib.hid hA
  have HB := Lib.hid hB
  clear hA hB
  by_cases h1 : (300 : Int) < (l.length : Int)
  · go_enter Try.func5, Try.ntmps5
    go_wp2_with (go_at_call 9; refine (sane_p _).mono ?_)
    rintro e w1 ⟨rfl, hg⟩
    have HG := Lib.hid hg
    clear hg
    go_wp2_with fail
    exact HR.out _ _ ⟨rfl, HG.out⟩
  · have h1' : (l.length : Int) ≤ 300 := by omega
    by_cases h2 : (300 : Int) < (m.length : Int)
    · go_enter Try.func5, Try.ntmps5
      go_wp2_with (go_at_call 9; refine (sane_p _).mono ?_)
      rintro e w1 ⟨rfl, hg⟩
      have HG := Lib.hid hg
      clear hg
      go_wp2_with fail
      exact HR.out _ _ ⟨rfl, HG.out⟩
    · have h2' : (m.length : Int) ≤ 300 := by omega
      clear h1 h2
      have HM1 := Lib.hid (moves_p w A l cap size HA.out.acc (by omega))
      go_enter Try.func5, Try.ntmps5
      go_wp2_with (go_at_call 13; refine HM1.out.mono ?_)
      rintro e w1 ⟨hg1, v1, err1, rfl, hgood1, hbad1⟩
      have HO1 := Lib.hid (own_any w1 A l cap (HA.out.grow hg1) (by omega))
      have H1 := Lib.hid (And.intro hg1 (And.intro hgood1 hbad1))
      clear hg1 hgood1 hbad1
      go_wp2_with (go_at_call 11; refine HO1.out.mono ?_)
      rintro e w2 ⟨v2, rfl, hown2, hg2⟩
      obtain ⟨i0, hi, hz0, hz1, hz2⟩ := info_parts info24
      have H2 := Lib.hid (And.intro hown2 hg2)
      have hl2 : Hid ((accCells m).length = m.length * 3) := accCells_length m
      have hb2 : Hid (w1.heap.size ≤ w2.heap.size) := hg2.size
      have hn63 : Hid (l.length + m.length ≤ maxLen) := by show _ ≤ _; unfold maxLen; omega
      clear hown2 hg2
      go_wp2_with (at_builtin; refine wpList_append_any _ rfl (.tmp 30) (.tmp 31) 22 rfl w1.heap.size 24 i0 (.agg #[.int .i64 0, .int .i64 0, .int .i64 0]) 3 24 Try.underlying22 hi hz0 hz1 hz2 rfl (by decide) v2 l.length (accCells l) rfl H2.out.1 B m.length cap2 (accCells m) rfl hl2.out (fun e => ?_) (fun ad e => (HB.out.grow (H1.out.1.trans H2.out.2)).cells ad e) (accCells_one m) hn63.out (by omega) hb2.out ?_)
      · have := HB.out.none e; exact ⟨by rw [this.2]; rfl, this.1⟩
      · intro v3 w3 hown3 hgrow3 _ _
        have hlm : (l ++ m).length = l.length + m.length := by simp
        rw [← accCells_append, ← hlm] at hown3
        obtain ⟨A3', cap3, rfl, hacc3, _⟩ := acc_owns hown3
        rw [hlm]
        have hg3 : Grow w1 w3 := H2.out.2.grown hgrow3 (fun k hk => (H2.out.1.lt k hk).1)
        have HM2 := Lib.hid (moves_p w3 A3' (l ++ m) cap3 size hacc3 (by omega))
        rw [hlm] at HM2
        have H3 := Lib.hid hg3
        clear hg3 hown3 hgrow3 hacc3 hlm
        go_wp2_with (go_at_call 13; refine HM2.out.mono ?_)
        rintro e w4 ⟨hg4, v4, err2, rfl, hgood2, hbad2⟩
        have H4 := Lib.hid (And.intro hg4 (And.intro hgood2 hbad2))
        clear hg4 hgood2 hbad2
        cases hq1 : goodB size l
        · obtain ⟨rfl, rfl⟩ := H1.out.2.2 hq1
          go_wp2_with (go_at_call 9; refine (sane_p _).mono ?_)
          rintro e w5 ⟨rfl, hg⟩
          have HG := Lib.hid hg
          clear hg
          go_wp2_with fail
          exact HR.out _ _ ⟨rfl, H1.out.1.trans (H3.out.trans (H4.out.1.trans HG.out))⟩
        · cases hq2 : goodB size (l ++ m)
          · obtain ⟨rfl, rfl⟩ := H4.out.2.2 hq2
            obtain ⟨rfl, _⟩ := H1.out.2.1 hq1
            go_wp2_with (go_at_call 9; refine (sane_p _).mono ?_)
            rintro e w5 ⟨rfl, hg⟩
            have HG := Lib.hid hg
            clear hg
            go_wp2_with fail
            exact HR.out _ _ ⟨rfl, H1.out.1.trans (H3.out.trans (H4.out.1.trans HG.out))⟩
          · obtain ⟨rfl, hrow4⟩ := H4.out.2.1 hq2
            obtain ⟨rfl, hrow1⟩ := H1.out.2.1 hq1
            rw [List.length_append] at hrow4
            have HS := Lib.hid (H3.out.trans H4.out.1)
            by_cases h0 : 0 < l.length
            · obtain ⟨g1, cap1, rfl, hc1, cur1, hb1, hx1⟩ := bools_at hrow1 h0
              obtain ⟨g4, cap4, rfl, hc4, cur4, hb4, hx4⟩ := bools_at hrow4 (by omega)
              have hw14 : Grow w1 w4 := HS.out
              have hcell : ∀ k, k < l.length → ∃ x, w4.cell? ⟨g1, k, none⟩ = some (.bool x) ∧ w4.cell? ⟨g4, k, none⟩ = some (.bool x) := by
                intro k hk
                obtain ⟨x, hx⟩ : ∃ x, (mvs size l)[k]? = some x := ⟨(mvs size l)[k]'(by rw [mvs_length]; exact hk), by simp [mvs_length, hk]⟩
                refine ⟨x, ?_, ?_⟩
                · rw [blk_cell (hw14.at_ hb1)]; exact hx1 k x hx
                · rw [blk_cell hb4]; exact hx4 k x (by rw [mvs_append_get _ _ _ _ hk]; exact hx)
              have HCELL := Lib.hid hcell
              clear hrow1 hrow4 hx1 hx4 hb1 hb4 hw14 hcell
              go_wp2_with fail
              go_loopw [11] (fun i wr => ∃ k : Nat, k ≤ l.length ∧ i = .int .i64 k ∧ Hid (Grow w4 wr)) (fun i _ => l.length - (intOf i).toNat)
              case atStart => exact ⟨0, by omega, rfl, Grow.refl _⟩
              case round =>
                obtain ⟨k, hk, rfl, HI⟩ := hrel
                by_cases hlt : k < l.length
                · obtain ⟨x, q1, q2⟩ := HCELL.out k hlt
                  have q1 := HI.out.cell q1
                  have q2 := HI.out.cell q2
                  have hk0 : (0 : Int) ≤ (k : Int) := by omega
                  have hk1 : (k : Int) < (l.length : Int) := by omega
                  have hk2 : (k : Int) < ((l.length + m.length : Nat) : Int) := by omega
                  have hk3 : k < l.length + m.length := by omega
                  go_wp2_with fail
                  go_quiet (fail)
                  go_wp2_with fail
                  go_roundw
                  case rel => exact ⟨k + 1, by omega, by go_num, HI.out.drewN _⟩
                  case measure => simp [intOf]; omega
                · obtain rfl : k = l.length := by omega
                  go_wp2_with (go_at_call 9; refine (sane_p _).mono ?_)
                  rintro e w5 ⟨rfl, hg⟩
                  have HG := Lib.hid hg
                  clear hg
                  go_wp2_with fail
                  exact HR.out _ _ ⟨rfl, H1.out.1.trans (HS.out.trans (HI.out.trans HG.out))⟩
            · have h00 : l.length = 0 := by omega
              obtain ⟨A1, c1, rfl⟩ := bools_shape hrow1
              obtain ⟨A4, c4, rfl⟩ := bools_shape hrow4
              clear hrow1 hrow4
              go_wp2_with fail
              refine wp_loop_once ?_
              go_wp2_with (go_at_call 9; refine (sane_p _).mono ?_)
              rintro e w5 ⟨rfl, hg⟩
              have HG := Lib.hid hg
              clear hg
              go_wp2_with fail
              exact HR.out _ _ ⟨rfl, H1.out.1.trans (HS.out.trans HG.out)⟩
end Go.Proofs.Ytabplbalacldfaa
