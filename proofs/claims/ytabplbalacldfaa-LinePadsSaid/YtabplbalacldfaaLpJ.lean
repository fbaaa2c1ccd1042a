/- The statement LinePads answers true, for every size and every list of accesses and of cells that memory holds. -/
import Derived.Test.YtabplbalacldfaaLpD
import Derived.Test.YtabplbalacldfaaLpI
set_option linter.unusedVariables false
set_option linter.unusedSimpArgs false
namespace Go.Proofs.Ytabplbalacldfaa
open Go.RowKit Go.Kx Go.Maps Go.Sort Go.Shelf
def PadQ (w : World) (L : List A3) (z : Int) (e : Ending) (w' : World) : Prop :=
  ∃ A cap, e = .returned (.tuple #[.slice A L.length cap, .int .i64 z]) ∧ Acc w' A L ∧ Grow w w'
def LayQ (w : World) (L : List Int) (z : Int) (e : Ending) (w' : World) : Prop :=
  ∃ A cap, e = .returned (.tuple #[.slice A L.length cap, .int .i64 z]) ∧ IntsAt w' A L ∧ Grow w w'
set_option maxRecDepth 100000 in
set_option maxHeartbeats 4000000 in
theorem pads_any (w : World) (A B : Option Addr) (l : List A3) (cells : List Int) (cap cap2 : Nat) (size : Int) (hA : Arg w A l cap) (hB : IntsAt w B cells) :
    Calls Try.prog 6 #[.int .i64 size, .slice A l.length cap, .slice B cells.length cap2] w (TrueP w) := by
  refine cph fun R HR => ?_
  by_cases h1 : (300 : Int) < (l.length : Int)
  · clear hA hB
    go_enter Try.func6, Try.ntmps6
    go_wp2_with (go_at_call 9; refine (sane_p _).mono ?_)
    rintro e w1 ⟨rfl, hg⟩
    have HG := Lib.hid hg
    clear hg
    go_wp2_with fail
    exact HR.out _ _ ⟨rfl, HG.out⟩
  · by_cases h2 : (300 : Int) < (cells.length : Int)
    · clear hA hB
      go_enter Try.func6, Try.ntmps6
      go_wp2_with (go_at_call 9; refine (sane_p _).mono ?_)
      rintro e w1 ⟨rfl, hg⟩
      have HG := Lib.hid hg
      clear hg
      go_wp2_with fail
      exact HR.out _ _ ⟨rfl, HG.out⟩
    · have hl : l.length ≤ 300 := by omega
      have hc : cells.length ≤ 300 := by omega
      have HP1 := Lib.hid (pad_any w A l cap size hA hl)
      have HP2 := Lib.hid (fun (W : World) (hg : Grow w W) => refPad_any W A l cap size (hA.acc.grow hg) hl)
      have HL1 := Lib.hid (fun (W : World) (hg : Grow w W) => layout_any (cap := cap2) size (hB.grow hg) (by omega))
      have HL2 := Lib.hid (fun (W : World) (hg : Grow w W) => refLayout_any (cap := cap2) size (hB.grow hg) (by omega))
      have hpl : (if padB size l then padOf size l else []).length ≤ 300 := by
        split
        · rw [padOf_len]; exact hl
        · simp
      have hll : (if layB size cells then layL size cells.length else []).length ≤ 300 := by
        split
        · rw [layL_len]; exact hc
        · simp
      replace HP1 : Hid (Calls Try.prog 18 #[.int .i64 size, .slice A l.length cap] w (PadQ w (if padB size l then padOf size l else []) (if padB size l then 0 else 1))) := HP1
      replace HP2 : Hid (∀ W : World, Grow w W → Calls Try.prog 19 #[.int .i64 size, .slice A l.length cap] W (PadQ W (if padB size l then padOf size l else []) (if padB size l then 0 else 1))) := HP2
      replace HL1 : Hid (∀ W : World, Grow w W → Calls Try.prog 20 #[.int .i64 size, .slice B cells.length cap2] W (LayQ W (if layB size cells then layL size cells.length else []) (if layB size cells then 0 else 1))) := by
        intro W hg
        exact (HL1.out W hg).mono fun e w' h => h.form
      replace HL2 : Hid (∀ W : World, Grow w W → Calls Try.prog 21 #[.int .i64 size, .slice B cells.length cap2] W (LayQ W (if layB size cells then layL size cells.length else []) (if layB size cells then 0 else 1))) := by
        intro W hg
        exact (HL2.out W hg).mono fun e w' h => h.form
      generalize (if padB size l then padOf size l else []) = L at HP1 HP2 hpl
      generalize (if layB size cells then layL size cells.length else []) = C at HL1 HL2 hll
      generalize (if padB size l then (0 : Int) else 1) = z1 at HP1 HP2
      generalize (if layB size cells then (0 : Int) else 1) = z2 at HL1 HL2
      have ez1 : (z1 == z1) = true := by simp
      have ez2 : (z2 == z2) = true := by simp
      clear hA hB
      go_enter Try.func6, Try.ntmps6
      go_wp2_with (go_at_call 18; refine HP1.out.mono ?_)
      rintro e w1 ⟨A1, c1, rfl, ha1, hg1⟩
      have H1 := Lib.hid (And.intro ha1 hg1)
      clear ha1 hg1
      go_wp2_with (go_at_call 19; refine (HP2.out _ H1.out.2).mono ?_)
      rintro e w2 ⟨A2, c2, rfl, ha2, hg2⟩
      have H2 := Lib.hid (And.intro (H1.out.1.grow hg2) (And.intro ha2 (H1.out.2.trans hg2)))
      clear ha2 hg2
      go_wp2_with (go_at_call 20; refine (HL1.out _ H2.out.2.2).mono ?_)
      rintro e w3 ⟨A3', c3, rfl, ha3, hg3⟩
      have H3 := Lib.hid (And.intro ha3 (And.intro hg3 (H2.out.2.2.trans hg3)))
      clear ha3 hg3
      go_wp2_with (go_at_call 21; refine (HL2.out _ H3.out.2.2).mono ?_)
      rintro e w4 ⟨A4, c4, rfl, ha4, hg4⟩
      have HS : Hid (Calls Try.prog 17 #[.slice A1 L.length c1, .slice A2 L.length c2] w4 (EqP w4 true)) := by
        exact (same_any w4 A1 A2 L L c1 c2 (H2.out.1.grow (H3.out.2.1.trans hg4)) (H2.out.2.1.grow (H3.out.2.1.trans hg4)) (by omega) (by omega)).mono fun e w' ⟨he, hg⟩ => ⟨by rw [he]; simp, hg⟩
      have HI : Hid (∀ W : World, Grow w4 W → Calls Try.prog 22 #[.slice A3' C.length c3, .slice A4 C.length c4] W (EqP W true)) := by
        intro W hg
        have := ints_any (c := c3) (d := c4) ((H3.out.1.grow hg4).grow hg) (ha4.grow hg) (by omega)
        rwa [show (C == C) = true by simp] at this
      have H4 := Lib.hid (H3.out.2.2.trans hg4)
      clear ha4 hg4
      go_wp2_with (first | (go_at_call 17; refine HS.out.mono ?_; rintro e w5 ⟨rfl, hg5⟩; have H5 := Lib.hid hg5; clear hg5) | (go_at_call 22; refine (HI.out _ H5.out).mono ?_; rintro e w6 ⟨rfl, hg6⟩; have H6 := Lib.hid (H5.out.trans hg6); clear hg6) | (go_at_call 9; refine (sane_p _).mono ?_; rintro e w7 ⟨rfl, hg7⟩; have H7 := Lib.hid (H4.out.trans (H6.out.trans hg7)); clear hg7))
      exact HR.out _ _ ⟨rfl, H7.out⟩
end Go.Proofs.Ytabplbalacldfaa
