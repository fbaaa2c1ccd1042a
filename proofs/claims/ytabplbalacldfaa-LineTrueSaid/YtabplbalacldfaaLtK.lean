/- The statement LineTrue answers true, for every size and every list of accesses that memory holds. -/
import Derived.Test.YtabplbalacldfaaLtI
import Derived.Test.YtabplbalacldfaaLtJ
import Derived.Test.YtabplbalacldfaaLpF
import Derived.Test.YtabplbalacldfaaLCountsLaw
set_option linter.unusedVariables false
set_option linter.unusedSimpArgs false
namespace Go.Proofs.Ytabplbalacldfaa
open Go.RowKit Go.Kx
/-- Counts without a false transfer. -/
def TQ (w : World) (z : Int) (e : Ending) (w' : World) : Prop :=
  Grow w w' ∧ ((∃ c, e = .returned (.tuple #[.slice none 0 c, .int .i64 z])) ∨ ∃ g c, e = .returned (.tuple #[.slice (some ⟨g, 0, none⟩) 4 c, .int .i64 z]) ∧ ∀ t, t < 4 → w'.cell? ⟨g, t * 4 + 3, none⟩ = some (.int .i64 0))
def SQ (w : World) (z : Int) (e : Ending) (w' : World) : Prop := ∃ A c, e = .returned (.tuple #[.slice A 0 c, .int .i64 z]) ∧ Grow w w'
theorem countsQ (w : World) (A : Option Addr) (l : List A3) (cap : Nat) (n : Int) (hl : Acc w A l) (hn : l.length ≤ 300) (hS : Sep n l) :
    Calls Try.prog 10 #[.int .i64 n, .slice A l.length cap] w (TQ w (if goodB n l then 0 else 1)) :=
  (counts_p w A l cap n hl (by omega)).mono fun e w' h => by
    cases hg : goodB n l
    · obtain ⟨rfl, hg2⟩ := h.bad hg
      exact ⟨hg2, .inl ⟨0, rfl⟩⟩
    · obtain ⟨g, c, rfl, _, hc, hg2, _⟩ := h.good hg
      refine ⟨hg2, .inr ⟨g, c, rfl, fun t ht => ?_⟩⟩
      have := hc t 3 ht (by omega)
      rwa [cnt_sep_all hS] at this
theorem sharedQ (w : World) (A : Option Addr) (l : List A3) (cap : Nat) (n : Int) (hl : Acc w A l) (hn : l.length ≤ 300) (hS : Sep n l) :
    Calls Try.prog 25 #[.int .i64 n, .slice A l.length cap] w (SQ w (if goodB n l then 0 else 1)) :=
  (shared_any w A l cap n hl hn).mono fun e w' h => by
    rw [shr_sep hS] at h
    obtain ⟨A2, c, rfl, _, hg⟩ := h.form
    refine ⟨A2, c, ?_, hg⟩
    have : (if goodB n l = true then ([] : List Int) else []).length = 0 := by split <;> rfl
    rw [this]
def PQ (w : World) (L : List A3) (z : Int) (e : Ending) (w' : World) : Prop :=
  ∃ A cap, e = .returned (.tuple #[.slice A L.length cap, .int .i64 z]) ∧ Acc w' A L ∧ Grow w w'
set_option maxRecDepth 100000 in
set_option maxHeartbeats 8000000 in
theorem true_any (w : World) (A : Option Addr) (l : List A3) (cap : Nat) (size : Int) (hA : Arg w A l cap) :
    Calls Try.prog 8 #[.int .i64 size, .slice A l.length cap] w (TrueP w) := by
  refine cph fun R HR => ?_
  by_cases h1 : (300 : Int) < (l.length : Int)
  · clear hA
    go_enter Try.func8, Try.ntmps8
    go_wp2_with (go_at_call 9; refine (sane_p _).mono ?_)
    rintro e w1 ⟨rfl, hg⟩
    have HG := Lib.hid hg
    clear hg
    go_wp2_with fail
    exact HR.out _ _ ⟨rfl, HG.out⟩
  · have hl : l.length ≤ 300 := by omega
    have HA := Lib.hid hA
    clear hA
    have HC1 := Lib.hid (fun (W : World) (hg : Grow w W) => countsQ W A l cap 1 (HA.out.acc.grow hg) hl (sep_one l))
    have HS1 := Lib.hid (fun (W : World) (hg : Grow w W) => sharedQ W A l cap 1 (HA.out.acc.grow hg) hl (sep_one l))
    have HP : Hid (∀ W : World, Grow w W → Calls Try.prog 18 #[.int .i64 size, .slice A l.length cap] W (PQ W (if padB size l then padOf size l else []) (if padB size l then 0 else 1))) := fun W hg => pad_any W A l cap size (HA.out.grow hg) hl
    generalize (if goodB 1 l then (0 : Int) else 1) = z1 at HC1 HS1
    go_enter Try.func8, Try.ntmps8
    go_wp2_with fail
    go_loopw [5] (fun i wr => ∃ k : Nat, k ≤ 2 ∧ i = .int .i64 k ∧ Hid (Grow w wr)) (fun i _ => 2 - (intOf i).toNat)
    case atStart => exact ⟨0, by omega, rfl, Grow.refl _⟩
    case round =>
      obtain ⟨k, hk, rfl, HG⟩ := hrel
      obtain rfl | rfl | rfl : k = 0 ∨ k = 1 ∨ k = 2 := by omega
      · go_wp2_with (go_at_call 10; refine (HC1.out _ HG.out).mono ?_)
        rintro e w1 ⟨hg, ⟨c, rfl⟩ | ⟨g, c, rfl, hz⟩⟩
        · have H1 := Lib.hid (HG.out.trans hg)
          clear hg
          go_wp2_with (go_at_call 25; refine (HS1.out _ H1.out).mono ?_)
          rintro e w2 ⟨A2, c2, rfl, hg2⟩
          have H2 := Lib.hid (H1.out.trans hg2)
          clear hg2
          go_wp2_with fail
          refine wp_loop_rounds 1 ?_
          rw [rounds_succ]
          go_wp2_with fail
          go_roundw
          case rel => exact ⟨1, by omega, rfl, H2.out⟩
          case measure => simp [intOf]
        · have H1 := Lib.hid (HG.out.trans hg)
          have HZ := Lib.hid hz
          clear hg hz
          go_wp2_with (go_at_call 25; refine (HS1.out _ H1.out).mono ?_)
          rintro e w2 ⟨A2, c2, rfl, hg2⟩
          have H2 := Lib.hid (H1.out.trans hg2)
          have q0 := hg2.cell (HZ.out 0 (by omega))
          have q1 := hg2.cell (HZ.out 1 (by omega))
          have q2 := hg2.cell (HZ.out 2 (by omega))
          have q3 := hg2.cell (HZ.out 3 (by omega))
          simp only [Nat.zero_mul, Nat.one_mul, Nat.zero_add, Nat.reduceMul, Nat.reduceAdd] at q0 q1 q2 q3
          clear hg2
          go_wp2_with fail
          refine wp_loop_rounds 5 ?_
          rw [rounds_succ]
          go_wp2_with fail
          rw [rounds_succ]
          go_wp2_with fail
          rw [rounds_succ]
          go_wp2_with fail
          rw [rounds_succ]
          go_wp2_with fail
          rw [rounds_succ]
          go_wp2_with fail
          go_roundw
          case rel => exact ⟨1, by omega, rfl, H2.out⟩
          case measure => simp [intOf]
      · cases hpb : padB size l
        · rw [hpb] at HP
          clear hpb HC1 HS1
          go_wp2_with (go_at_call 18; refine (HP.out _ HG.out).mono ?_)
          rintro e w1 ⟨A1, c1, rfl, _, hg⟩
          have H1 := Lib.hid (HG.out.trans hg)
          clear hg
          go_wp2_with (go_at_call 9; refine (sane_p _).mono ?_)
          rintro e w2 ⟨rfl, hg⟩
          have H2 := Lib.hid (H1.out.trans hg)
          clear hg
          go_wp2_with fail
          exact HR.out _ _ ⟨rfl, H2.out⟩
        · rw [hpb] at HP
          simp only [if_true] at HP
          have hg1 : 1 ≤ size := by
            unfold padB at hpb
            simp only [Bool.and_eq_true] at hpb
            exact (good_parts hpb.1).1
          have hsp := sep_pad size l hg1
          have hpl : (padOf size l).length ≤ 300 := by rw [padOf_len]; exact hl
          clear hpb HC1 HS1 hg1
          generalize padOf size l = L at HP hsp hpl
          go_wp2_with (go_at_call 18; refine (HP.out _ HG.out).mono ?_)
          rintro e w0 ⟨A1, c1, rfl, hac, hg⟩
          have HAC := Lib.hid hac
          have HC2 := Lib.hid (fun (W : World) (hg : Grow w0 W) => countsQ W A1 L c1 size (HAC.out.grow hg) hpl hsp)
          have HS2 := Lib.hid (fun (W : World) (hg : Grow w0 W) => sharedQ W A1 L c1 size (HAC.out.grow hg) hpl hsp)
          generalize (if goodB size L then (0 : Int) else 1) = z2 at HC2 HS2
          have HW := Lib.hid (HG.out.trans hg)
          have H0 : Hid (Grow w0 w0) := Grow.refl _
          clear hg hac hsp
          go_wp2_with (go_at_call 10; refine (HC2.out _ H0.out).mono ?_)
          rintro e w1 ⟨hg, ⟨c, rfl⟩ | ⟨g, c, rfl, hz⟩⟩
          · have H1 := Lib.hid (H0.out.trans hg)
            clear hg
            go_wp2_with (go_at_call 25; refine (HS2.out _ H1.out).mono ?_)
            rintro e w2 ⟨A2, c2, rfl, hg2⟩
            have H2 := Lib.hid (H1.out.trans hg2)
            clear hg2
            go_wp2_with fail
            refine wp_loop_rounds 1 ?_
            rw [rounds_succ]
            go_wp2_with fail
            go_roundw
            case rel => exact ⟨2, by omega, rfl, HW.out.trans H2.out⟩
            case measure => simp [intOf]
          · have H1 := Lib.hid (H0.out.trans hg)
            have HZ := Lib.hid hz
            clear hg hz
            go_wp2_with (go_at_call 25; refine (HS2.out _ H1.out).mono ?_)
            rintro e w2 ⟨A2, c2, rfl, hg2⟩
            have H2 := Lib.hid (H1.out.trans hg2)
            have q0 := hg2.cell (HZ.out 0 (by omega))
            have q1 := hg2.cell (HZ.out 1 (by omega))
            have q2 := hg2.cell (HZ.out 2 (by omega))
            have q3 := hg2.cell (HZ.out 3 (by omega))
            simp only [Nat.zero_mul, Nat.one_mul, Nat.zero_add, Nat.reduceMul, Nat.reduceAdd] at q0 q1 q2 q3
            clear hg2
            go_wp2_with fail
            refine wp_loop_rounds 5 ?_
            rw [rounds_succ]
            go_wp2_with fail
            rw [rounds_succ]
            go_wp2_with fail
            rw [rounds_succ]
            go_wp2_with fail
            rw [rounds_succ]
            go_wp2_with fail
            rw [rounds_succ]
            go_wp2_with fail
            go_roundw
            case rel => exact ⟨2, by omega, rfl, HW.out.trans H2.out⟩
            case measure => simp [intOf]
      · have h2i : ((2 : Nat) : Int) = 2 := rfl
        go_wp2_with (go_at_call 9; refine (sane_p _).mono ?_)
        rintro e w2 ⟨rfl, hg⟩
        have H2 := Lib.hid (HG.out.trans hg)
        clear hg
        go_wp2_with fail
        exact HR.out _ _ ⟨rfl, H2.out⟩
end Go.Proofs.Ytabplbalacldfaa
