/- isOrder, Valid; the reference's Total, Has, Copy; Ints. -/
import Derived.Test.YtacfchepacfjnaaOdC
set_option linter.unusedVariables false
set_option linter.unusedSimpArgs false
namespace Go.Proofs.Ytacfchepacfjnaa
open Go.RowKit Go.Kx Go.Maps Go.Sort Go.Shelf
theorem getD_of {l : List Int} {j : Nat} (h : j < l.length) : l[j]? = some (l.getD j 0) := by simp [List.getD, h]
def EqP (w : World) (b : Bool) (e : Ending) (w' : World) : Prop := e = .returned (.bool b) ∧ Grow w w'
theorem equal_any {w : World} {A B : Option Addr} {c d : Nat} {l k : List Int} (h1 : IntsAt w A l) (h2 : IntsAt w B k) (n1 : 0 < l.length) (n2 : 0 < k.length) (m1 : l.length ≤ 1000000) (m2 : k.length ≤ 1000000) :
    Calls Try.prog 54 #[.slice A l.length c, .slice B k.length d] w (EqP w (l == k)) := by
  obtain ⟨b1, o1, rfl, hc1⟩ := h1.resolve_left (by rintro rfl; simp at n1)
  obtain ⟨b2, o2, rfl, hc2⟩ := h2.resolve_left (by rintro rfl; simp at n2)
  refine (Try.slices_Equal_int b1 o1 l.length c b2 o2 k.length d l k w (Nat.le_refl _) (Nat.le_refl _) (by omega) (by omega) (fun j hj => hc1 j _ (getD_of hj)) (fun j hj => hc2 j _ (getD_of hj))).mono ?_
  rintro e w' ⟨rfl, q, rfl⟩
  exact ⟨by rw [List.take_length, List.take_length], (Grow.refl w).drewN q⟩
/-- Whether a list is an order of m threads. -/
def isOrd (l : List Int) (m : Nat) : Bool := decide (l.length = m) && (srt l == numL m)
set_option maxHeartbeats 1000000 in
theorem isOrder_any {w : World} {A : Option Addr} {cap : Nat} {l : List Int} (h : IntsAt w A l) (m : Nat) (hm0 : 1 ≤ m) (hm : m ≤ 4) :
    Calls Try.prog 34 #[.slice A l.length cap, .int .i64 m] w (EqP w (isOrd l m)) := by
  refine cph fun R HR => ?_
  by_cases hlm : l.length = m
  · have e : isOrd l m = (srt l == numL m) := by simp [isOrd, hlm]
    rw [e] at HR
    clear e
    have hlm' : ((l.length : Int) == (m : Int)) = true := by simp [hlm]
    have HV := Lib.hid (fun (w : World) => (callsIn_wide (n := 3)).1 (values_in 3 A l.length cap w))
    have HS := Lib.hid (sorted_any (w.alloc (.cells #[.slice A l.length cap] 22)) w.heap.size A cap l (by omega) (Boxed.new w 22 _) (h.grow ((Grow.refl w).alloc _)))
    have hll := Lib.hid hlm
    clear hlm h
    have hlm : l.length = m := hll.out
    subst hlm
    clear hlm'
    go_enter Try.func34, Try.ntmps34
    go_wp2_with (first | (go_at_call 56; refine (HV.out _).mono ?_; rintro e w' ⟨rfl, rfl⟩) | (go_at_call 55; refine HS.out.mono ?_))
    rintro e w1 ⟨v, rfl, hrow, hg⟩
    have HN := Lib.hid (numbers_any w1 l.length hm)
    have H1 := Lib.hid (And.intro hrow hg)
    clear hrow hg HV HS
    go_wp2_with (go_at_call 51; refine HN.out.mono ?_)
    rintro e w2 ⟨u, rfl, hrow, hg⟩
    obtain ⟨A1, c1, rfl, i1, _⟩ := ints_of_own H1.out.1
    obtain ⟨A2, c2, rfl, i2, _⟩ := ints_of_own hrow
    have HE := Lib.hid (equal_any (c := c1) (d := c2) (i1.grow hg) i2 (by rw [srt_len]; omega) (by rw [numL_len]; omega) (by rw [srt_len]; omega) (by rw [numL_len]; omega))
    rw [srt_len, numL_len] at HE
    rw [srt_len, numL_len]
    have H2 := Lib.hid hg
    clear hrow hg i1 i2
    go_wp2_with (go_at_call 54; refine HE.out.mono ?_; rintro e w' ⟨rfl, hg⟩; have H3 := Lib.hid hg; clear hg)
    exact HR.out _ _ ⟨rfl, (((Grow.refl w).alloc _).trans H1.out.2).trans (H2.out.trans H3.out)⟩
  · have e : isOrd l m = false := by simp [isOrd, hlm]
    rw [e] at HR
    clear e h
    have hlm' : ((l.length : Int) == (m : Int)) = false := by simp; omega
    have hlm2 : decide ((l.length) = m) = false := by simp [hlm]
    clear hlm
    go_enter Try.func34, Try.ntmps34
    go_wp2_with fail
    exact HR.out _ _ ⟨rfl, Grow.refl _⟩
/-- A wrong count. -/
def bad (x : Int) : Bool := decide (x < 0) || decide (6 < x)
theorem bad_any (w : World) (x : Int) : Calls Try.prog 39 #[.int .i64 x] w fun e w' => e = .returned (.bool (bad x)) ∧ w = w' := by
  refine cph fun R HR => ?_
  by_cases h1 : x < 0
  · have e : bad x = true := by simp [bad, h1]
    rw [e] at HR
    clear e
    go_enter Try.func39, Try.ntmps39
    go_wp2_with fail
    exact HR.out _ _ ⟨rfl, rfl⟩
  · by_cases h2 : 6 < x
    · have e : bad x = true := by simp [bad, h2]
      rw [e] at HR
      clear e
      go_enter Try.func39, Try.ntmps39
      go_wp2_with fail
      exact HR.out _ _ ⟨rfl, rfl⟩
    · have e : bad x = false := by simp [bad]; omega
      rw [e] at HR
      clear e
      go_enter Try.func39, Try.ntmps39
      go_wp2_with fail
      exact HR.out _ _ ⟨rfl, rfl⟩
/-- The sum of counts; 0 if they are none. -/
def tot (l : List Int) : Int := if 1 ≤ l.length ∧ l.length ≤ 4 ∧ l.any bad = false then l.sum else 0
theorem any_bad {l : List Int} : l.any bad = false ↔ ∀ x ∈ l, 0 ≤ x ∧ x ≤ 6 := by
  rw [List.any_eq_false]
  exact ⟨fun h x hx => by have := h x hx; simp [bad] at this; omega, fun h x hx => by have := h x hx; simp [bad]; omega⟩
theorem tot_pos {l : List Int} (h : 0 < tot l) : 1 ≤ l.length ∧ l.length ≤ 4 ∧ (∀ x ∈ l, 0 ≤ x ∧ x ≤ 6) ∧ tot l = l.sum := by
  unfold tot at h ⊢
  split at h
  · next hc => exact ⟨hc.1, hc.2.1, any_bad.1 hc.2.2, by rw [if_pos hc]⟩
  · omega
theorem tot_bd (l : List Int) : 0 ≤ tot l ∧ tot l ≤ 24 := by
  unfold tot
  split
  · next hc =>
    have := sum_bd (any_bad.1 hc.2.2)
    omega
  · omega
set_option maxHeartbeats 1000000 in
theorem valid_any {w : World} {A : Option Addr} {cap : Nat} {l : List Int} (h : IntsAt w A l) :
    Calls Try.prog 16 #[.slice A l.length cap] w fun e w' => e = .returned (.bool (decide (0 < tot l))) ∧ w = w' := by
  refine cph fun R HR => ?_
  by_cases h1 : l.length < 1
  · have e : decide (0 < tot l) = false := by
      have : ¬ (1 ≤ l.length ∧ l.length ≤ 4 ∧ l.any bad = false) := by rintro ⟨a, b, _⟩; omega
      have h0 : tot l = 0 := by unfold tot; rw [if_neg this]
      rw [h0]; rfl
    rw [e] at HR
    clear e h
    go_enter Try.func16, Try.ntmps16
    go_wp2_with fail
    exact HR.out _ _ ⟨rfl, rfl⟩
  · by_cases h2 : 4 < l.length
    · have e : decide (0 < tot l) = false := by
        have : ¬ (1 ≤ l.length ∧ l.length ≤ 4 ∧ l.any bad = false) := by rintro ⟨a, b, _⟩; omega
        have h0 : tot l = 0 := by unfold tot; rw [if_neg this]
        rw [h0]; rfl
      rw [e] at HR
      clear e h
      go_enter Try.func16, Try.ntmps16
      go_wp2_with fail
      exact HR.out _ _ ⟨rfl, rfl⟩
    · have HC := Lib.hid (contains_any (cap := cap) (g := 39) (lb := #[]) (p := bad) h (fun x _ => bad_any w x) (enters_of Try.func39 (by kernel_rfl) rfl) (by omega))
      cases hb : l.any bad
      · rw [hb] at HC
        have hv := any_bad.1 hb
        have HS := Lib.hid (sum_any (cap := cap) h hv (by omega))
        have e : tot l = l.sum := by simp [tot, hb]; omega
        rw [e] at HR
        have hs := sum_bd hv
        generalize l.sum = s at HS HR hs
        clear e h hb hv
        go_enter Try.func16, Try.ntmps16
        go_wp2_with (first | (go_at_call 36; refine HC.out.mono ?_; rintro e w' ⟨rfl, rfl⟩) | (go_at_call 35; refine HS.out.mono ?_; rintro e w' ⟨rfl, rfl⟩))
        exact HR.out _ _ ⟨rfl, rfl⟩
      · rw [hb] at HC
        have e : decide (0 < tot l) = false := by simp [tot, hb]
        rw [e] at HR
        clear e h hb
        go_enter Try.func16, Try.ntmps16
        go_wp2_with (go_at_call 36; refine HC.out.mono ?_; rintro e w' ⟨rfl, rfl⟩)
        exact HR.out _ _ ⟨rfl, rfl⟩
end Go.Proofs.Ytacfchepacfjnaa
