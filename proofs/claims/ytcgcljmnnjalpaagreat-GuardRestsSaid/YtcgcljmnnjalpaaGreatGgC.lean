/- guard.New of every kind (printed by wip/gen/mkggc.py). -/
import Derived.Test.YtcgcljmnnjalpaaGreatGgB
set_option linter.unusedVariables false
set_option linter.unusedSimpArgs false
namespace Go.Proofs.YtcgcljmnnjalpaaGreat
open Go.RowKit Go.Kx
open Go.ChangeMaps (setBlock)
def GNewK (k t : Int) (w : World) (e : Ending) (w' : World) : Prop :=
  if (0 ≤ k ∧ k ≤ 5) ∧ 1 ≤ t ∧ t ≤ 4 then ∃ G F, e = .returned (.tuple #[.pointer (some ⟨G, 0, none⟩), .int .i64 0]) ∧ GM G w' F (newS k t.toNat) ∧ Grow w w' ∧ ∀ j, F j → w.heap.size ≤ j
  else e = .returned (.tuple #[.pointer none, .int .i64 1]) ∧ Grow w w'
theorem GNewK.no {k t : Int} {w w' : World} (h : ¬ ((0 ≤ k ∧ k ≤ 5) ∧ 1 ≤ t ∧ t ≤ 4)) (hg : Grow w w') : GNewK k t w (.returned (.tuple #[.pointer none, .int .i64 1])) w' := by
  unfold GNewK; rw [if_neg h]; exact ⟨rfl, hg⟩
theorem GNewK.yes {k t : Int} {w w1 : World} {TY b : Nat} {F : FP} (h : (0 ≤ k ∧ k ≤ 5) ∧ 1 ≤ t ∧ t ≤ 4) (hm : MK TY b w1 F (newS k t.toNat)) (hg : Grow w w1) (hF : ∀ j, F j → w.heap.size ≤ j) :
    GNewK k t w (.returned (.tuple #[.pointer (some ⟨w1.heap.size, 0, none⟩), .int .i64 0])) (w1.alloc (.cells #[.int .i64 k, .iface TY (.pointer (some ⟨b, 0, none⟩))] 66)) := by
  unfold GNewK; rw [if_pos h]
  have hg2 := (Grow.refl w1).alloc (.cells #[.int .i64 k, .iface TY (.pointer (some ⟨b, 0, none⟩))] 66)
  refine ⟨w1.heap.size, fun j => j = w1.heap.size ∨ F j, rfl, ⟨TY, b, F, blk_new _ _, (MK.local TY b).fr hm (G := fun _ => False) hg2 (fun _ _ h => h), fun h => by have := (MK.local TY b).lt hm _ h; omega, fun k => Iff.rfl⟩, hg.trans hg2, fun j hj => hj.elim (fun e => by have := hg.size; omega) (hF j)⟩
set_option maxRecDepth 100000 in
set_option maxHeartbeats 2000000 in
theorem gmNew0 (w : World) (t : Int) : Calls Tryz.prog 18 #[.int .i64 0, .int .i64 t] w (GNewK 0 t w) := by
  refine cph fun R HR => ?_
  by_cases h1 : t < 1
  · have d1 : decide (1 ≤ t) = false := decide_eq_false (by omega)
    go_enter Tryz.func18, Tryz.ntmps18
    go_wp2_with fail
    exact HR.out _ _ (GNewK.no (by omega) (Grow.refl _))
  have d1 : decide (1 ≤ t) = true := decide_eq_true (by omega)
  by_cases h4 : 4 < t
  · have d2 : decide (t ≤ 4) = false := decide_eq_false (by omega)
    go_enter Tryz.func18, Tryz.ntmps18
    go_wp2_with fail
    exact HR.out _ _ (GNewK.no (by omega) (Grow.refl _))
  have d2 : decide (t ≤ 4) = true := decide_eq_true (by omega)
  obtain ⟨n, rfl⟩ := Int.eq_ofNat_of_zero_le (a := t) (by omega)
  have HQ : Hid (LM w.heap.size (w.alloc (.cells #[.int .i64 n, .slice none 0 0] 90)) (fun k => k = w.heap.size ∨ (Value.slice none 0 0).ownBlock = some k) (newS 0 n)) :=
    ⟨.slice none 0 0, rfl, ok_new 0 (by omega) (by omega), blk_new _ _, World.ownsRow_nil _ _ _ _, fun k => Iff.rfl⟩
  go_enter Tryz.func18, Tryz.ntmps18
  go_wp2_with fail
  have hy := (GNewK.yes (k := 0) (t := n) (TY := 88) (b := w.heap.size) (F := fun k => k = w.heap.size ∨ (Value.slice none 0 0).ownBlock = some k) ⟨by omega, by omega, by omega⟩ (.inl ⟨rfl, HQ.out⟩) ((Grow.refl _).alloc _) (fun j hj => by
    rcases hj with rfl | hj
    · exact Nat.le_refl _
    · simp [Value.ownBlock] at hj))
  rw [size_alloc] at hy
  exact HR.out _ _ hy
set_option maxRecDepth 100000 in
set_option maxHeartbeats 2000000 in
theorem gmNew1 (w : World) (t : Int) : Calls Tryz.prog 18 #[.int .i64 1, .int .i64 t] w (GNewK 1 t w) := by
  refine cph fun R HR => ?_
  have hN := hzNew w t
  by_cases ht : 1 ≤ t ∧ t ≤ 4
  · unfold NewP at hN
    simp only [if_pos ht] at hN
    have HN := Lib.hid hN
    clear hN
    go_enter Tryz.func18, Tryz.ntmps18
    go_wp2_with (go_at_call 48; refine HN.out.mono ?_; rintro e w1 ⟨b, F, rfl, hA, hg, hF⟩; have H1 := Lib.hid (And.intro hA (And.intro hg hF)); clear hA hg hF)
    exact HR.out _ _ (GNewK.yes ⟨by omega, ht⟩ (.inr (.inl ⟨rfl, H1.out.1⟩)) H1.out.2.1 H1.out.2.2)
  · unfold NewP at hN
    simp only [if_neg ht] at hN
    have HN := Lib.hid hN
    clear hN
    go_enter Tryz.func18, Tryz.ntmps18
    go_wp2_with (go_at_call 48; refine HN.out.mono ?_; rintro e w1 ⟨rfl, hg⟩; have H1 := Lib.hid hg; clear hg)
    exact HR.out _ _ (GNewK.no (fun h => ht h.2) H1.out)
set_option maxRecDepth 100000 in
set_option maxHeartbeats 2000000 in
theorem gmNew2 (w : World) (t : Int) : Calls Tryz.prog 18 #[.int .i64 2, .int .i64 t] w (GNewK 2 t w) := by
  refine cph fun R HR => ?_
  have hN := epNew w t
  by_cases ht : 1 ≤ t ∧ t ≤ 4
  · unfold NewP at hN
    simp only [if_pos ht] at hN
    have HN := Lib.hid hN
    clear hN
    go_enter Tryz.func18, Tryz.ntmps18
    go_wp2_with (go_at_call 49; refine HN.out.mono ?_; rintro e w1 ⟨b, F, rfl, hA, hg, hF⟩; have H1 := Lib.hid (And.intro hA (And.intro hg hF)); clear hA hg hF)
    exact HR.out _ _ (GNewK.yes ⟨by omega, ht⟩ (.inr (.inr (.inl ⟨rfl, H1.out.1⟩))) H1.out.2.1 H1.out.2.2)
  · unfold NewP at hN
    simp only [if_neg ht] at hN
    have HN := Lib.hid hN
    clear hN
    go_enter Tryz.func18, Tryz.ntmps18
    go_wp2_with (go_at_call 49; refine HN.out.mono ?_; rintro e w1 ⟨rfl, hg⟩; have H1 := Lib.hid hg; clear hg)
    exact HR.out _ _ (GNewK.no (fun h => ht h.2) H1.out)
set_option maxRecDepth 100000 in
set_option maxHeartbeats 2000000 in
theorem gmNew3 (w : World) (t : Int) : Calls Tryz.prog 18 #[.int .i64 3, .int .i64 t] w (GNewK 3 t w) := by
  refine cph fun R HR => ?_
  have hN := spNew w t
  by_cases ht : 1 ≤ t ∧ t ≤ 4
  · unfold NewP at hN
    simp only [if_pos ht] at hN
    have HN := Lib.hid hN
    clear hN
    go_enter Tryz.func18, Tryz.ntmps18
    go_wp2_with (go_at_call 50; refine HN.out.mono ?_; rintro e w1 ⟨b, F, rfl, hA, hg, hF⟩; have H1 := Lib.hid (And.intro hA (And.intro hg hF)); clear hA hg hF)
    exact HR.out _ _ (GNewK.yes ⟨by omega, ht⟩ (.inr (.inr (.inr (.inl ⟨rfl, H1.out.1⟩)))) H1.out.2.1 H1.out.2.2)
  · unfold NewP at hN
    simp only [if_neg ht] at hN
    have HN := Lib.hid hN
    clear hN
    go_enter Tryz.func18, Tryz.ntmps18
    go_wp2_with (go_at_call 50; refine HN.out.mono ?_; rintro e w1 ⟨rfl, hg⟩; have H1 := Lib.hid hg; clear hg)
    exact HR.out _ _ (GNewK.no (fun h => ht h.2) H1.out)
set_option maxRecDepth 100000 in
set_option maxHeartbeats 2000000 in
theorem gmNew4 (w : World) (t : Int) : Calls Tryz.prog 18 #[.int .i64 4, .int .i64 t] w (GNewK 4 t w) := by
  refine cph fun R HR => ?_
  have hN := coNew w t
  by_cases ht : 1 ≤ t ∧ t ≤ 4
  · unfold NewP at hN
    simp only [if_pos ht] at hN
    have HN := Lib.hid hN
    clear hN
    go_enter Tryz.func18, Tryz.ntmps18
    go_wp2_with (go_at_call 51; refine HN.out.mono ?_; rintro e w1 ⟨b, F, rfl, hA, hg, hF⟩; have H1 := Lib.hid (And.intro hA (And.intro hg hF)); clear hA hg hF)
    exact HR.out _ _ (GNewK.yes ⟨by omega, ht⟩ (.inr (.inr (.inr (.inr (.inl ⟨rfl, H1.out.1⟩))))) H1.out.2.1 H1.out.2.2)
  · unfold NewP at hN
    simp only [if_neg ht] at hN
    have HN := Lib.hid hN
    clear hN
    go_enter Tryz.func18, Tryz.ntmps18
    go_wp2_with (go_at_call 51; refine HN.out.mono ?_; rintro e w1 ⟨rfl, hg⟩; have H1 := Lib.hid hg; clear hg)
    exact HR.out _ _ (GNewK.no (fun h => ht h.2) H1.out)
set_option maxRecDepth 100000 in
set_option maxHeartbeats 2000000 in
theorem gmNew5 (w : World) (t : Int) : Calls Tryz.prog 18 #[.int .i64 5, .int .i64 t] w (GNewK 5 t w) := by
  refine cph fun R HR => ?_
  have hN := quNew w t
  by_cases ht : 1 ≤ t ∧ t ≤ 4
  · unfold NewP at hN
    simp only [if_pos ht] at hN
    have HN := Lib.hid hN
    clear hN
    go_enter Tryz.func18, Tryz.ntmps18
    go_wp2_with (go_at_call 52; refine HN.out.mono ?_; rintro e w1 ⟨b, F, rfl, hA, hg, hF⟩; have H1 := Lib.hid (And.intro hA (And.intro hg hF)); clear hA hg hF)
    exact HR.out _ _ (GNewK.yes ⟨by omega, ht⟩ (.inr (.inr (.inr (.inr (.inr ⟨rfl, ⟨H1.out.1, fun x hx => by simp [newS] at hx⟩⟩))))) H1.out.2.1 H1.out.2.2)
  · unfold NewP at hN
    simp only [if_neg ht] at hN
    have HN := Lib.hid hN
    clear hN
    go_enter Tryz.func18, Tryz.ntmps18
    go_wp2_with (go_at_call 52; refine HN.out.mono ?_; rintro e w1 ⟨rfl, hg⟩; have H1 := Lib.hid hg; clear hg)
    exact HR.out _ _ (GNewK.no (fun h => ht h.2) H1.out)
theorem gmNew (w : World) (k t : Int) : Calls Tryz.prog 18 #[.int .i64 k, .int .i64 t] w (GNewK k t w) := by
  by_cases hk : 0 ≤ k ∧ k ≤ 5
  · obtain rfl | rfl | rfl | rfl | rfl | rfl : k = 0 ∨ k = 1 ∨ k = 2 ∨ k = 3 ∨ k = 4 ∨ k = 5 := by omega
    · exact gmNew0 w t
    · exact gmNew1 w t
    · exact gmNew2 w t
    · exact gmNew3 w t
    · exact gmNew4 w t
    · exact gmNew5 w t
  · refine cph fun R HR => ?_
    have e0 : (k == 0) = false := by simp; omega
    have e1 : (k == 1) = false := by simp; omega
    have e2 : (k == 2) = false := by simp; omega
    have e3 : (k == 3) = false := by simp; omega
    have e4 : (k == 4) = false := by simp; omega
    have e5 : (k == 5) = false := by simp; omega
    go_enter Tryz.func18, Tryz.ntmps18
    go_wp2_with fail
    exact HR.out _ _ (GNewK.no (fun h => hk h.1) (Grow.refl _))
end Go.Proofs.YtcgcljmnnjalpaaGreat
