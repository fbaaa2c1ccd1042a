/- The hazard manager: Waiting, New. -/
import Derived.Test.YtcgcljmnnjalpaaGreatGfI
set_option linter.unusedVariables false
set_option linter.unusedSimpArgs false
namespace Go.Proofs.YtcgcljmnnjalpaaGreat
open Go.RowKit Go.Kx
open Go.ChangeMaps (setBlock)
set_option maxRecDepth 100000 in
set_option maxHeartbeats 4000000 in
theorem hzWaiting {b : Nat} {w : World} {F : FP} {s : RS} (h : HZ b w F s) (hs : s.items.length ≤ 100000) : Calls Tryz.prog 74 #[.pointer (some ⟨b, 0, none⟩)] w (WaitP w s) := by
  refine cph fun R HR => ?_
  obtain ⟨H, v, hv⟩ := h
  have k5 := (blk_cell hv.blk 1).trans (rfl : _ = some v)
  have HV := Lib.hid hv
  obtain ⟨i0, hi, hz0, hz1, hz2⟩ := info_parts info3x
  have HI := Lib.hid (And.intro hi (And.intro hz0 (And.intro hz1 hz2)))
  clear hi hz0 hz1 hz2
  have hsh : ∃ A cap, v = .slice A s.items.length cap ∧ (s.items ≠ [] → ∃ g, A = some ⟨g, 0, none⟩) := by
    rcases own_val hv.row with ⟨rfl, h0⟩ | ⟨g, cap, rfl, _⟩
    · have : s.items = [] := List.eq_nil_of_length_eq_zero h0
      exact ⟨none, 0, by rw [h0], fun h => absurd this h⟩
    · exact ⟨_, cap, rfl, fun _ => ⟨g, rfl⟩⟩
  obtain ⟨A, cap, rfl, hA⟩ := hsh
  have HA := Lib.hid hA
  clear hv hA
  go_enter Tryz.func74, Tryz.ntmps74
  go_wp2_with fail
  go_loopw [3, 13] (fun u i wr => ∃ k : Nat, k ≤ s.items.length ∧ i = .int .i64 k ∧ Hid (wr.ownsRow w.heap.size 3 1 u k ((s.items.map fun x => Value.int .i64 x.addr).take k) ∧ Grow w wr)) (fun _ i _ => s.items.length - (intOf i).toNat)
  case atStart => exact ⟨0, by omega, rfl, World.ownsRow_nil _ _ _ _, Grow.refl _⟩
  case round =>
    obtain ⟨k, hk, rfl, HO⟩ := hrel
    by_cases hlt : k < s.items.length
    · obtain ⟨x, hx⟩ : ∃ x, s.items[k]? = some x := ⟨s.items[k], by simp [hlt]⟩
      have hx2 : (hzl s)[k]? = some (x.thr, x.addr) := by unfold hzl; rw [List.getElem?_map, hx]; rfl
      obtain ⟨g, rfl⟩ := HA.out (by intro e; rw [e] at hlt; simp at hlt)
      have c0 := HO.out.2.cell ((own_at enc2_len HV.out.row hx2 (o := 0) (by omega)).trans (rfl : _ = some (Value.int .i64 x.thr)))
      have c1 := HO.out.2.cell ((own_at enc2_len HV.out.row hx2 (o := 1) (by omega)).trans (rfl : _ = some (Value.int .i64 x.addr)))
      have hki : (k : Int) < (s.items.length : Int) := by omega
      have hgs := HO.out.2.size
      have HX := Lib.hid hx
      clear hx hx2
      rw [Nat.add_zero] at c0
      have hnw := cell_one_new (wr.alloc (Obj.cells #[.int .i64 x.thr, .int .i64 x.addr] 140)) (.int .i64 x.addr) 3
      rw [size_alloc] at hnw
      have HNW := Lib.hid hnw
      clear hnw
      go_wp2_with (at_builtin; refine wpList_append_own_at _ rfl (.tmp 17) (.tmp 20) 34 rfl w.heap.size 3 i0 (.int .i64 0) 1 8 Tryz.underlying34 HI.out.1 HI.out.2.1 HI.out.2.2.1 HI.out.2.2.2 rfl (by decide) _ _ _ rfl ((HO.out.1.alloc _).alloc _) ⟨wr.heap.size + 1, 0, none⟩ 1 1 [.int .i64 x.addr] rfl rfl HNW.out (by simp [Value.oneCell']) (by unfold maxLen; omega) (by omega) (by simp; omega) ?_)
      intro v' w3 hown hgrow _ hat
      have H7 : Hid (w3.ownsRow w.heap.size 3 1 v' (k + 1) ((s.items.map fun x => Value.int .i64 x.addr).take (k + 1)) ∧ Grow w w3) := ⟨by
        rw [List.take_add_one, List.getElem?_map, HX.out]; exact hown, ((HO.out.2.alloc _).alloc _).grown hgrow (fun j e => (HO.out.1.lt j e).1)⟩
      clear hown hgrow hat
      go_wp2_with fail
      go_roundw
      case rel => exact ⟨k + 1, by omega, by go_num, H7.out⟩
      case measure => simp [intOf] <;> omega
    · obtain rfl : k = s.items.length := by omega
      have hki : ¬ (s.items.length : Int) < (s.items.length : Int) := by omega
      go_wp2_with fail
      refine HR.out _ _ ⟨_, rfl, ?_, HO.out.2⟩
      have := HO.out.1
      rwa [List.take_of_length_le (by simp)] at this
set_option maxHeartbeats 1000000 in
theorem hzNew (w : World) (t : Int) : Calls Tryz.prog 48 #[.int .i64 t] w (NewP HZ 1 w t) := by
  refine cph fun R HR => ?_
  by_cases h1 : t < 1
  · go_enter Tryz.func48, Tryz.ntmps48
    go_wp2_with fail
    exact HR.out _ _ (NewP.no (by omega) (Grow.refl _))
  by_cases h4 : 4 < t
  · go_enter Tryz.func48, Tryz.ntmps48
    go_wp2_with fail
    exact HR.out _ _ (NewP.no (by omega) (Grow.refl _))
  obtain ⟨n, rfl⟩ := Int.eq_ofNat_of_zero_le (a := t) (by omega)
  have hmk := mk116 n (by omega) (by omega) w
  have hr0 := hrow_new (w := w) (k := 1) (n := n) (by omega) (by omega)
  obtain ⟨w1, hw1⟩ : ∃ w1, w.alloc (.cells (Array.replicate (n * 3) (.int .i64 0)) 76) = w1 := ⟨_, rfl⟩
  have hs1 : w1.heap.size = w.heap.size + 1 := by rw [← hw1]; exact size_alloc _ _
  have hg1 : Grow w w1 := by rw [← hw1]; exact (Grow.refl _).alloc _
  rw [hw1] at hmk hr0
  have HQ : Hid (HZ (w.heap.size + 1) (w1.alloc (.cells #[.slice (some ⟨w.heap.size, 0, none⟩) n n, .slice none 0 0] 119)) (fun k => k = w.heap.size + 1 ∨ k = w.heap.size ∨ (Value.slice none 0 0).ownBlock = some k) (newS 1 n)) := by
    refine ⟨w.heap.size, .slice none 0 0, rfl, ok_new 1 (by omega) (by omega), ?_, ?_, World.ownsRow_nil _ _ _ _, fun k => Iff.rfl⟩
    · have := blk_new w1 (.cells #[.slice (some ⟨w.heap.size, 0, none⟩) n n, .slice none 0 0] 119)
      rw [hs1] at this
      exact this
    · exact owns_grow hr0 ((Grow.refl _).alloc _)
  have HG := Lib.hid hg1
  have HW := Lib.hid hs1
  clear hr0 hg1 hw1
  go_enter Tryz.func48, Tryz.ntmps48
  go_wp2_with fail
  rw [HW.out] at *
  exact HR.out _ _ (NewP.yes ⟨by omega, by omega⟩ HQ.out (HG.out.alloc _) (fun j hj => by
    rcases hj with e | e | e
    · omega
    · omega
    · simp [Value.ownBlock] at e))
end Go.Proofs.YtcgcljmnnjalpaaGreat
