/- The span manager, in every state: Waiting, Rest, Out, Hold. -/
import Derived.Test.YtcgcljmnnjalpaaGreatGeI
set_option linter.unusedVariables false
set_option linter.unusedSimpArgs false
namespace Go.Proofs.YtcgcljmnnjalpaaGreat
open Go.RowKit Go.Kx
open Go.ChangeMaps (setBlock)
set_option maxRecDepth 100000 in
set_option maxHeartbeats 4000000 in
theorem spWaiting {b : Nat} {w : World} {F : FP} {s : RS} (h : SP b w F s) (hs : s.items.length ≤ 100000) : Calls Tryz.prog 76 #[.pointer (some ⟨b, 0, none⟩)] w (WaitP w s) := by
  refine cph fun R HR => ?_
  obtain ⟨M, v, hv⟩ := h
  have HH := Lib.hid (spHas hv 0)
  rw [okTh_zero hv.ok] at HH
  have k5 := (blk_cell hv.blk 27).trans (rfl : _ = some v)
  have HV := Lib.hid hv
  obtain ⟨i0, hi, hz0, hz1, hz2⟩ := info_parts info3x
  have HI := Lib.hid (And.intro hi (And.intro hz0 (And.intro hz1 hz2)))
  clear hi hz0 hz1 hz2
  have hsh : ∃ A cap, v = .slice A s.items.length cap ∧ (s.items ≠ [] → ∃ g, A = some ⟨g, 0, none⟩) := by
    rcases own_val hv.row with ⟨rfl, h0⟩ | ⟨g, cap, rfl, _⟩
    · have : s.items = [] := List.eq_nil_of_length_eq_zero h0
      exact ⟨none, 0, by rw [h0], fun h => absurd this h⟩
    · exact ⟨_, cap, rfl, fun _ => ⟨g, rfl⟩⟩
  obtain ⟨A, cap, rfl, hA⟩ := hsh
  have HA := Lib.hid hA
  clear hv hA
  go_enter Tryz.func76, Tryz.ntmps76
  go_wp2_with (go_at_call 109; refine HH.out.mono ?_; rintro e w' ⟨rfl, rfl⟩)
  go_loopw [3, 14] (fun u i wr => ∃ k : Nat, k ≤ s.items.length ∧ i = .int .i64 k ∧ Hid (wr.ownsRow w.heap.size 3 1 u k ((s.items.map fun x => Value.int .i64 x.addr).take k) ∧ Grow w wr)) (fun _ i _ => s.items.length - (intOf i).toNat)
  case atStart => exact ⟨0, by omega, rfl, World.ownsRow_nil _ _ _ _, Grow.refl _⟩
  case round =>
    obtain ⟨k, hk, rfl, HO⟩ := hrel
    by_cases hlt : k < s.items.length
    · obtain ⟨x, hx⟩ : ∃ x, s.items[k]? = some x := ⟨s.items[k], by simp [hlt]⟩
      obtain ⟨g, rfl⟩ := HA.out (by intro e; rw [e] at hlt; simp at hlt)
      have c0 := HO.out.2.cell ((own_at encS_len HV.out.row hx (o := 0) (by omega)).trans rfl)
      have c1 := HO.out.2.cell ((own_at encS_len HV.out.row hx (o := 1) (by omega)).trans rfl)
      have c2 := HO.out.2.cell ((own_at encS_len HV.out.row hx (o := 2) (by omega)).trans rfl)
      have hki : (k : Int) < (s.items.length : Int) := by omega
      have hgs := HO.out.2.size
      have HX := Lib.hid hx
      clear hx
      rw [Nat.add_zero] at c0
      have hnw := cell_one_new (wr.alloc (Obj.cells #[.int .i64 x.addr, .int .i64 x.birth, .int .i64 x.at_] 147)) (.int .i64 x.addr) 3
      rw [size_alloc] at hnw
      have HNW := Lib.hid hnw
      clear hnw
      go_wp2_with (at_builtin; refine wpList_append_own_at _ rfl (.tmp 18) (.tmp 21) 34 rfl w.heap.size 3 i0 (.int .i64 0) 1 8 Tryz.underlying34 HI.out.1 HI.out.2.1 HI.out.2.2.1 HI.out.2.2.2 rfl (by decide) _ _ _ rfl ((HO.out.1.alloc _).alloc _) ⟨wr.heap.size + 1, 0, none⟩ 1 1 [.int .i64 x.addr] rfl rfl HNW.out (by simp [Value.oneCell']) (by unfold maxLen; omega) (by omega) (by simp; omega) ?_)
      intro v' w3 hown hgrow _ hat
      have H7 : Hid (w3.ownsRow w.heap.size 3 1 v' (k + 1) ((s.items.map fun x => Value.int .i64 x.addr).take (k + 1)) ∧ Grow w w3) := ⟨by
        rw [List.take_add_one, List.getElem?_map, HX.out]; exact hown, ((HO.out.2.alloc _).alloc _).grown hgrow (fun j e => (HO.out.1.lt j e).1)⟩
      clear hown hgrow hat
      go_wp2_with fail
      go_roundw
      case rel => exact ⟨k + 1, by omega, by go_num, H7.out⟩
      case measure => simp [intOf] <;> omega
    · obtain rfl : k = s.items.length := by omega
      have hki : ¬ (s.items.length : Int) < (s.items.length : Int) := by omega
      go_wp2_with fail
      refine HR.out _ _ ⟨_, rfl, ?_, HO.out.2⟩
      have := HO.out.1
      rwa [List.take_of_length_le (by simp)] at this
theorem spRest {b : Nat} {w : World} {F : FP} {s : RS} (h : SP b w F s) (hs : s.items.length ≤ 100000) : Calls Tryz.prog 67 #[.pointer (some ⟨b, 0, none⟩)] w (OpL (SP b) w F (restS s)) := by
  refine cph fun R HR => ?_
  have HLo := Lib.hid (spSweep h (by omega))
  obtain ⟨M, v, hv⟩ := h
  have HH := Lib.hid (spHas hv 0)
  rw [okTh_zero hv.ok] at HH
  have e2 : restS s = sweepS s fun _ => true := by
    have hk := hv.kind
    unfold restS
    rw [if_neg (by omega), if_neg (by omega)]
  rw [e2] at HR
  clear hv e2
  go_enter Tryz.func67, Tryz.ntmps67
  go_wp2_with (first | (go_at_call 109; refine HH.out.mono ?_; rintro e w' ⟨rfl, rfl⟩) | (go_at_call 110; refine HLo.out.mono ?_; rintro e w9 ⟨v9, F', rfl, ho⟩; have H9 : Hid (OpL (SP b) w F (sweepS s fun _ => true) (.returned v9) w9) := ⟨v9, F', rfl, ho⟩; clear ho))
  exact HR.out _ _ H9.out
theorem items_out (s : RS) (t : Nat) : (outS0 s t).items.flatMap encS = s.items.flatMap encS ∧ (outS0 s t).items.length = s.items.length := by
  unfold outS0
  dsimp only
  rw [List.flatMap_map]
  exact ⟨rfl, by simp⟩
set_option maxHeartbeats 4000000 in
theorem spOut {b : Nat} {w : World} {F : FP} {s : RS} (h : SP b w F s) (hs : s.items.length ≤ 100000) (t : Int) : Calls Tryz.prog 63 #[.pointer (some ⟨b, 0, none⟩), .int .i64 t] w (OpP (SP b) w F (outS s t)) := by
  refine cph fun R HR => ?_
  have HQ := Lib.hid h
  obtain ⟨M, v, hv⟩ := h
  have HH := Lib.hid (spHas hv t)
  have HV := Lib.hid hv
  cases ht : okTh s t
  · rw [ht] at HH
    have e : outS s t = ⟨s, [], 1⟩ := by simp [outS, ht]
    rw [e] at HR
    clear hv e
    go_enter Tryz.func63, Tryz.ntmps63
    go_wp2_with (go_at_call 109; refine HH.out.mono ?_; rintro e w' ⟨rfl, rfl⟩)
    exact HR.out _ _ (OpP.none HQ.out (Step.refl _ _))
  · rw [ht] at HH
    obtain ⟨k, rfl, hk⟩ := okTh_nat ht
    have h4 : k < 4 := by have := hv.ok.n4; omega
    have hc := blk_cell hv.blk
    have hf := blk_free hv.blk
    have hcell : ∀ j, j < 6 → ∃ x, w.cell? ⟨b, 2 + 6 * k + j, none⟩ = some x := by
      intro j hj
      rw [hc]
      have : 2 + 6 * k + j < (spArr s M v).size := by simp [spArr]; omega
      exact ⟨_, Array.getElem?_eq_getElem this⟩
    have hbl := blk_lt hv.blk
    have e2 : outS s (k : Int) = ⟨(sweepS (outS0 s k) fun _ => true).st, (sweepS (outS0 s k) fun _ => true).back, 0⟩ := by simp [outS, ht, hv.kind, sweepS]
    rw [e2] at HR
    have HW : Hid (SP b (w6 w b (2 + 6 * k) (.bool false) (.int .i64 0) (.int .i64 0) (.int .i64 0) (.int .i64 0) (.int .i64 0)) F (outS0 s k) ∧ Fr F w (w6 w b (2 + 6 * k) (.bool false) (.int .i64 0) (.int .i64 0) (.int .i64 0) (.int .i64 0) (.int .i64 0))) := by
      have hit := items_out s k
      have h1 := sp_row6 (s' := { outS0 s k with items := s.items }) hv h4 (x0 := .bool false) (x1 := .int .i64 0) (x2 := .int .i64 0) (x3 := .int .i64 0) (x4 := .int .i64 0) (x5 := .int .i64 0)
        (by
          have ho := hv.ok.out0 hk
          exact ⟨ho.n1, ho.n4, ho.holds, ho.pos, ho.ins, hv.ok.forI, hv.ok.addr, ho.now0⟩) rfl rfl rfl rfl rfl (fun i hi => by simp [outS0, spL, spH, upd1, hi]) (by simp [outS0, upd1]) (by simp [outS0, spL, upd1]) (by simp [outS0, spH, upd1]) (by simp [outS0, upd1]) (by simp [outS0, upd1]) (by simp [outS0, upd1])
      refine ⟨⟨M, v, h1.1.kind, hv.ok.out0 hk, h1.1.blk, h1.1.cmap, ?_, h1.1.fp⟩, h1.2⟩
      rw [hit.1, hit.2]
      exact h1.1.row
    have HSW := Lib.hid (spSweep HW.out.1 (by rw [(items_out s k).2]; omega))
    have HST : Hid (Step F w F (w6 w b (2 + 6 * k) (.bool false) (.int .i64 0) (.int .i64 0) (.int .i64 0) (.int .i64 0) (.int .i64 0))) := ⟨HW.out.2, fun j hj => .inl hj⟩
    clear hv e2 ht HW
    have c0 := hcell 0 (by omega)
    have c1 := hcell 1 (by omega)
    have c2 := hcell 2 (by omega)
    have c3 := hcell 3 (by omega)
    have c4 := hcell 4 (by omega)
    have c5 := hcell 5 (by omega)
    have f0 := hf (2 + 6 * k + 0)
    have f1 := hf (2 + 6 * k + 1)
    have f2 := hf (2 + 6 * k + 2)
    have f3 := hf (2 + 6 * k + 3)
    have f4 := hf (2 + 6 * k + 4)
    have f5 := hf (2 + 6 * k + 5)
    clear hc hf hcell
    obtain ⟨x0, c0⟩ := c0
    obtain ⟨x1, c1⟩ := c1
    obtain ⟨x2, c2⟩ := c2
    obtain ⟨x3, c3⟩ := c3
    obtain ⟨x4, c4⟩ := c4
    obtain ⟨x5, c5⟩ := c5
    unfold w6 at HSW HST
    obtain rfl | rfl | rfl | rfl : k = 0 ∨ k = 1 ∨ k = 2 ∨ k = 3 := by omega
    all_goals
      simp only [Nat.reduceMul, Nat.reduceAdd] at HSW HST c0 c1 c2 c3 c4 c5 f0 f1 f2 f3 f4 f5
      go_enter Tryz.func63, Tryz.ntmps63
      go_wp2_with (first | (go_at_call 109; refine HH.out.mono ?_; rintro e w' ⟨rfl, rfl⟩) | (go_at_call 110; refine HSW.out.mono ?_; intro e w9 ho; obtain ⟨v9, rfl, hp9⟩ := ho.toP2 HST.out; have H9 := Lib.hid hp9; clear hp9 ho))
      exact HR.out _ _ H9.out
end Go.Proofs.YtcgcljmnnjalpaaGreat
