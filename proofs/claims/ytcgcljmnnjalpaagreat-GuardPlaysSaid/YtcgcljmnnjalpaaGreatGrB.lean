/- The reference's manager: Waiting, Waits, Birth, Bear. -/
import Derived.Test.YtcgcljmnnjalpaaGreatGrA
set_option linter.unusedVariables false
set_option linter.unusedSimpArgs false
namespace Go.Proofs.YtcgcljmnnjalpaaGreat
open Go.RowKit Go.Kx
open Go.ChangeMaps (setBlock)
theorem RMv.shape {b : Nat} {vi vb : Value} {kb : List P2} {w : World} {F : FP} {s : RS} (h : RMv b vi vb kb w F s) : ∃ A cap, vi = .slice A s.items.length cap ∧ (s.items ≠ [] → ∃ g, A = some ⟨g, 0, none⟩) := by
  rcases own_val h.row with ⟨rfl, h0⟩ | ⟨g, cap, rfl, _⟩
  · have : s.items = [] := List.eq_nil_of_length_eq_zero h0
    exact ⟨none, 0, by rw [h0], fun h => absurd this h⟩
  · exact ⟨_, cap, rfl, fun _ => ⟨g, rfl⟩⟩
set_option maxRecDepth 100000 in
set_option maxHeartbeats 4000000 in
theorem rWaiting {b : Nat} {w : World} {F : FP} {s : RS} (h : RM b w F s) (hs : s.items.length ≤ 100000) : Calls Tryz.prog 80 #[.pointer (some ⟨b, 0, none⟩)] w (WaitP w s) := by
  refine cph fun R HR => ?_
  obtain ⟨vi, vb, kb, hv, hkl⟩ := h
  have k8 := (blk_cell hv.blk 28).trans (rfl : _ = some vi)
  have HV := Lib.hid hv
  obtain ⟨i0, hi, hz0, hz1, hz2⟩ := info_parts info3x
  have HI := Lib.hid (And.intro hi (And.intro hz0 (And.intro hz1 hz2)))
  obtain ⟨A, cap, rfl, hA⟩ := hv.shape
  have HA := Lib.hid hA
  clear hv hA hi hz0 hz1 hz2
  go_enter Tryz.func80, Tryz.ntmps80
  go_wp2_with fail
  go_loopw [3, 4] (fun u i wr => ∃ k : Nat, k ≤ s.items.length ∧ i = .int .i64 k ∧ Hid (wr.ownsRow w.heap.size 3 1 u k ((s.items.map fun x => Value.int .i64 x.addr).take k) ∧ Grow w wr)) (fun _ i _ => s.items.length - (intOf i).toNat)
  case atStart => exact ⟨0, by omega, rfl, World.ownsRow_nil _ _ _ _, Grow.refl _⟩
  case round =>
    obtain ⟨k, hk, rfl, HO⟩ := hrel
    have k8' := HO.out.2.cell k8
    by_cases hlt : k < s.items.length
    · obtain ⟨x, hx⟩ : ∃ x, s.items[k]? = some x := ⟨s.items[k], by simp [hlt]⟩
      obtain ⟨g, rfl⟩ := HA.out (by intro e; rw [e] at hlt; simp at hlt)
      have c0 := HO.out.2.cell ((own_at encR_len HV.out.row hx (o := 0) (by omega)).trans (rfl : _ = some (Value.int .i64 x.addr)))
      rw [Nat.add_zero] at c0
      have hki : (k : Int) < (s.items.length : Int) := by omega
      have hgs := HO.out.2.size
      have HX := Lib.hid hx
      clear hx
      have HNW := Lib.hid (cell_one_new wr (.int .i64 x.addr) 3)
      go_wp2_with (at_builtin; refine wpList_append_own_at _ rfl (.tmp 14) (.tmp 23) 34 rfl w.heap.size 3 i0 (.int .i64 0) 1 8 Tryz.underlying34 HI.out.1 HI.out.2.1 HI.out.2.2.1 HI.out.2.2.2 rfl (by decide) _ _ _ rfl (HO.out.1.alloc _) ⟨wr.heap.size, 0, none⟩ 1 1 [.int .i64 x.addr] rfl rfl HNW.out (by simp [Value.oneCell']) (by unfold maxLen; omega) (by omega) (by simp; omega) ?_; intro v' w3 hown hgrow _ _; have H7 : Hid (w3.ownsRow w.heap.size 3 1 v' (k + 1) ((s.items.map fun x => Value.int .i64 x.addr).take (k + 1)) ∧ Grow w w3) := ⟨by rw [List.take_add_one, List.getElem?_map, HX.out]; exact hown, (HO.out.2.alloc _).grown hgrow (fun j e => (HO.out.1.lt j e).1)⟩; clear hown hgrow)
      go_roundw
      case rel => exact ⟨k + 1, by omega, by go_num, H7.out⟩
      case measure => simp [intOf] <;> omega
    · obtain rfl : k = s.items.length := by omega
      have hki : ¬ (s.items.length : Int) < (s.items.length : Int) := by omega
      go_wp2_with fail
      refine HR.out _ _ ⟨_, rfl, ?_, HO.out.2⟩
      have := HO.out.1
      rwa [List.take_of_length_le (by simp)] at this
theorem rWaits {b : Nat} {w : World} {F : FP} {s : RS} (h : RM b w F s) (hs : s.items.length ≤ 200000) (a : Int) : Calls Tryz.prog 125 #[.pointer (some ⟨b, 0, none⟩), .int .i64 a] w fun e w' => e = .returned (.bool (waitsB s a)) ∧ w = w' := by
  refine cph fun R HR => ?_
  obtain ⟨vi, vb, kb, hv, hkl⟩ := h
  have k8 := (blk_cell hv.blk 28).trans (rfl : _ = some vi)
  have HV := Lib.hid hv
  obtain ⟨A, cap, rfl, hA⟩ := hv.shape
  have HA := Lib.hid hA
  clear hv hA
  go_enter Tryz.func125, Tryz.ntmps125
  go_wp2_with fail
  go_loop [5] (fun i => ∃ k : Nat, k ≤ s.items.length ∧ i = .int .i64 k ∧ Hid (∀ x ∈ s.items.take k, (x.addr == a) = false)) (fun i => s.items.length - (intOf i).toNat)
  case atStart => exact ⟨0, Nat.zero_le _, rfl, fun x hx => by simp at hx⟩
  case round =>
    obtain ⟨k, hk, rfl, HK⟩ := hrel
    by_cases hlt : k < s.items.length
    · obtain ⟨x, hx⟩ : ∃ x, s.items[k]? = some x := ⟨s.items[k], by simp [hlt]⟩
      obtain ⟨g, rfl⟩ := HA.out (by intro e; rw [e] at hlt; simp at hlt)
      have c0 := (own_at encR_len HV.out.row hx (o := 0) (by omega)).trans (rfl : _ = some (Value.int .i64 x.addr))
      rw [Nat.add_zero] at c0
      have hki : (k : Int) < (s.items.length : Int) := by omega
      have HX := Lib.hid hx
      clear hx
      cases hxa : x.addr == a
      · have HA1 := Lib.hid hxa
        go_wp2_with fail
        go_round
        case rel => exact ⟨k + 1, by omega, by go_num, fun y hy => by
          rw [List.take_add_one, HX.out] at hy
          rcases List.mem_append.1 hy with q | q
          · exact HK.out y q
          · have e : y = x := by simpa using q
            rw [e]; exact HA1.out⟩
        case measure => simp [intOf] <;> omega
      · have hw : waitsB s a = true := List.any_eq_true.2 ⟨x, List.mem_of_getElem? HX.out, hxa⟩
        rw [hw] at HR
        clear hw
        go_wp2_with fail
        exact HR.out _ _ ⟨rfl, rfl⟩
    · have hki : ¬ (k : Int) < (s.items.length : Int) := by omega
      have hw : waitsB s a = false := by
        unfold waitsB
        rw [List.any_eq_false]
        intro x hx
        rw [HK.out x (by rw [List.take_of_length_le (by omega)]; exact hx)]
        simp
      rw [hw] at HR
      clear hw
      go_wp2_with fail
      exact HR.out _ _ ⟨rfl, rfl⟩
theorem RMv.bshape {b : Nat} {vi vb : Value} {kb : List P2} {w : World} {F : FP} {s : RS} (h : RMv b vi vb kb w F s) : ∃ A cap, vb = .slice A kb.length cap ∧ (kb ≠ [] → ∃ g, A = some ⟨g, 0, none⟩) := by
  rcases own_val h.brow with ⟨rfl, h0⟩ | ⟨g, cap, rfl, _⟩
  · have : kb = [] := List.eq_nil_of_length_eq_zero h0
    exact ⟨none, 0, by rw [h0], fun h => absurd this h⟩
  · exact ⟨_, cap, rfl, fun _ => ⟨g, rfl⟩⟩
theorem birth_skip {l : List P2} {a : Int} {k : Nat} (h : ∀ x ∈ l.take k, x.1 ≠ a) : birthL l a = birthL (l.drop k) a := by
  induction l generalizing k with
  | nil => simp
  | cons x l ih =>
    cases k with
    | zero => rfl
    | succ k =>
      have h0 : x.1 ≠ a := h x (by simp)
      show (if x.1 = a then x.2 else birthL l a) = birthL (l.drop k) a
      rw [if_neg h0]
      exact ih fun y hy => h y (by simp [hy])
set_option maxHeartbeats 1000000 in
theorem rBirth {b : Nat} {w : World} {F : FP} {s : RS} (h : RM b w F s) (hs : s.now ≤ 2000000) (a : Int) : Calls Tryz.prog 126 #[.pointer (some ⟨b, 0, none⟩), .int .i64 a] w fun e w' => e = .returned (.int .i64 (s.born a)) ∧ w = w' := by
  refine cph fun R HR => ?_
  obtain ⟨vi, vb, kb, hv, hkl⟩ := h
  have k9 := (blk_cell hv.blk 29).trans (rfl : _ = some vb)
  have HV := Lib.hid hv
  rw [← hv.born a] at HR
  obtain ⟨A, cap, rfl, hA⟩ := hv.bshape
  have HA := Lib.hid hA
  have hkb : kb.length ≤ 2000000 := by omega
  clear hv hA hkl
  go_enter Tryz.func126, Tryz.ntmps126
  go_wp2_with fail
  go_loop [5] (fun i => ∃ k : Nat, k ≤ kb.length ∧ i = .int .i64 k ∧ Hid (∀ x ∈ kb.take k, x.1 ≠ a)) (fun i => kb.length - (intOf i).toNat)
  case atStart => exact ⟨0, Nat.zero_le _, rfl, fun x hx => by simp at hx⟩
  case round =>
    obtain ⟨k, hk, rfl, HK⟩ := hrel
    have hsk := birth_skip HK.out
    by_cases hlt : k < kb.length
    · obtain ⟨x, hx⟩ : ∃ x, kb[k]? = some x := ⟨kb[k], by simp [hlt]⟩
      obtain ⟨g, rfl⟩ := HA.out (by intro e; rw [e] at hlt; simp at hlt)
      have c0 := (own_at enc2_len HV.out.brow hx (o := 0) (by omega)).trans (rfl : _ = some (Value.int .i64 x.1))
      have c1 := (own_at enc2_len HV.out.brow hx (o := 1) (by omega)).trans (rfl : _ = some (Value.int .i64 x.2))
      rw [Nat.add_zero] at c0
      have hki : (k : Int) < (kb.length : Int) := by omega
      have HX := Lib.hid hx
      have hdr : kb.drop k = x :: kb.drop (k + 1) := by
        have e : kb[k] = x := by
          have := List.getElem?_eq_getElem hlt
          rw [this] at hx; exact Option.some.inj hx
        rw [← e]; exact List.drop_eq_getElem_cons hlt
      rw [hdr] at hsk
      clear hx hdr
      by_cases hxa : x.1 = a
      · have hb2 : birthL kb a = x.2 := by rw [hsk]; show (if x.1 = a then x.2 else _) = _; rw [if_pos hxa]
        rw [hb2] at HR
        have e1 : (x.1 == a) = true := by simp [hxa]
        clear hb2 hsk hxa
        go_wp2_with fail
        exact HR.out _ _ ⟨rfl, rfl⟩
      · have HA1 := Lib.hid hxa
        have e1 : (x.1 == a) = false := by simp [hxa]
        clear hsk hxa
        go_wp2_with fail
        go_round
        case rel => exact ⟨k + 1, by omega, by go_num, fun y hy => by
          rw [List.take_add_one, HX.out] at hy
          rcases List.mem_append.1 hy with q | q
          · exact HK.out y q
          · have e : y = x := by simpa using q
            rw [e]; exact HA1.out⟩
        case measure => simp [intOf] <;> omega
    · have hki : ¬ (k : Int) < (kb.length : Int) := by omega
      have hb2 : birthL kb a = 0 := by rw [hsk, List.drop_eq_nil_of_le (by omega)]; rfl
      rw [hb2] at HR
      clear hb2 hsk
      go_wp2_with fail
      exact HR.out _ _ ⟨rfl, rfl⟩
end Go.Proofs.YtcgcljmnnjalpaaGreat
