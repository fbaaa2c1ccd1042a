/- Contracts of the heap's functions that read: none, rounded, node, Alive, asked, Load, Version, Node, Size, Top. -/
import Derived.Test.YthkcihkeklojcaaHpA
set_option linter.unusedVariables false
set_option linter.unusedSimpArgs false
namespace Go.Proofs.Ythkcihkeklojcaa
open Go.RowKit Go.Kx
theorem none_any {w : World} {base : Nat} {q : HB} {s : HS} (h : HeapAt w base q s) : Calls Try.prog 25 #[.pointer (some ⟨q.b, 0, none⟩)] w fun e w' => e = .returned (.bool false) ∧ w = w' := by
  refine cph fun R HR => ?_
  obtain ⟨_, _, _, c3, _, _⟩ := h.cell
  clear h
  have hmn : ∀ w, (binOp BinOp.eql 43 (.map (some q.M)) (.map none)).run Try.prog w = .ok (.bool false) w := fun _ => by kernel_rfl
  go_enter Try.func25, Try.ntmps25
  go_wp2_with fail
  exact HR.out _ _ ⟨rfl, rfl⟩
theorem rounded_any {w : World} {n : Int} (h0 : 0 ≤ n) (h1 : n ≤ 1000000) : Calls Try.prog 26 #[.int .i64 n] w fun e w' => e = .returned (.int .i64 (rnd n)) ∧ w = w' := by
  refine cph fun R HR => ?_
  go_enter Try.func26, Try.ntmps26
  go_wp2_with fail
  refine HR.out _ _ ⟨?_, rfl⟩
  simp [rnd]
theorem nodeOf_low {l : List (Int × Int)} {cell : Int} (h : cell < 100) : nodeOf l cell = (0, false) := by
  have : cell - cell.tmod 2 < 100 := by
    rcases Int.lt_or_le cell 0 with h0 | h0
    · have e : cell.tmod 2 = -((-cell).tmod 2) := by rw [Int.neg_tmod]; omega
      rw [e, Int.tmod_eq_emod_of_nonneg (by omega)]; omega
    · rw [Int.tmod_eq_emod_of_nonneg h0]; omega
  unfold nodeOf nodeScan
  rw [if_neg (by omega)]
set_option maxRecDepth 20000 in
theorem node_any {w : World} {base : Nat} {q : HB} {s : HS} (h : HeapAt w base q s) (cell : Int) (hlo : -9223372036854775808 ≤ cell) (hhi : cell ≤ 9223372036854775807) :
    Calls Try.prog 30 #[.pointer (some ⟨q.b, 0, none⟩), .int .i64 cell] w fun e w' => e = .returned (.tuple #[.int .i64 (nodeOf s.nodes cell).1, .bool (nodeOf s.nodes cell).2]) ∧ w = w' := by
  refine cph fun R HR => ?_
  obtain ⟨_, _, _, c3, _, _⟩ := h.cell
  have HH := Lib.hid h
  clear h
  have hfree := blk_free HH.out.blk
  rcases Int.lt_or_le cell 100 with h100 | h100
  · have hno := nodeOf_low (l := s.nodes) h100
    rw [hno] at HR
    rcases Int.lt_or_le cell 0 with h0 | h0
    · have e : cell.tmod 2 = -((-cell).tmod 2) := by rw [Int.neg_tmod]; omega
      have e2 : -1 ≤ cell.tmod 2 := by rw [e, Int.tmod_eq_emod_of_nonneg (by omega)]; omega
      have e3 : cell.tmod 2 ≤ 0 := by rw [e, Int.tmod_eq_emod_of_nonneg (by omega)]; omega
      clear e
      go_enter Try.func30, Try.ntmps30
      go_wp2_with fail
      refine wp_loop_once ?_
      go_wp2_with fail
      exact HR.out _ _ ⟨rfl, rfl⟩
    · go_enter Try.func30, Try.ntmps30
      go_wp2_with fail
      refine wp_loop_once ?_
      go_wp2_with fail
      exact HR.out _ _ ⟨rfl, rfl⟩
  · go_enter Try.func30, Try.ntmps30
    go_wp2_with fail
    go_loopw [6] (fun i wr => ∃ f : Nat, f ≤ 11 ∧ i = .int .i64 (cell - cell % 2 - 2 * (11 - f)) ∧ Hid (nodeScan s.nodes cell f (cell - cell % 2 - 2 * (11 - f)) = nodeOf s.nodes cell) ∧ w = wr) (fun i _ => (intOf i).toNat)
    case atStart => exact ⟨11, by omega, by simp, by
      show nodeScan _ _ _ _ = nodeOf _ _
      unfold nodeOf
      rw [Int.tmod_eq_emod_of_nonneg (by omega)]
      simp, rfl⟩
    case round =>
      obtain ⟨f, hf, rfl, HI, rfl⟩ := hrel
      generalize hat : cell - cell % 2 - 2 * (11 - (f : Int)) = at_ at HI
      have hle : at_ ≤ cell := by omega
      have hx11 : f = 0 → at_ < cell - 20 := by omega
      have HAT := Lib.hid hat
      clear hat
      by_cases hq : 100 ≤ at_ ∧ cell - 19 < at_
      · obtain ⟨q1, q2⟩ := hq
        have hsc := HI.out
        obtain ⟨f, rfl⟩ : ∃ g, f = g + 1 := ⟨f - 1, by omega⟩
        have hlook := HH.out.map.lookup Try.underlying43 Try.underlying3 (Try.zeroValue3 w) at_ true
        rw [mget_kvOf] at hlook
        unfold nodeScan at hsc
        rw [if_pos ⟨q1, q2⟩] at hsc
        cases hg : nget s.nodes at_ with
        | none =>
          rw [hg] at hlook hsc
          simp only [if_true, Option.map_none, Option.getD_none, Option.isSome_none] at hlook
          dsimp only at hsc
          have HS := Lib.hid hsc
          clear hsc hg hx11 hfree
          go_wp2_with fail
          go_roundw
          case rel =>
            have hat := HAT.out
            have e : at_ - 2 = cell - cell % 2 - 2 * (11 - (f : Int)) := by omega
            refine ⟨f, by omega, ?_, ?_, trivial⟩
            · rw [← e]; try go_num
            · rw [← e]; exact HS.out
          case measure => simp [intOf]; omega
        | some z =>
          have hgd := HH.out.good.nodes _ (nget_mem hg)
          dsimp only at hgd
          obtain ⟨g1, g2, g3, g4⟩ := hgd
          rw [hg] at hlook hsc
          simp only [if_true, Option.map_some, Option.getD_some, Option.isSome_some] at hlook
          dsimp only at hsc
          rw [← hsc] at HR
          clear hsc hg hx11 hfree
          have hr0 : 0 ≤ rnd z := by unfold rnd; omega
          have hr1 : rnd z ≤ 20 := by unfold rnd; omega
          go_wp2_with (go_at_call 26; refine (rounded_any (by omega) (by omega)).mono ?_; rintro e w' ⟨rfl, rfl⟩)
          exact HR.out _ _ ⟨rfl, rfl⟩
      · have hres : nodeOf s.nodes cell = (0, false) := by
          rw [← HI.out]
          cases f with
          | zero => rfl
          | succ f => unfold nodeScan; rw [if_neg hq]
        rw [hres] at HR
        by_cases q1 : 100 ≤ at_
        · have q2 : at_ ≤ cell - 19 := by omega
          clear hq hres hx11 hfree hf
          go_wp2_with fail
          exact HR.out _ _ ⟨rfl, rfl⟩
        · clear hq hres hx11 hfree hf
          go_wp2_with fail
          exact HR.out _ _ ⟨rfl, rfl⟩
theorem alive_any {w : World} {base : Nat} {q : HB} {s : HS} (h : HeapAt w base q s) (cell : Int) (hlo : -9223372036854775808 ≤ cell) (hhi : cell ≤ 9223372036854775807) :
    Calls Try.prog 17 #[.pointer (some ⟨q.b, 0, none⟩), .int .i64 cell] w fun e w' => e = .returned (.bool (s.alive cell)) ∧ w = w' := by
  refine cph fun R HR => ?_
  have HN := Lib.hid (node_any h cell hlo hhi)
  have H0 := Lib.hid (none_any h)
  obtain ⟨_, _, c2, _, _, _⟩ := h.cell
  clear h
  by_cases h0 : cell < 0
  · go_enter Try.func17, Try.ntmps17
    go_wp2_with (go_at_call 25; refine H0.out.mono ?_; rintro e w' ⟨rfl, rfl⟩)
    refine HR.out _ _ ⟨?_, rfl⟩
    have : ¬ 0 ≤ cell := by omega
    simp [HS.alive, this]
  · by_cases h1 : cell < s.cells
    · go_enter Try.func17, Try.ntmps17
      go_wp2_with (go_at_call 25; refine H0.out.mono ?_; rintro e w' ⟨rfl, rfl⟩)
      refine HR.out _ _ ⟨?_, rfl⟩
      have : 0 ≤ cell := by omega
      simp [HS.alive, this, h1]
    · go_enter Try.func17, Try.ntmps17
      go_wp2_with (first | (go_at_call 25; refine H0.out.mono ?_; rintro e w' ⟨rfl, rfl⟩) | (go_at_call 30; refine HN.out.mono ?_; rintro e w' ⟨rfl, rfl⟩))
      refine HR.out _ _ ⟨?_, rfl⟩
      have h2 : 0 ≤ cell := by omega
      have h3 : ¬ cell < s.cells := by omega
      simp [HS.alive, h2, h3]
theorem asked_any {w : World} {base : Nat} {q : HB} {s : HS} (h : HeapAt w base q s) (cell : Int) (hlo : -9223372036854775808 ≤ cell) (hhi : cell ≤ 9223372036854775807) :
    Calls Try.prog 29 #[.pointer (some ⟨q.b, 0, none⟩), .int .i64 cell] w fun e w' => e = .returned (.int .i64 (s.asked cell)) ∧ w = w' := by
  refine cph fun R HR => ?_
  have HN := Lib.hid (alive_any h cell hlo hhi)
  have H0 := Lib.hid (none_any h)
  clear h
  cases ha : s.alive cell
  · rw [ha] at HN
    go_enter Try.func29, Try.ntmps29
    go_wp2_with (first | (go_at_call 25; refine H0.out.mono ?_; rintro e w' ⟨rfl, rfl⟩) | (go_at_call 17; refine HN.out.mono ?_; rintro e w' ⟨rfl, rfl⟩))
    exact HR.out _ _ ⟨by simp [HS.asked, ha], rfl⟩
  · rw [ha] at HN
    go_enter Try.func29, Try.ntmps29
    go_wp2_with (first | (go_at_call 25; refine H0.out.mono ?_; rintro e w' ⟨rfl, rfl⟩) | (go_at_call 17; refine HN.out.mono ?_; rintro e w' ⟨rfl, rfl⟩))
    exact HR.out _ _ ⟨by simp [HS.asked, ha], rfl⟩
theorem load_any {w : World} {base : Nat} {q : HB} {s : HS} (h : HeapAt w base q s) (cell : Int) (hlo : -9223372036854775808 ≤ cell) (hhi : cell ≤ 9223372036854775807) :
    Calls Try.prog 13 #[.pointer (some ⟨q.b, 0, none⟩), .int .i64 cell] w fun e w' => e = .returned (.tuple #[.int .i64 (if s.alive cell then HS.at_ s.words cell else 0), .int .i64 (s.asked cell)]) ∧ w = w' := by
  refine cph fun R HR => ?_
  have HN := Lib.hid (asked_any h cell hlo hhi)
  cases ha : s.alive cell
  · have e3 : s.asked cell = 3 := by simp [HS.asked, ha]
    rw [ha] at HR
    rw [e3] at HN HR
    clear h
    go_enter Try.func13, Try.ntmps13
    go_wp2_with (go_at_call 29; refine HN.out.mono ?_; rintro e w' ⟨rfl, rfl⟩)
    exact HR.out _ _ ⟨rfl, rfl⟩
  · have e3 : s.asked cell = 0 := by simp [HS.asked, ha]
    rw [ha] at HR
    rw [e3] at HN HR
    obtain ⟨b0, b1⟩ := alive_lt h.good ha
    obtain ⟨n, rfl⟩ := Int.eq_ofNat_of_zero_le b0
    have hc := h.word (i := n) (by omega)
    obtain ⟨c0, _, _, _, _, _⟩ := h.cell
    clear h
    go_enter Try.func13, Try.ntmps13
    go_wp2_with (go_at_call 29; refine HN.out.mono ?_; rintro e w' ⟨rfl, rfl⟩)
    exact HR.out _ _ ⟨rfl, rfl⟩
theorem version_any {w : World} {base : Nat} {q : HB} {s : HS} (h : HeapAt w base q s) (cell : Int) (hlo : -9223372036854775808 ≤ cell) (hhi : cell ≤ 9223372036854775807) :
    Calls Try.prog 12 #[.pointer (some ⟨q.b, 0, none⟩), .int .i64 cell] w fun e w' => e = .returned (.tuple #[.int .i64 (if s.alive cell then HS.at_ s.vers cell else 0), .int .i64 (s.asked cell)]) ∧ w = w' := by
  refine cph fun R HR => ?_
  have HN := Lib.hid (asked_any h cell hlo hhi)
  cases ha : s.alive cell
  · have e3 : s.asked cell = 3 := by simp [HS.asked, ha]
    rw [ha] at HR
    rw [e3] at HN HR
    clear h
    go_enter Try.func12, Try.ntmps12
    go_wp2_with (go_at_call 29; refine HN.out.mono ?_; rintro e w' ⟨rfl, rfl⟩)
    exact HR.out _ _ ⟨rfl, rfl⟩
  · have e3 : s.asked cell = 0 := by simp [HS.asked, ha]
    rw [ha] at HR
    rw [e3] at HN HR
    obtain ⟨b0, b1⟩ := alive_lt h.good ha
    obtain ⟨n, rfl⟩ := Int.eq_ofNat_of_zero_le b0
    have hc := h.ver (i := n) (by omega)
    obtain ⟨_, c0, _, _, _, _⟩ := h.cell
    clear h
    go_enter Try.func12, Try.ntmps12
    go_wp2_with (go_at_call 29; refine HN.out.mono ?_; rintro e w' ⟨rfl, rfl⟩)
    exact HR.out _ _ ⟨rfl, rfl⟩
theorem Node_any {w : World} {base : Nat} {q : HB} {s : HS} (h : HeapAt w base q s) (cell : Int) (hlo : -9223372036854775808 ≤ cell) (hhi : cell ≤ 9223372036854775807) :
    Calls Try.prog 18 #[.pointer (some ⟨q.b, 0, none⟩), .int .i64 cell] w fun e w' => e = .returned (.tuple #[.int .i64 (if (nodeOf s.nodes cell).2 then (nodeOf s.nodes cell).1 else 0), .int .i64 (if (nodeOf s.nodes cell).2 then 0 else 3)]) ∧ w = w' := by
  refine cph fun R HR => ?_
  have HN := Lib.hid (node_any h cell hlo hhi)
  have H0 := Lib.hid (none_any h)
  clear h
  cases hb : (nodeOf s.nodes cell).2
  · rw [hb] at HN HR
    go_enter Try.func18, Try.ntmps18
    go_wp2_with (first | (go_at_call 25; refine H0.out.mono ?_; rintro e w' ⟨rfl, rfl⟩) | (go_at_call 30; refine HN.out.mono ?_; rintro e w' ⟨rfl, rfl⟩))
    exact HR.out _ _ ⟨rfl, rfl⟩
  · rw [hb] at HN HR
    go_enter Try.func18, Try.ntmps18
    go_wp2_with (first | (go_at_call 25; refine H0.out.mono ?_; rintro e w' ⟨rfl, rfl⟩) | (go_at_call 30; refine HN.out.mono ?_; rintro e w' ⟨rfl, rfl⟩))
    exact HR.out _ _ ⟨rfl, rfl⟩
theorem Size_any {w : World} {base : Nat} {q : HB} {s : HS} (h : HeapAt w base q s) (cell : Int) :
    Calls Try.prog 16 #[.pointer (some ⟨q.b, 0, none⟩), .int .i64 cell] w fun e w' => e = .returned (.tuple #[.int .i64 ((nget s.nodes cell).getD 0), .int .i64 (if (nget s.nodes cell).isSome then 0 else 3)]) ∧ w = w' := by
  refine cph fun R HR => ?_
  have H0 := Lib.hid (none_any h)
  obtain ⟨_, _, _, c3, _, _⟩ := h.cell
  have hlook := h.map.lookup Try.underlying43 Try.underlying3 (Try.zeroValue3 w) cell true
  rw [mget_kvOf] at hlook
  clear h
  cases hb : nget s.nodes cell with
  | none =>
    rw [hb] at HR hlook
    simp only [if_true, Option.map_none, Option.getD_none, Option.isSome_none] at hlook
    go_enter Try.func16, Try.ntmps16
    go_wp2_with (go_at_call 25; refine H0.out.mono ?_; rintro e w' ⟨rfl, rfl⟩)
    exact HR.out _ _ ⟨rfl, rfl⟩
  | some z =>
    rw [hb] at HR hlook
    simp only [if_true, Option.map_some, Option.getD_some, Option.isSome_some] at hlook
    go_enter Try.func16, Try.ntmps16
    go_wp2_with (go_at_call 25; refine H0.out.mono ?_; rintro e w' ⟨rfl, rfl⟩)
    exact HR.out _ _ ⟨rfl, rfl⟩
theorem Top_any {w : World} {base : Nat} {q : HB} {s : HS} (h : HeapAt w base q s) : Calls Try.prog 22 #[.pointer (some ⟨q.b, 0, none⟩)] w fun e w' => e = .returned (.int .i64 s.top) ∧ w = w' := by
  refine cph fun R HR => ?_
  have H0 := Lib.hid (none_any h)
  obtain ⟨_, _, _, _, _, c5⟩ := h.cell
  clear h
  go_enter Try.func22, Try.ntmps22
  go_wp2_with (go_at_call 25; refine H0.out.mono ?_; rintro e w' ⟨rfl, rfl⟩)
  exact HR.out _ _ ⟨rfl, rfl⟩
end Go.Proofs.Ythkcihkeklojcaa
