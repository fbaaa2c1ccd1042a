/- What a nil heap, and a zero one, tells; the statement HeapNil answers true, for every two numbers. -/
import Derived.Test.YthkcihkeklojcaaHpW
set_option linter.unusedVariables false
set_option linter.unusedSimpArgs false
namespace Go.Proofs.Ythkcihkeklojcaa
open Go.RowKit Go.Kx
/-- A heap that New did not make: nil, or zero. -/
def NoneAt (w : World) (p : Value) : Prop := p = .pointer none ∨ ∃ b, p = .pointer (some ⟨b, 0, none⟩) ∧ w.heap[b]? = some (.cells #[.slice none 0 0, .slice none 0 0, .int .i64 0, .map none, .slice none 0 0, .int .i64 0] 46 (0, 0))
theorem NoneAt.grow {w w' : World} {p : Value} (h : NoneAt w p) (hg : Grow w w') : NoneAt w' p := h.imp id fun ⟨b, e, hb⟩ => ⟨b, e, hg.at_ hb⟩
theorem none_no {w : World} {p : Value} (h : NoneAt w p) : Calls Try.prog 25 #[p] w fun e w' => e = .returned (.bool true) ∧ w = w' := by
  refine cph fun R HR => ?_
  rcases h with rfl | ⟨b, rfl, hb⟩
  · go_enter Try.func25, Try.ntmps25
    go_wp2_with fail
    exact HR.out _ _ ⟨rfl, rfl⟩
  · have c3 := blk_cell hb 3
    simp only [List.getElem?_toArray, List.getElem?_cons_zero, List.getElem?_cons_succ] at c3
    clear hb
    have hmn : ∀ w, (binOp BinOp.eql 43 (.map none) (.map none)).run Try.prog w = .ok (.bool true) w := fun _ => by kernel_rfl
    go_enter Try.func25, Try.ntmps25
    go_wp2_with fail
    exact HR.out _ _ ⟨rfl, rfl⟩
theorem make_no {w : World} {p : Value} (h : NoneAt w p) (a : Int) : Calls Try.prog 10 #[p, .int .i64 a] w fun e w' => e = .returned (.tuple #[.int .i64 0, .int .i64 1]) ∧ w = w' := by
  refine cph fun R HR => ?_
  have H0 := Lib.hid (none_no h)
  clear h
  go_enter Try.func10, Try.ntmps10
  go_wp2_with (go_at_call 25; refine H0.out.mono ?_; rintro e w' ⟨rfl, rfl⟩)
  exact HR.out _ _ ⟨rfl, rfl⟩
theorem give_no {w : World} {p : Value} (h : NoneAt w p) (a : Int) : Calls Try.prog 11 #[p, .int .i64 a] w fun e w' => e = .returned (.int .i64 1) ∧ w = w' := by
  refine cph fun R HR => ?_
  have H0 := Lib.hid (none_no h)
  clear h
  go_enter Try.func11, Try.ntmps11
  go_wp2_with (go_at_call 25; refine H0.out.mono ?_; rintro e w' ⟨rfl, rfl⟩)
  exact HR.out _ _ ⟨rfl, rfl⟩
theorem alive_no {w : World} {p : Value} (h : NoneAt w p) (a : Int) : Calls Try.prog 17 #[p, .int .i64 a] w fun e w' => e = .returned (.bool false) ∧ w = w' := by
  refine cph fun R HR => ?_
  have H0 := Lib.hid (none_no h)
  clear h
  go_enter Try.func17, Try.ntmps17
  go_wp2_with (go_at_call 25; refine H0.out.mono ?_; rintro e w' ⟨rfl, rfl⟩)
  exact HR.out _ _ ⟨rfl, rfl⟩
theorem asked_no {w : World} {p : Value} (h : NoneAt w p) (a : Int) : Calls Try.prog 29 #[p, .int .i64 a] w fun e w' => e = .returned (.int .i64 1) ∧ w = w' := by
  refine cph fun R HR => ?_
  have H0 := Lib.hid (none_no h)
  clear h
  go_enter Try.func29, Try.ntmps29
  go_wp2_with (go_at_call 25; refine H0.out.mono ?_; rintro e w' ⟨rfl, rfl⟩)
  exact HR.out _ _ ⟨rfl, rfl⟩
theorem load_no {w : World} {p : Value} (h : NoneAt w p) (a : Int) : Calls Try.prog 13 #[p, .int .i64 a] w fun e w' => e = .returned (.tuple #[.int .i64 0, .int .i64 1]) ∧ w = w' := by
  refine cph fun R HR => ?_
  have H0 := Lib.hid (asked_no h a)
  clear h
  go_enter Try.func13, Try.ntmps13
  go_wp2_with (go_at_call 29; refine H0.out.mono ?_; rintro e w' ⟨rfl, rfl⟩)
  exact HR.out _ _ ⟨rfl, rfl⟩
theorem store_no {w : World} {p : Value} (h : NoneAt w p) (a b : Int) : Calls Try.prog 15 #[p, .int .i64 a, .int .i64 b] w fun e w' => e = .returned (.int .i64 1) ∧ w = w' := by
  refine cph fun R HR => ?_
  have H0 := Lib.hid (asked_no h a)
  clear h
  go_enter Try.func15, Try.ntmps15
  go_wp2_with (go_at_call 29; refine H0.out.mono ?_; rintro e w' ⟨rfl, rfl⟩)
  exact HR.out _ _ ⟨rfl, rfl⟩
theorem add_no {w : World} {p : Value} (h : NoneAt w p) (a b : Int) : Calls Try.prog 14 #[p, .int .i64 a, .int .i64 b] w fun e w' => e = .returned (.tuple #[.int .i64 0, .int .i64 1]) ∧ w = w' := by
  refine cph fun R HR => ?_
  have H0 := Lib.hid (load_no h a)
  clear h
  go_enter Try.func14, Try.ntmps14
  go_wp2_with (go_at_call 13; refine H0.out.mono ?_; rintro e w' ⟨rfl, rfl⟩)
  exact HR.out _ _ ⟨rfl, rfl⟩
theorem version_no {w : World} {p : Value} (h : NoneAt w p) (a : Int) : Calls Try.prog 12 #[p, .int .i64 a] w fun e w' => e = .returned (.tuple #[.int .i64 0, .int .i64 1]) ∧ w = w' := by
  refine cph fun R HR => ?_
  have H0 := Lib.hid (asked_no h a)
  clear h
  go_enter Try.func12, Try.ntmps12
  go_wp2_with (go_at_call 29; refine H0.out.mono ?_; rintro e w' ⟨rfl, rfl⟩)
  exact HR.out _ _ ⟨rfl, rfl⟩
theorem Node_no {w : World} {p : Value} (h : NoneAt w p) (a : Int) : Calls Try.prog 18 #[p, .int .i64 a] w fun e w' => e = .returned (.tuple #[.int .i64 0, .int .i64 1]) ∧ w = w' := by
  refine cph fun R HR => ?_
  have H0 := Lib.hid (none_no h)
  clear h
  go_enter Try.func18, Try.ntmps18
  go_wp2_with (go_at_call 25; refine H0.out.mono ?_; rintro e w' ⟨rfl, rfl⟩)
  exact HR.out _ _ ⟨rfl, rfl⟩
theorem Size_no {w : World} {p : Value} (h : NoneAt w p) (a : Int) : Calls Try.prog 16 #[p, .int .i64 a] w fun e w' => e = .returned (.tuple #[.int .i64 0, .int .i64 1]) ∧ w = w' := by
  refine cph fun R HR => ?_
  have H0 := Lib.hid (none_no h)
  clear h
  go_enter Try.func16, Try.ntmps16
  go_wp2_with (go_at_call 25; refine H0.out.mono ?_; rintro e w' ⟨rfl, rfl⟩)
  exact HR.out _ _ ⟨rfl, rfl⟩
theorem Nodes_no {w : World} {p : Value} (h : NoneAt w p) : Calls Try.prog 19 #[p] w fun e w' => e = .returned (.slice none 0 0) ∧ w = w' := by
  refine cph fun R HR => ?_
  have H0 := Lib.hid (none_no h)
  clear h
  go_enter Try.func19, Try.ntmps19
  go_wp2_with (go_at_call 25; refine H0.out.mono ?_; rintro e w' ⟨rfl, rfl⟩)
  exact HR.out _ _ ⟨rfl, rfl⟩
theorem Free_no {w : World} {p : Value} (h : NoneAt w p) : Calls Try.prog 21 #[p] w fun e w' => e = .returned (.slice none 0 0) ∧ w = w' := by
  refine cph fun R HR => ?_
  have H0 := Lib.hid (none_no h)
  clear h
  go_enter Try.func21, Try.ntmps21
  go_wp2_with (go_at_call 25; refine H0.out.mono ?_; rintro e w' ⟨rfl, rfl⟩)
  exact HR.out _ _ ⟨rfl, rfl⟩
theorem Top_no {w : World} {p : Value} (h : NoneAt w p) : Calls Try.prog 22 #[p] w fun e w' => e = .returned (.int .i64 0) ∧ w = w' := by
  refine cph fun R HR => ?_
  have H0 := Lib.hid (none_no h)
  clear h
  go_enter Try.func22, Try.ntmps22
  go_wp2_with (go_at_call 25; refine H0.out.mono ?_; rintro e w' ⟨rfl, rfl⟩)
  exact HR.out _ _ ⟨rfl, rfl⟩
theorem Copy_no {w : World} {p : Value} (h : NoneAt w p) : Calls Try.prog 23 #[p] w fun e w' => e = .returned (.pointer none) ∧ w = w' := by
  refine cph fun R HR => ?_
  have H0 := Lib.hid (none_no h)
  clear h
  go_enter Try.func23, Try.ntmps23
  go_wp2_with (go_at_call 25; refine H0.out.mono ?_; rintro e w' ⟨rfl, rfl⟩)
  exact HR.out _ _ ⟨rfl, rfl⟩
theorem Same_no {w : World} : Calls Try.prog 24 #[.pointer none, .pointer none] w fun e w' => e = .returned (.bool true) ∧ w = w' := by
  refine cph fun R HR => ?_
  have H0 := Lib.hid (none_no (w := w) (p := .pointer none) (.inl rfl))
  go_enter Try.func24, Try.ntmps24
  go_wp2_with (go_at_call 25; refine H0.out.mono ?_; rintro e w' ⟨rfl, rfl⟩)
  exact HR.out _ _ ⟨rfl, rfl⟩
theorem ones8 (w : World) (t : TypeId) : ∀ j : Nat, j < 8 → (w.alloc (.cells #[.int .i64 1, .int .i64 1, .int .i64 1, .int .i64 1, .int .i64 1, .int .i64 1, .int .i64 1, .int .i64 1] t)).cell? ⟨w.heap.size, j, none⟩ = some (.int .i64 1) := by
  intro j hj
  rw [blk_cell (blk_new w _)]
  match j, hj with
  | 0, _ => rfl
  | 1, _ => rfl
  | 2, _ => rfl
  | 3, _ => rfl
  | 4, _ => rfl
  | 5, _ => rfl
  | 6, _ => rfl
  | 7, _ => rfl
set_option maxRecDepth 100000 in
set_option maxHeartbeats 4000000 in
theorem nils_any (w : World) (a b : Int) : Calls Try.prog 7 #[.int .i64 a, .int .i64 b] w (TrueP w) := by
  refine cph fun R HR => ?_
  go_enter Try.func7, Try.ntmps7
  go_wp2_with (go_at_call 8; refine (awake_any _).mono ?_)
  rintro e w1 ⟨rfl, hg1⟩
  have H1 := Lib.hid hg1
  clear hg1
  go_wp2_with fail
  obtain ⟨W0, hW0⟩ : ∃ W0, (w1.alloc (.cells #[.slice none 0 0, .slice none 0 0, .int .i64 0, .map none, .slice none 0 0, .int .i64 0] 46)).alloc (.cells #[.pointer none, .pointer (some ⟨w1.heap.size, 0, none⟩)] 24) = W0 := ⟨_, rfl⟩
  have hP : ∀ k : Nat, k < 2 → ∃ p, W0.cell? ⟨w1.heap.size + 1, k, none⟩ = some p ∧ NoneAt W0 p := by
    have hb := blk_new (w1.alloc (.cells #[.slice none 0 0, .slice none 0 0, .int .i64 0, .map none, .slice none 0 0, .int .i64 0] 46)) (.cells #[.pointer none, .pointer (some ⟨w1.heap.size, 0, none⟩)] 24)
    rw [hW0, World.size_alloc] at hb
    have hc := blk_cell hb
    intro k hk
    match k, hk with
    | 0, _ => exact ⟨_, hc 0, .inl rfl⟩
    | 1, _ => exact ⟨_, hc 1, .inr ⟨_, rfl, by rw [← hW0]; exact blk_alloc' _ (blk_new w1 _)⟩⟩
  have hg0 : Grow w1 W0 := by rw [← hW0]; exact ((Grow.refl w1).alloc _).alloc _
  have H0 := Lib.hid (And.intro hP hg0)
  rw [hW0]
  clear hP hg0 hW0
  go_loopw [31] (fun i wr => ∃ k : Nat, k ≤ 2 ∧ i = .int .i64 k ∧ Hid (Grow W0 wr)) (fun i _ => 2 - (intOf i).toNat)
  case atStart => exact ⟨0, by omega, rfl, Grow.refl _⟩
  case round =>
    obtain ⟨k, hk, rfl, HG⟩ := hrel
    by_cases hlt : k < 2
    · obtain ⟨p, hc0, hp0⟩ := H0.out.1 k hlt
      have hc := HG.out.cell hc0
      have HN := Lib.hid (hp0.grow HG.out)
      have hki : (k : Int) < 2 := by omega
      have h8 := Lib.hid (ones8 wr 25)
      clear hc0 hp0
      go_wp2_with (first | (go_at_call 10; refine (make_no HN.out a).mono ?_; rintro e w' ⟨rfl, rfl⟩) | (go_at_call 11; refine (give_no HN.out a).mono ?_; rintro e w' ⟨rfl, rfl⟩) | (go_at_call 13; refine (load_no HN.out a).mono ?_; rintro e w' ⟨rfl, rfl⟩) | (go_at_call 15; refine (store_no HN.out a b).mono ?_; rintro e w' ⟨rfl, rfl⟩) | (go_at_call 14; refine (add_no HN.out a b).mono ?_; rintro e w' ⟨rfl, rfl⟩) | (go_at_call 12; refine (version_no HN.out a).mono ?_; rintro e w' ⟨rfl, rfl⟩) | (go_at_call 18; refine (Node_no HN.out a).mono ?_; rintro e w' ⟨rfl, rfl⟩) | (go_at_call 16; refine (Size_no HN.out a).mono ?_; rintro e w' ⟨rfl, rfl⟩) | (go_at_call 17; refine (alive_no HN.out a).mono ?_; rintro e w' ⟨rfl, rfl⟩) | (go_at_call 19; refine (Nodes_no HN.out).mono ?_; rintro e w' ⟨rfl, rfl⟩) | (go_at_call 21; refine (Free_no HN.out).mono ?_; rintro e w' ⟨rfl, rfl⟩) | (go_at_call 22; refine (Top_no HN.out).mono ?_; rintro e w' ⟨rfl, rfl⟩) | (go_at_call 23; refine (Copy_no HN.out).mono ?_; rintro e w' ⟨rfl, rfl⟩))
      go_loop [138] (fun i => ∃ j : Nat, j ≤ 8 ∧ i = .int .i64 j) (fun i => 8 - (intOf i).toNat)
      case atStart => exact ⟨0, by omega, rfl⟩
      case round =>
        obtain ⟨j, hj, rfl⟩ := hrel
        by_cases hltj : j < 8
        · have hc8 := h8.out j hltj
          have hji : (j : Int) < 8 := by omega
          go_wp2_with fail
          go_round
          case rel => exact ⟨j + 1, by omega, by go_num⟩
          case measure => simp [intOf]; omega
        · have hji : ¬ (j : Int) < 8 := by omega
          go_wp2_with fail
          go_roundw
          case rel => exact ⟨k + 1, by omega, by go_num, HG.out.alloc _⟩
          case measure => simp [intOf]; omega
    · have hki : ¬ (k : Int) < 2 := by omega
      go_wp2_with (go_at_call 24; refine Same_no.mono ?_; rintro e w' ⟨rfl, rfl⟩)
      exact HR.out _ _ ⟨rfl, H1.out.trans (H0.out.2.trans HG.out)⟩
end Go.Proofs.Ythkcihkeklojcaa
