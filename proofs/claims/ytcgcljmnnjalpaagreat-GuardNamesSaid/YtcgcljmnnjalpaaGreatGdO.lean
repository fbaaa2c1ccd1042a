/- GuardNames: the names of the kinds, both ways, and the bounds, at every kind, number of threads and string. -/
import Derived.Test.YtcgcljmnnjalpaaGreatGdN
set_option linter.unusedVariables false
set_option linter.unusedSimpArgs false
namespace Go.Proofs.YtcgcljmnnjalpaaGreat
open Go.RowKit Go.Kx
open Go.ChangeMaps (setBlock)
theorem of_nm (k : Int) (h : okK k = true) : ofN (nmS k).toList = k := by
  rcases okK_cases k with ⟨_, e⟩ | rfl | rfl | rfl | rfl | rfl | rfl
  · rw [h] at e; cases e
  all_goals decide +kernel
theorem of_no (k : Int) (h : okK k = false) : ofN (nmS k).toList = -1 := by
  have : nmS k = ⟨#[]⟩ := by simp [nmS, h]
  rw [this]; decide +kernel
theorem rNm (w : World) (k : Int) (a : Array UInt8) (h : nmS k = ⟨a⟩) (h2 : okK k = true) : Calls Tryz.prog 33 #[.int .i64 k] w fun e w' => e = .returned (.tuple #[.string ⟨a⟩, .int .i64 0]) ∧ Grow w w' := (rName w k).mono fun e w' ⟨he, hg⟩ => ⟨by rw [he, h, h2]; rfl, hg⟩
set_option maxHeartbeats 16000000 in
theorem gNames (w : World) (k t : Int) (s : ByteArray) : Calls Tryz.prog 9 #[.int .i64 k, .int .i64 t, .string s] w (TrueP w) := by
  refine cph fun R HR => ?_
  have HAw := Lib.hid (awake_any w)
  have HN := Lib.hid (fun w => gName w k)
  have HM := Lib.hid (fun w => rName w k)
  have HB := Lib.hid (fun w => gBound w k t)
  have HC := Lib.hid (fun w => rBound w k t)
  have HO := Lib.hid (fun w => gOf w s)
  have HS := Lib.hid (fun w => gOf w (nmS k))
  have HR0 := Lib.hid (fun w => rNm w 0 #[108, 101, 97, 107] rfl rfl)
  have HR1 := Lib.hid (fun w => rNm w 1 #[104, 97, 122, 97, 114, 100] rfl rfl)
  have HR2 := Lib.hid (fun w => rNm w 2 #[101, 112, 111, 99, 104] rfl rfl)
  have HR3 := Lib.hid (fun w => rNm w 3 #[115, 112, 97, 110] rfl rfl)
  have HR4 := Lib.hid (fun w => rNm w 4 #[99, 111, 117, 110, 116, 101, 100] rfl rfl)
  have HR5 := Lib.hid (fun w => rNm w 5 #[113, 117, 105, 101, 116] rfl rfl)
  have hb : (okK k = true ∧ ofN (nmS k).toList = k ∧ 0 ≤ k) ∨ (okK k = false ∧ ofN (nmS k).toList = -1) := by
    cases h : okK k
    · exact .inr ⟨rfl, of_no k h⟩
    · exact .inl ⟨rfl, of_nm k h, by simp [okK] at h; omega⟩
  have HX := Lib.hid hb
  clear hb
  unfold NmP at HN HM
  unfold bdP at HB HC
  unfold OfP at HO HS
  unfold TrueP at HAw
  generalize ofN (nmS k).toList = nb at HS HX
  generalize bdV k t = bv at HB HC
  generalize (okK k && okT t) = bo at HB HC
  generalize nmS k = S at HN HM HS
  generalize okK k = ok at HN HM HX
  generalize ez : (if ok then (0 : Int) else 1) = E at HN HM
  generalize (if bo then bv else 0) = B1 at HB HC
  generalize (if bo then (0 : Int) else 1) = B2 at HB HC
  obtain ⟨i, hi, ⟨e0, e1, e2, e3, e4, e5⟩, hv⟩ := nth_cases s.toList
  rw [hv] at HO
  clear hv
  obtain rfl | rfl | rfl | rfl | rfl | rfl | rfl : i = 0 ∨ i = 1 ∨ i = 2 ∨ i = 3 ∨ i = 4 ∨ i = 5 ∨ i = 6 := by omega
  · change (s.toList == [108, 101, 97, 107]) = true at e0
    have d0 : ([108, 101, 97, 107] == s.toList) = true := by rw [BEq.comm]; exact e0
    change (s.toList == [104, 97, 122, 97, 114, 100]) = false at e1
    have d1 : ([104, 97, 122, 97, 114, 100] == s.toList) = false := by rw [BEq.comm]; exact e1
    change (s.toList == [101, 112, 111, 99, 104]) = false at e2
    have d2 : ([101, 112, 111, 99, 104] == s.toList) = false := by rw [BEq.comm]; exact e2
    change (s.toList == [115, 112, 97, 110]) = false at e3
    have d3 : ([115, 112, 97, 110] == s.toList) = false := by rw [BEq.comm]; exact e3
    change (s.toList == [99, 111, 117, 110, 116, 101, 100]) = false at e4
    have d4 : ([99, 111, 117, 110, 116, 101, 100] == s.toList) = false := by rw [BEq.comm]; exact e4
    change (s.toList == [113, 117, 105, 101, 116]) = false at e5
    have d5 : ([113, 117, 105, 101, 116] == s.toList) = false := by rw [BEq.comm]; exact e5
    have HO : RowKit.Hid (∀ w, Calls Tryz.prog 36 #[.string s] w fun e w' => e = .returned (.tuple #[.int .i64 0, .int .i64 0]) ∧ Grow w w') := Lib.hid HO.out
    clear hi
    clear HS HX ez
    go_enter Tryz.func9, Tryz.ntmps9
    go_wp2_with (first | (go_at_call 13; refine HAw.out.mono ?_; rintro e w1 ⟨rfl, g1⟩) | (go_at_call 32; refine (HN.out _).mono ?_; rintro e w2 ⟨rfl, g2⟩) | (go_at_call 33; refine (HM.out _).mono ?_; rintro e w3 ⟨rfl, g3⟩) | (go_at_call 34; refine (HB.out _).mono ?_; rintro e w4 ⟨rfl, rfl⟩) | (go_at_call 35; refine (HC.out _).mono ?_; rintro e w5 ⟨rfl, rfl⟩) | (go_at_call 36; refine (HO.out _).mono ?_; rintro e w6 ⟨rfl, g6⟩))
    refine wp_loop_rounds 1 ?_
    rw [rounds_succ]
    go_wp2_with (go_at_call 33; refine (HR0.out _).mono ?_; rintro e w7 ⟨rfl, q0⟩)
    exact HR.out _ _ ⟨rfl, ((((g1.trans g2).trans g3).trans g6).trans q0)⟩
  · change (s.toList == [108, 101, 97, 107]) = false at e0
    have d0 : ([108, 101, 97, 107] == s.toList) = false := by rw [BEq.comm]; exact e0
    change (s.toList == [104, 97, 122, 97, 114, 100]) = true at e1
    have d1 : ([104, 97, 122, 97, 114, 100] == s.toList) = true := by rw [BEq.comm]; exact e1
    change (s.toList == [101, 112, 111, 99, 104]) = false at e2
    have d2 : ([101, 112, 111, 99, 104] == s.toList) = false := by rw [BEq.comm]; exact e2
    change (s.toList == [115, 112, 97, 110]) = false at e3
    have d3 : ([115, 112, 97, 110] == s.toList) = false := by rw [BEq.comm]; exact e3
    change (s.toList == [99, 111, 117, 110, 116, 101, 100]) = false at e4
    have d4 : ([99, 111, 117, 110, 116, 101, 100] == s.toList) = false := by rw [BEq.comm]; exact e4
    change (s.toList == [113, 117, 105, 101, 116]) = false at e5
    have d5 : ([113, 117, 105, 101, 116] == s.toList) = false := by rw [BEq.comm]; exact e5
    have HO : RowKit.Hid (∀ w, Calls Tryz.prog 36 #[.string s] w fun e w' => e = .returned (.tuple #[.int .i64 1, .int .i64 0]) ∧ Grow w w') := Lib.hid HO.out
    clear hi
    clear HS HX ez
    go_enter Tryz.func9, Tryz.ntmps9
    go_wp2_with (first | (go_at_call 13; refine HAw.out.mono ?_; rintro e w1 ⟨rfl, g1⟩) | (go_at_call 32; refine (HN.out _).mono ?_; rintro e w2 ⟨rfl, g2⟩) | (go_at_call 33; refine (HM.out _).mono ?_; rintro e w3 ⟨rfl, g3⟩) | (go_at_call 34; refine (HB.out _).mono ?_; rintro e w4 ⟨rfl, rfl⟩) | (go_at_call 35; refine (HC.out _).mono ?_; rintro e w5 ⟨rfl, rfl⟩) | (go_at_call 36; refine (HO.out _).mono ?_; rintro e w6 ⟨rfl, g6⟩))
    refine wp_loop_rounds 2 ?_
    rw [rounds_succ]
    go_wp2_with (go_at_call 33; refine (HR0.out _).mono ?_; rintro e w7 ⟨rfl, q0⟩)
    rw [rounds_succ]
    go_wp2_with (go_at_call 33; refine (HR1.out _).mono ?_; rintro e w7 ⟨rfl, q1⟩)
    exact HR.out _ _ ⟨rfl, (((((g1.trans g2).trans g3).trans g6).trans q0).trans q1)⟩
  · change (s.toList == [108, 101, 97, 107]) = false at e0
    have d0 : ([108, 101, 97, 107] == s.toList) = false := by rw [BEq.comm]; exact e0
    change (s.toList == [104, 97, 122, 97, 114, 100]) = false at e1
    have d1 : ([104, 97, 122, 97, 114, 100] == s.toList) = false := by rw [BEq.comm]; exact e1
    change (s.toList == [101, 112, 111, 99, 104]) = true at e2
    have d2 : ([101, 112, 111, 99, 104] == s.toList) = true := by rw [BEq.comm]; exact e2
    change (s.toList == [115, 112, 97, 110]) = false at e3
    have d3 : ([115, 112, 97, 110] == s.toList) = false := by rw [BEq.comm]; exact e3
    change (s.toList == [99, 111, 117, 110, 116, 101, 100]) = false at e4
    have d4 : ([99, 111, 117, 110, 116, 101, 100] == s.toList) = false := by rw [BEq.comm]; exact e4
    change (s.toList == [113, 117, 105, 101, 116]) = false at e5
    have d5 : ([113, 117, 105, 101, 116] == s.toList) = false := by rw [BEq.comm]; exact e5
    have HO : RowKit.Hid (∀ w, Calls Tryz.prog 36 #[.string s] w fun e w' => e = .returned (.tuple #[.int .i64 2, .int .i64 0]) ∧ Grow w w') := Lib.hid HO.out
    clear hi
    clear HS HX ez
    go_enter Tryz.func9, Tryz.ntmps9
    go_wp2_with (first | (go_at_call 13; refine HAw.out.mono ?_; rintro e w1 ⟨rfl, g1⟩) | (go_at_call 32; refine (HN.out _).mono ?_; rintro e w2 ⟨rfl, g2⟩) | (go_at_call 33; refine (HM.out _).mono ?_; rintro e w3 ⟨rfl, g3⟩) | (go_at_call 34; refine (HB.out _).mono ?_; rintro e w4 ⟨rfl, rfl⟩) | (go_at_call 35; refine (HC.out _).mono ?_; rintro e w5 ⟨rfl, rfl⟩) | (go_at_call 36; refine (HO.out _).mono ?_; rintro e w6 ⟨rfl, g6⟩))
    refine wp_loop_rounds 3 ?_
    rw [rounds_succ]
    go_wp2_with (go_at_call 33; refine (HR0.out _).mono ?_; rintro e w7 ⟨rfl, q0⟩)
    rw [rounds_succ]
    go_wp2_with (go_at_call 33; refine (HR1.out _).mono ?_; rintro e w7 ⟨rfl, q1⟩)
    rw [rounds_succ]
    go_wp2_with (go_at_call 33; refine (HR2.out _).mono ?_; rintro e w7 ⟨rfl, q2⟩)
    exact HR.out _ _ ⟨rfl, ((((((g1.trans g2).trans g3).trans g6).trans q0).trans q1).trans q2)⟩
  · change (s.toList == [108, 101, 97, 107]) = false at e0
    have d0 : ([108, 101, 97, 107] == s.toList) = false := by rw [BEq.comm]; exact e0
    change (s.toList == [104, 97, 122, 97, 114, 100]) = false at e1
    have d1 : ([104, 97, 122, 97, 114, 100] == s.toList) = false := by rw [BEq.comm]; exact e1
    change (s.toList == [101, 112, 111, 99, 104]) = false at e2
    have d2 : ([101, 112, 111, 99, 104] == s.toList) = false := by rw [BEq.comm]; exact e2
    change (s.toList == [115, 112, 97, 110]) = true at e3
    have d3 : ([115, 112, 97, 110] == s.toList) = true := by rw [BEq.comm]; exact e3
    change (s.toList == [99, 111, 117, 110, 116, 101, 100]) = false at e4
    have d4 : ([99, 111, 117, 110, 116, 101, 100] == s.toList) = false := by rw [BEq.comm]; exact e4
    change (s.toList == [113, 117, 105, 101, 116]) = false at e5
    have d5 : ([113, 117, 105, 101, 116] == s.toList) = false := by rw [BEq.comm]; exact e5
    have HO : RowKit.Hid (∀ w, Calls Tryz.prog 36 #[.string s] w fun e w' => e = .returned (.tuple #[.int .i64 3, .int .i64 0]) ∧ Grow w w') := Lib.hid HO.out
    clear hi
    clear HS HX ez
    go_enter Tryz.func9, Tryz.ntmps9
    go_wp2_with (first | (go_at_call 13; refine HAw.out.mono ?_; rintro e w1 ⟨rfl, g1⟩) | (go_at_call 32; refine (HN.out _).mono ?_; rintro e w2 ⟨rfl, g2⟩) | (go_at_call 33; refine (HM.out _).mono ?_; rintro e w3 ⟨rfl, g3⟩) | (go_at_call 34; refine (HB.out _).mono ?_; rintro e w4 ⟨rfl, rfl⟩) | (go_at_call 35; refine (HC.out _).mono ?_; rintro e w5 ⟨rfl, rfl⟩) | (go_at_call 36; refine (HO.out _).mono ?_; rintro e w6 ⟨rfl, g6⟩))
    refine wp_loop_rounds 4 ?_
    rw [rounds_succ]
    go_wp2_with (go_at_call 33; refine (HR0.out _).mono ?_; rintro e w7 ⟨rfl, q0⟩)
    rw [rounds_succ]
    go_wp2_with (go_at_call 33; refine (HR1.out _).mono ?_; rintro e w7 ⟨rfl, q1⟩)
    rw [rounds_succ]
    go_wp2_with (go_at_call 33; refine (HR2.out _).mono ?_; rintro e w7 ⟨rfl, q2⟩)
    rw [rounds_succ]
    go_wp2_with (go_at_call 33; refine (HR3.out _).mono ?_; rintro e w7 ⟨rfl, q3⟩)
    exact HR.out _ _ ⟨rfl, (((((((g1.trans g2).trans g3).trans g6).trans q0).trans q1).trans q2).trans q3)⟩
  · change (s.toList == [108, 101, 97, 107]) = false at e0
    have d0 : ([108, 101, 97, 107] == s.toList) = false := by rw [BEq.comm]; exact e0
    change (s.toList == [104, 97, 122, 97, 114, 100]) = false at e1
    have d1 : ([104, 97, 122, 97, 114, 100] == s.toList) = false := by rw [BEq.comm]; exact e1
    change (s.toList == [101, 112, 111, 99, 104]) = false at e2
    have d2 : ([101, 112, 111, 99, 104] == s.toList) = false := by rw [BEq.comm]; exact e2
    change (s.toList == [115, 112, 97, 110]) = false at e3
    have d3 : ([115, 112, 97, 110] == s.toList) = false := by rw [BEq.comm]; exact e3
    change (s.toList == [99, 111, 117, 110, 116, 101, 100]) = true at e4
    have d4 : ([99, 111, 117, 110, 116, 101, 100] == s.toList) = true := by rw [BEq.comm]; exact e4
    change (s.toList == [113, 117, 105, 101, 116]) = false at e5
    have d5 : ([113, 117, 105, 101, 116] == s.toList) = false := by rw [BEq.comm]; exact e5
    have HO : RowKit.Hid (∀ w, Calls Tryz.prog 36 #[.string s] w fun e w' => e = .returned (.tuple #[.int .i64 4, .int .i64 0]) ∧ Grow w w') := Lib.hid HO.out
    clear hi
    clear HS HX ez
    go_enter Tryz.func9, Tryz.ntmps9
    go_wp2_with (first | (go_at_call 13; refine HAw.out.mono ?_; rintro e w1 ⟨rfl, g1⟩) | (go_at_call 32; refine (HN.out _).mono ?_; rintro e w2 ⟨rfl, g2⟩) | (go_at_call 33; refine (HM.out _).mono ?_; rintro e w3 ⟨rfl, g3⟩) | (go_at_call 34; refine (HB.out _).mono ?_; rintro e w4 ⟨rfl, rfl⟩) | (go_at_call 35; refine (HC.out _).mono ?_; rintro e w5 ⟨rfl, rfl⟩) | (go_at_call 36; refine (HO.out _).mono ?_; rintro e w6 ⟨rfl, g6⟩))
    refine wp_loop_rounds 5 ?_
    rw [rounds_succ]
    go_wp2_with (go_at_call 33; refine (HR0.out _).mono ?_; rintro e w7 ⟨rfl, q0⟩)
    rw [rounds_succ]
    go_wp2_with (go_at_call 33; refine (HR1.out _).mono ?_; rintro e w7 ⟨rfl, q1⟩)
    rw [rounds_succ]
    go_wp2_with (go_at_call 33; refine (HR2.out _).mono ?_; rintro e w7 ⟨rfl, q2⟩)
    rw [rounds_succ]
    go_wp2_with (go_at_call 33; refine (HR3.out _).mono ?_; rintro e w7 ⟨rfl, q3⟩)
    rw [rounds_succ]
    go_wp2_with (go_at_call 33; refine (HR4.out _).mono ?_; rintro e w7 ⟨rfl, q4⟩)
    exact HR.out _ _ ⟨rfl, ((((((((g1.trans g2).trans g3).trans g6).trans q0).trans q1).trans q2).trans q3).trans q4)⟩
  · change (s.toList == [108, 101, 97, 107]) = false at e0
    have d0 : ([108, 101, 97, 107] == s.toList) = false := by rw [BEq.comm]; exact e0
    change (s.toList == [104, 97, 122, 97, 114, 100]) = false at e1
    have d1 : ([104, 97, 122, 97, 114, 100] == s.toList) = false := by rw [BEq.comm]; exact e1
    change (s.toList == [101, 112, 111, 99, 104]) = false at e2
    have d2 : ([101, 112, 111, 99, 104] == s.toList) = false := by rw [BEq.comm]; exact e2
    change (s.toList == [115, 112, 97, 110]) = false at e3
    have d3 : ([115, 112, 97, 110] == s.toList) = false := by rw [BEq.comm]; exact e3
    change (s.toList == [99, 111, 117, 110, 116, 101, 100]) = false at e4
    have d4 : ([99, 111, 117, 110, 116, 101, 100] == s.toList) = false := by rw [BEq.comm]; exact e4
    change (s.toList == [113, 117, 105, 101, 116]) = true at e5
    have d5 : ([113, 117, 105, 101, 116] == s.toList) = true := by rw [BEq.comm]; exact e5
    have HO : RowKit.Hid (∀ w, Calls Tryz.prog 36 #[.string s] w fun e w' => e = .returned (.tuple #[.int .i64 5, .int .i64 0]) ∧ Grow w w') := Lib.hid HO.out
    clear hi
    clear HS HX ez
    go_enter Tryz.func9, Tryz.ntmps9
    go_wp2_with (first | (go_at_call 13; refine HAw.out.mono ?_; rintro e w1 ⟨rfl, g1⟩) | (go_at_call 32; refine (HN.out _).mono ?_; rintro e w2 ⟨rfl, g2⟩) | (go_at_call 33; refine (HM.out _).mono ?_; rintro e w3 ⟨rfl, g3⟩) | (go_at_call 34; refine (HB.out _).mono ?_; rintro e w4 ⟨rfl, rfl⟩) | (go_at_call 35; refine (HC.out _).mono ?_; rintro e w5 ⟨rfl, rfl⟩) | (go_at_call 36; refine (HO.out _).mono ?_; rintro e w6 ⟨rfl, g6⟩))
    refine wp_loop_rounds 6 ?_
    rw [rounds_succ]
    go_wp2_with (go_at_call 33; refine (HR0.out _).mono ?_; rintro e w7 ⟨rfl, q0⟩)
    rw [rounds_succ]
    go_wp2_with (go_at_call 33; refine (HR1.out _).mono ?_; rintro e w7 ⟨rfl, q1⟩)
    rw [rounds_succ]
    go_wp2_with (go_at_call 33; refine (HR2.out _).mono ?_; rintro e w7 ⟨rfl, q2⟩)
    rw [rounds_succ]
    go_wp2_with (go_at_call 33; refine (HR3.out _).mono ?_; rintro e w7 ⟨rfl, q3⟩)
    rw [rounds_succ]
    go_wp2_with (go_at_call 33; refine (HR4.out _).mono ?_; rintro e w7 ⟨rfl, q4⟩)
    rw [rounds_succ]
    go_wp2_with (go_at_call 33; refine (HR5.out _).mono ?_; rintro e w7 ⟨rfl, q5⟩)
    exact HR.out _ _ ⟨rfl, (((((((((g1.trans g2).trans g3).trans g6).trans q0).trans q1).trans q2).trans q3).trans q4).trans q5)⟩
  · change (s.toList == [108, 101, 97, 107]) = false at e0
    have d0 : ([108, 101, 97, 107] == s.toList) = false := by rw [BEq.comm]; exact e0
    change (s.toList == [104, 97, 122, 97, 114, 100]) = false at e1
    have d1 : ([104, 97, 122, 97, 114, 100] == s.toList) = false := by rw [BEq.comm]; exact e1
    change (s.toList == [101, 112, 111, 99, 104]) = false at e2
    have d2 : ([101, 112, 111, 99, 104] == s.toList) = false := by rw [BEq.comm]; exact e2
    change (s.toList == [115, 112, 97, 110]) = false at e3
    have d3 : ([115, 112, 97, 110] == s.toList) = false := by rw [BEq.comm]; exact e3
    change (s.toList == [99, 111, 117, 110, 116, 101, 100]) = false at e4
    have d4 : ([99, 111, 117, 110, 116, 101, 100] == s.toList) = false := by rw [BEq.comm]; exact e4
    change (s.toList == [113, 117, 105, 101, 116]) = false at e5
    have d5 : ([113, 117, 105, 101, 116] == s.toList) = false := by rw [BEq.comm]; exact e5
    have HO : RowKit.Hid (∀ w, Calls Tryz.prog 36 #[.string s] w fun e w' => e = .returned (.tuple #[.int .i64 0, .int .i64 5]) ∧ Grow w w') := Lib.hid HO.out
    clear hi
    go_enter Tryz.func9, Tryz.ntmps9
    go_wp2_with (first | (go_at_call 13; refine HAw.out.mono ?_; rintro e w1 ⟨rfl, g1⟩) | (go_at_call 32; refine (HN.out _).mono ?_; rintro e w2 ⟨rfl, g2⟩) | (go_at_call 33; refine (HM.out _).mono ?_; rintro e w3 ⟨rfl, g3⟩) | (go_at_call 34; refine (HB.out _).mono ?_; rintro e w4 ⟨rfl, rfl⟩) | (go_at_call 35; refine (HC.out _).mono ?_; rintro e w5 ⟨rfl, rfl⟩) | (go_at_call 36; refine (HO.out _).mono ?_; rintro e w6 ⟨rfl, g6⟩))
    refine wp_loop_rounds 7 ?_
    rw [rounds_succ]
    go_wp2_with (go_at_call 33; refine (HR0.out _).mono ?_; rintro e w7 ⟨rfl, q0⟩)
    rw [rounds_succ]
    go_wp2_with (go_at_call 33; refine (HR1.out _).mono ?_; rintro e w7 ⟨rfl, q1⟩)
    rw [rounds_succ]
    go_wp2_with (go_at_call 33; refine (HR2.out _).mono ?_; rintro e w7 ⟨rfl, q2⟩)
    rw [rounds_succ]
    go_wp2_with (go_at_call 33; refine (HR3.out _).mono ?_; rintro e w7 ⟨rfl, q3⟩)
    rw [rounds_succ]
    go_wp2_with (go_at_call 33; refine (HR4.out _).mono ?_; rintro e w7 ⟨rfl, q4⟩)
    rw [rounds_succ]
    go_wp2_with (go_at_call 33; refine (HR5.out _).mono ?_; rintro e w7 ⟨rfl, q5⟩)
    rw [rounds_succ]
    obtain ⟨rfl, rfl, h0⟩ | ⟨rfl, rfl⟩ := HX.out
    · have hE : E = 0 := by rw [← ez]; rfl
      have hk : ¬ nb < 0 := by omega
      have HZ : RowKit.Hid (∀ w, Calls Tryz.prog 36 #[.string S] w fun e w' => e = .returned (.tuple #[.int .i64 nb, .int .i64 0]) ∧ Grow w w') := Lib.hid (by have := HS.out; rw [if_neg hk, if_neg hk] at this; exact this)
      clear HS HX ez hk
      subst hE
      go_wp2_with (go_at_call 36; refine (HZ.out _).mono ?_; rintro e w8 ⟨rfl, g8⟩)
      exact HR.out _ _ ⟨rfl, ((((((((((g1.trans g2).trans g3).trans g6).trans q0).trans q1).trans q2).trans q3).trans q4).trans q5).trans g8)⟩
    · have hE : E = 1 := by rw [← ez]; rfl
      have HZ : RowKit.Hid (∀ w, Calls Tryz.prog 36 #[.string S] w fun e w' => e = .returned (.tuple #[.int .i64 0, .int .i64 5]) ∧ Grow w w') := Lib.hid HS.out
      clear HS HX ez
      subst hE
      go_wp2_with (go_at_call 36; refine (HZ.out _).mono ?_; rintro e w8 ⟨rfl, g8⟩)
      exact HR.out _ _ ⟨rfl, ((((((((((g1.trans g2).trans g3).trans g6).trans q0).trans q1).trans q2).trans q3).trans q4).trans q5).trans g8)⟩
end Go.Proofs.YtcgcljmnnjalpaaGreat
