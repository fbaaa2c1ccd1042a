/- The reference's guard: its methods; the statements' told, the reference's Do, the guard's does. -/
import Derived.Test.YtcgcljmnnjalpaaGreatGrM
set_option linter.unusedVariables false
set_option linter.unusedSimpArgs false
namespace Go.Proofs.YtcgcljmnnjalpaaGreat
open Go.RowKit Go.Kx
open Go.ChangeMaps (setBlock)
theorem OpP.toL {At : World → FP → RS → Prop} {w w' : World} {F : FP} {r : RO} {v z : Value} (h : OpP At w F r (.returned (.tuple #[v, z])) w') : OpL At w F r (.returned v) w' := by
  obtain ⟨v', F', e, h1, h2, h3, h4⟩ := h
  have e1 : v = v' := by
    injection e with e0
    injection e0 with e2
    have e3 := congrArg (fun a : Array Value => a[0]?) e2
    simpa using e3
  subst e1
  exact ⟨v, F', rfl, h1, h2, h3, h4⟩
theorem OpL.from {At : World → FP → RS → Prop} {w wa w' : World} {F F1 : FP} {r : RO} {e : Ending} (h : OpL At wa F1 r e w') (hs : Step F w F1 wa) : OpL At w F r e w' := by
  obtain ⟨v, F', rfl, h1, h2, h3, h4⟩ := h
  exact ⟨v, F', rfl, own_base_le h1 hs.fr.size, h2, hs.trans h3, h4⟩
theorem OpL.none {At : World → FP → RS → Prop} {w w' : World} {F F' : FP} {s : RS} {z : Int} (h : At w' F' s) (hs : Step F w F' w') : OpL At w F ⟨s, [], z⟩ (.returned (.slice Option.none 0 0)) w' :=
  ⟨_, F', rfl, World.ownsRow_nil _ _ _ _, h, hs, fun k hk => by simp [Value.ownBlock] at hk⟩
section
variable {b : Nat} {w : World} {F : FP} {s : RS}
theorem rgIn (h : RM b w F s) (hs : Small s) (t : Int) : Calls Tryz.prog 42 #[.pointer (some ⟨b, 0, none⟩), .int .i64 t] w (OpP (RM b) w F (inS s t)) := by
  refine cph fun R HR => ?_
  have hs1 := hs.1
  have hs2 := hs.2
  have H0 := Lib.hid (rIn h t)
  clear h
  go_enter Tryz.func42, Tryz.ntmps42
  go_wp2_with (go_at_call 94; refine H0.out.mono ?_; rintro e w1 ho; have hp := ho; obtain ⟨v, F9, rfl, _⟩ := ho; have H9 := Lib.hid hp; clear hp)
  exact HR.out _ _ H9.out
theorem rgOut (h : RM b w F s) (hs : Small s) (t : Int) : Calls Tryz.prog 43 #[.pointer (some ⟨b, 0, none⟩), .int .i64 t] w (OpP (RM b) w F (outS s t)) := by
  refine cph fun R HR => ?_
  have hs1 := hs.1
  have hs2 := hs.2
  have H0 := Lib.hid (rOut h (by omega) (by omega) t)
  clear h
  go_enter Tryz.func43, Tryz.ntmps43
  go_wp2_with (go_at_call 95; refine H0.out.mono ?_; rintro e w1 ho; have hp := ho; obtain ⟨v, F9, rfl, _⟩ := ho; have H9 := Lib.hid hp; clear hp)
  exact HR.out _ _ H9.out
theorem rgHold (h : RM b w F s) (hs : Small s) (t k a : Int) : Calls Tryz.prog 44 #[.pointer (some ⟨b, 0, none⟩), .int .i64 t, .int .i64 k, .int .i64 a] w (OpP (RM b) w F (holdS s t k a)) := by
  refine cph fun R HR => ?_
  have hs1 := hs.1
  have hs2 := hs.2
  have H0 := Lib.hid (rHold h (by omega) (by omega) t k a)
  clear h
  go_enter Tryz.func44, Tryz.ntmps44
  go_wp2_with (go_at_call 96; refine H0.out.mono ?_; rintro e w1 ho; have hp := ho; obtain ⟨v, F9, rfl, _⟩ := ho; have H9 := Lib.hid hp; clear hp)
  exact HR.out _ _ H9.out
theorem rgBorn (h : RM b w F s) (hs : Small s) (a : Int) : Calls Tryz.prog 45 #[.pointer (some ⟨b, 0, none⟩), .int .i64 a] w (OpE (RM b) w F (bornS s a)) := by
  refine cph fun R HR => ?_
  have hs1 := hs.1
  have hs2 := hs.2
  have H0 := Lib.hid (rBears h (by omega) a)
  clear h
  go_enter Tryz.func45, Tryz.ntmps45
  go_wp2_with (go_at_call 97; refine H0.out.mono ?_; rintro e w1 ho; have hp := ho; obtain ⟨F9, rfl, _⟩ := ho; have H9 := Lib.hid hp; clear hp)
  exact HR.out _ _ H9.out
theorem rgRetire (h : RM b w F s) (hs : Small s) (t a : Int) : Calls Tryz.prog 46 #[.pointer (some ⟨b, 0, none⟩), .int .i64 t, .int .i64 a] w (OpP (RM b) w F (retS s t a)) := by
  refine cph fun R HR => ?_
  have hs1 := hs.1
  have hs2 := hs.2
  have H0 := Lib.hid (rRetire h (by omega) (by omega) t a)
  clear h
  go_enter Tryz.func46, Tryz.ntmps46
  go_wp2_with (go_at_call 98; refine H0.out.mono ?_; rintro e w1 ho; have hp := ho; obtain ⟨v, F9, rfl, _⟩ := ho; have H9 := Lib.hid hp; clear hp)
  exact HR.out _ _ H9.out
theorem rgRest (h : RM b w F s) (hs : Small s) : Calls Tryz.prog 47 #[.pointer (some ⟨b, 0, none⟩)] w (OpL (RM b) w F (restS s)) := by
  refine cph fun R HR => ?_
  have hs1 := hs.1
  have hs2 := hs.2
  have H0 := Lib.hid (rRest h (by omega) (by omega))
  clear h
  go_enter Tryz.func47, Tryz.ntmps47
  go_wp2_with (go_at_call 99; refine H0.out.mono ?_; rintro e w1 ho; have hp := ho; obtain ⟨v, F9, rfl, _⟩ := ho; have H9 := Lib.hid hp; clear hp)
  exact HR.out _ _ H9.out
theorem rgWaiting (h : RM b w F s) (hs : Small s) : Calls Tryz.prog 30 #[.pointer (some ⟨b, 0, none⟩)] w (WaitP w s) := by
  refine cph fun R HR => ?_
  have hs1 := hs.1
  have hs2 := hs.2
  have H0 := Lib.hid (rWaiting h (by omega))
  clear h
  go_enter Tryz.func30, Tryz.ntmps30
  go_wp2_with (go_at_call 80; refine H0.out.mono ?_; rintro e w1 ho; have hp := ho; obtain ⟨v, rfl, _⟩ := ho; have H9 := Lib.hid hp; clear hp)
  exact HR.out _ _ H9.out
end
set_option maxRecDepth 100000 in
set_option maxHeartbeats 4000000 in
theorem rmTold {b : Nat} {w : World} {F : FP} {s : RS} (hgm : RM b w F s) (hs : Small s) (d : Dd) : Calls Tryz.prog 29 #[.pointer (some ⟨b, 0, none⟩), .agg #[.int .i64 d.do_, .int .i64 d.th, .int .i64 d.ho, .int .i64 d.ad]] w (OpP (RM b) w F (doS s d)) := by
  refine cph fun R HR => ?_
  have hga := (Grow.refl w).alloc (Obj.cells #[.int .i64 d.do_, .int .i64 d.th, .int .i64 d.ho, .int .i64 d.ad] 32)
  obtain ⟨wa, hwa⟩ : ∃ wa, w.alloc (Obj.cells #[.int .i64 d.do_, .int .i64 d.th, .int .i64 d.ho, .int .i64 d.ad] 32) = wa := ⟨_, rfl⟩
  rw [hwa] at hga
  have hna := blk_new w (Obj.cells #[.int .i64 d.do_, .int .i64 d.th, .int .i64 d.ho, .int .i64 d.ad] 32)
  rw [hwa] at hna
  have a0 := (blk_cell hna 0).trans (rfl : _ = some (Value.int .i64 d.do_))
  have a1 := (blk_cell hna 1).trans (rfl : _ = some (Value.int .i64 d.th))
  have a2 := (blk_cell hna 2).trans (rfl : _ = some (Value.int .i64 d.ho))
  have a3 := (blk_cell hna 3).trans (rfl : _ = some (Value.int .i64 d.ad))
  have HSt : Hid (Step F w F wa) := ⟨hga.mono fun _ _ h => h.elim, fun k hk => .inl hk⟩
  have hq := (RM.local b).fr hgm (G := fun _ => False) hga (fun _ _ h => h)
  have HQ := Lib.hid hq
  have H0 := Lib.hid (rgIn hq hs d.th)
  have H1 := Lib.hid (rgOut hq hs d.th)
  have H2 := Lib.hid (rgHold hq hs d.th d.ho d.ad)
  have H3 := Lib.hid (rgBorn hq hs d.ad)
  have H4 := Lib.hid (rgRetire hq hs d.th d.ad)
  have H5 := Lib.hid (rgRest hq hs)
  obtain ⟨x, th, ho, ad⟩ := d
  dsimp only at *
  clear hq hgm hna hga
  unfold doS at HR
  dsimp only at HR
  by_cases c0 : x = 0
  · subst c0
    rw [if_pos rfl] at HR
    go_enter Tryz.func29, Tryz.ntmps29
    go_wp2_with (go_at_call 42; refine H0.out.mono ?_; rintro e w1 ho; have hp := ho; obtain ⟨v, F9, rfl, _⟩ := ho; have H9 := Lib.hid hp; clear hp)
    exact HR.out _ _ (H9.out.from HSt.out)
  rw [if_neg c0] at HR
  by_cases c1 : x = 1
  · subst c1
    rw [if_pos rfl] at HR
    go_enter Tryz.func29, Tryz.ntmps29
    go_wp2_with (go_at_call 43; refine H1.out.mono ?_; rintro e w1 ho; have hp := ho; obtain ⟨v, F9, rfl, _⟩ := ho; have H9 := Lib.hid hp; clear hp)
    exact HR.out _ _ (H9.out.from HSt.out)
  rw [if_neg c1] at HR
  by_cases c2 : x = 2
  · subst c2
    rw [if_pos rfl] at HR
    go_enter Tryz.func29, Tryz.ntmps29
    go_wp2_with (go_at_call 44; refine H2.out.mono ?_; rintro e w1 ho; have hp := ho; obtain ⟨v, F9, rfl, _⟩ := ho; have H9 := Lib.hid hp; clear hp)
    exact HR.out _ _ (H9.out.from HSt.out)
  rw [if_neg c2] at HR
  by_cases c3 : x = 3
  · subst c3
    rw [if_pos rfl] at HR
    go_enter Tryz.func29, Tryz.ntmps29
    go_wp2_with (go_at_call 45; refine H3.out.mono ?_; rintro e w1 ⟨F9, rfl, hA, hSt⟩; have H9 := Lib.hid (And.intro hA hSt); clear hA hSt)
    exact HR.out _ _ (OpP.none H9.out.1 (HSt.out.trans H9.out.2))
  rw [if_neg c3] at HR
  by_cases c4 : x = 4
  · subst c4
    rw [if_pos rfl] at HR
    go_enter Tryz.func29, Tryz.ntmps29
    go_wp2_with (go_at_call 46; refine H4.out.mono ?_; rintro e w1 ho; have hp := ho; obtain ⟨v, F9, rfl, _⟩ := ho; have H9 := Lib.hid hp; clear hp)
    exact HR.out _ _ (H9.out.from HSt.out)
  rw [if_neg c4] at HR
  by_cases c5 : x = 5
  · subst c5
    rw [if_pos rfl] at HR
    go_enter Tryz.func29, Tryz.ntmps29
    go_wp2_with (go_at_call 47; refine H5.out.mono ?_; intro e w9 ho; obtain ⟨v9, rfl, hp9⟩ := ho.toP2 HSt.out; have H9 := Lib.hid hp9; clear hp9 ho)
    exact HR.out _ _ H9.out
  rw [if_neg c5] at HR
  have e0 : (x == 0) = false := by simpa using c0
  have e1 : (x == 1) = false := by simpa using c1
  have e2 : (x == 2) = false := by simpa using c2
  have e3 : (x == 3) = false := by simpa using c3
  have e4 : (x == 4) = false := by simpa using c4
  have e5 : (x == 5) = false := by simpa using c5
  clear c0 c1 c2 c3 c4 c5
  go_enter Tryz.func29, Tryz.ntmps29
  go_wp2_with fail
  exact HR.out _ _ (OpP.none HQ.out HSt.out)
set_option maxRecDepth 100000 in
set_option maxHeartbeats 4000000 in
theorem rmDo {b : Nat} {w : World} {F : FP} {s : RS} (hgm : RM b w F s) (hs : Small s) (d : Dd) : Calls Tryz.prog 17 #[.pointer (some ⟨b, 0, none⟩), .int .i64 d.do_, .int .i64 d.th, .int .i64 d.ho, .int .i64 d.ad] w (OpL (RM b) w F (doS s d)) := by
  refine cph fun R HR => ?_
  have HSt : Hid (Step F w F w) := Step.refl _ _
  have hq := hgm
  have HQ := Lib.hid hq
  have H0 := Lib.hid (rgIn hq hs d.th)
  have H1 := Lib.hid (rgOut hq hs d.th)
  have H2 := Lib.hid (rgHold hq hs d.th d.ho d.ad)
  have H3 := Lib.hid (rgBorn hq hs d.ad)
  have H4 := Lib.hid (rgRetire hq hs d.th d.ad)
  have H5 := Lib.hid (rgRest hq hs)
  obtain ⟨x, th, ho, ad⟩ := d
  dsimp only at *
  clear hq hgm
  unfold doS at HR
  dsimp only at HR
  by_cases c0 : x = 0
  · subst c0
    rw [if_pos rfl] at HR
    go_enter Tryz.func17, Tryz.ntmps17
    go_wp2_with (go_at_call 42; refine H0.out.mono ?_; rintro e w1 ho; have hp := ho; obtain ⟨v, F9, rfl, _⟩ := ho; have H9 := Lib.hid hp; clear hp)
    exact HR.out _ _ (H9.out.toL.from HSt.out)
  rw [if_neg c0] at HR
  by_cases c1 : x = 1
  · subst c1
    rw [if_pos rfl] at HR
    go_enter Tryz.func17, Tryz.ntmps17
    go_wp2_with (go_at_call 43; refine H1.out.mono ?_; rintro e w1 ho; have hp := ho; obtain ⟨v, F9, rfl, _⟩ := ho; have H9 := Lib.hid hp; clear hp)
    exact HR.out _ _ (H9.out.toL.from HSt.out)
  rw [if_neg c1] at HR
  by_cases c2 : x = 2
  · subst c2
    rw [if_pos rfl] at HR
    go_enter Tryz.func17, Tryz.ntmps17
    go_wp2_with (go_at_call 44; refine H2.out.mono ?_; rintro e w1 ho; have hp := ho; obtain ⟨v, F9, rfl, _⟩ := ho; have H9 := Lib.hid hp; clear hp)
    exact HR.out _ _ (H9.out.toL.from HSt.out)
  rw [if_neg c2] at HR
  by_cases c3 : x = 3
  · subst c3
    rw [if_pos rfl] at HR
    go_enter Tryz.func17, Tryz.ntmps17
    go_wp2_with (go_at_call 45; refine H3.out.mono ?_; rintro e w1 ⟨F9, rfl, hA, hSt⟩; have H9 := Lib.hid (And.intro hA hSt); clear hA hSt)
    exact HR.out _ _ (OpL.none H9.out.1 (HSt.out.trans H9.out.2))
  rw [if_neg c3] at HR
  by_cases c4 : x = 4
  · subst c4
    rw [if_pos rfl] at HR
    go_enter Tryz.func17, Tryz.ntmps17
    go_wp2_with (go_at_call 46; refine H4.out.mono ?_; rintro e w1 ho; have hp := ho; obtain ⟨v, F9, rfl, _⟩ := ho; have H9 := Lib.hid hp; clear hp)
    exact HR.out _ _ (H9.out.toL.from HSt.out)
  rw [if_neg c4] at HR
  by_cases c5 : x = 5
  · subst c5
    rw [if_pos rfl] at HR
    go_enter Tryz.func17, Tryz.ntmps17
    go_wp2_with (go_at_call 47; refine H5.out.mono ?_; intro e w9 ho; obtain ⟨v9, rfl, hp9⟩ := ho.toP2 HSt.out; have H9 := Lib.hid hp9.toL; clear hp9 ho)
    exact HR.out _ _ H9.out
  rw [if_neg c5] at HR
  have e0 : (x == 0) = false := by simpa using c0
  have e1 : (x == 1) = false := by simpa using c1
  have e2 : (x == 2) = false := by simpa using c2
  have e3 : (x == 3) = false := by simpa using c3
  have e4 : (x == 4) = false := by simpa using c4
  have e5 : (x == 5) = false := by simpa using c5
  clear c0 c1 c2 c3 c4 c5
  go_enter Tryz.func17, Tryz.ntmps17
  go_wp2_with fail
  exact HR.out _ _ (OpL.none HQ.out HSt.out)
set_option maxRecDepth 100000 in
set_option maxHeartbeats 4000000 in
theorem gmDoes {G : Nat} {w : World} {F : FP} {s : RS} (hgm : GM G w F s) (hs : Small s) (d : Dd) : Calls Tryz.prog 40 #[.pointer (some ⟨G, 0, none⟩), .agg #[.int .i64 d.do_, .int .i64 d.th, .int .i64 d.ho, .int .i64 d.ad]] w (OpL (GM G) w F (doS s d)) := by
  refine cph fun R HR => ?_
  have hga := (Grow.refl w).alloc (Obj.cells #[.int .i64 d.do_, .int .i64 d.th, .int .i64 d.ho, .int .i64 d.ad] 32)
  obtain ⟨wa, hwa⟩ : ∃ wa, w.alloc (Obj.cells #[.int .i64 d.do_, .int .i64 d.th, .int .i64 d.ho, .int .i64 d.ad] 32) = wa := ⟨_, rfl⟩
  rw [hwa] at hga
  have hna := blk_new w (Obj.cells #[.int .i64 d.do_, .int .i64 d.th, .int .i64 d.ho, .int .i64 d.ad] 32)
  rw [hwa] at hna
  have a0 := (blk_cell hna 0).trans (rfl : _ = some (Value.int .i64 d.do_))
  have a1 := (blk_cell hna 1).trans (rfl : _ = some (Value.int .i64 d.th))
  have a2 := (blk_cell hna 2).trans (rfl : _ = some (Value.int .i64 d.ho))
  have a3 := (blk_cell hna 3).trans (rfl : _ = some (Value.int .i64 d.ad))
  have HSt : Hid (Step F w F wa) := ⟨hga.mono fun _ _ h => h.elim, fun k hk => .inl hk⟩
  have hq := (GM.local G).fr hgm (G := fun _ => False) hga (fun _ _ h => h)
  have HQ := Lib.hid hq
  have H0 := Lib.hid (gmIn hq hs d.th)
  have H1 := Lib.hid (gmOut hq hs d.th)
  have H2 := Lib.hid (gmHold hq hs d.th d.ho d.ad)
  have H3 := Lib.hid (gmBorn hq hs d.ad)
  have H4 := Lib.hid (gmRetire hq hs d.th d.ad)
  have H5 := Lib.hid (gmRest hq hs)
  obtain ⟨x, th, ho, ad⟩ := d
  dsimp only at *
  clear hq hgm hna hga
  unfold doS at HR
  dsimp only at HR
  by_cases c0 : x = 0
  · subst c0
    rw [if_pos rfl] at HR
    go_enter Tryz.func40, Tryz.ntmps40
    go_wp2_with (go_at_call 23; refine H0.out.mono ?_; rintro e w1 ho; have hp := ho; obtain ⟨v, F9, rfl, _⟩ := ho; have H9 := Lib.hid hp; clear hp)
    exact HR.out _ _ (H9.out.toL.from HSt.out)
  rw [if_neg c0] at HR
  by_cases c1 : x = 1
  · subst c1
    rw [if_pos rfl] at HR
    go_enter Tryz.func40, Tryz.ntmps40
    go_wp2_with (go_at_call 26; refine H1.out.mono ?_; rintro e w1 ho; have hp := ho; obtain ⟨v, F9, rfl, _⟩ := ho; have H9 := Lib.hid hp; clear hp)
    exact HR.out _ _ (H9.out.toL.from HSt.out)
  rw [if_neg c1] at HR
  by_cases c2 : x = 2
  · subst c2
    rw [if_pos rfl] at HR
    go_enter Tryz.func40, Tryz.ntmps40
    go_wp2_with (go_at_call 25; refine H2.out.mono ?_; rintro e w1 ho; have hp := ho; obtain ⟨v, F9, rfl, _⟩ := ho; have H9 := Lib.hid hp; clear hp)
    exact HR.out _ _ (H9.out.toL.from HSt.out)
  rw [if_neg c2] at HR
  by_cases c3 : x = 3
  · subst c3
    rw [if_pos rfl] at HR
    go_enter Tryz.func40, Tryz.ntmps40
    go_wp2_with (go_at_call 37; refine H3.out.mono ?_; rintro e w1 ⟨F9, rfl, hA, hSt⟩; have H9 := Lib.hid (And.intro hA hSt); clear hA hSt)
    exact HR.out _ _ (OpL.none H9.out.1 (HSt.out.trans H9.out.2))
  rw [if_neg c3] at HR
  by_cases c4 : x = 4
  · subst c4
    rw [if_pos rfl] at HR
    go_enter Tryz.func40, Tryz.ntmps40
    go_wp2_with (go_at_call 38; refine H4.out.mono ?_; rintro e w1 ho; have hp := ho; obtain ⟨v, F9, rfl, _⟩ := ho; have H9 := Lib.hid hp; clear hp)
    exact HR.out _ _ (H9.out.toL.from HSt.out)
  rw [if_neg c4] at HR
  by_cases c5 : x = 5
  · subst c5
    rw [if_pos rfl] at HR
    go_enter Tryz.func40, Tryz.ntmps40
    go_wp2_with (go_at_call 27; refine H5.out.mono ?_; intro e w9 ho; obtain ⟨v9, rfl, hp9⟩ := ho.toP2 HSt.out; have H9 := Lib.hid hp9.toL; clear hp9 ho)
    exact HR.out _ _ H9.out
  rw [if_neg c5] at HR
  have e0 : (x == 0) = false := by simpa using c0
  have e1 : (x == 1) = false := by simpa using c1
  have e2 : (x == 2) = false := by simpa using c2
  have e3 : (x == 3) = false := by simpa using c3
  have e4 : (x == 4) = false := by simpa using c4
  have e5 : (x == 5) = false := by simpa using c5
  clear c0 c1 c2 c3 c4 c5
  go_enter Tryz.func40, Tryz.ntmps40
  go_wp2_with fail
  exact HR.out _ _ (OpL.none HQ.out HSt.out)
end Go.Proofs.YtcgcljmnnjalpaaGreat
