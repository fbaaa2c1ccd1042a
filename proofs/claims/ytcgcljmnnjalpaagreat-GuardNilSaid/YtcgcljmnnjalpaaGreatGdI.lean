/- The statement GuardNil answers true, for every deed. -/
import Derived.Test.YtcgcljmnnjalpaaGreatGdH
set_option linter.unusedVariables false
set_option linter.unusedSimpArgs false
namespace Go.Proofs.YtcgcljmnnjalpaaGreat
open Go.RowKit Go.Kx
open Go.ChangeMaps (setBlock)
set_option maxRecDepth 100000 in
set_option maxHeartbeats 4000000 in
theorem nil_any (w : World) (a b c d : Int) : Calls Tryz.prog 11 #[.agg #[.int .i64 a, .int .i64 b, .int .i64 c, .int .i64 d]] w (TrueP w) := by
  refine cph fun R HR => ?_
  go_enter Tryz.func11, Tryz.ntmps11
  go_wp2_with (go_at_call 13; refine (awake_any _).mono ?_)
  rintro e w1 ⟨rfl, hg⟩
  have hbx := hg.at_ (blk_new w (.cells #[.int .i64 a, .int .i64 b, .int .i64 c, .int .i64 d] 32))
  have k1 := blk_cell hbx 1
  have k2 := blk_cell hbx 2
  have k3 := blk_cell hbx 3
  simp only [List.getElem?_toArray, List.getElem?_cons_zero, List.getElem?_cons_succ] at k1 k2 k3
  have HG := Lib.hid (((Grow.refl w).alloc _).trans hg)
  clear hg hbx
  have hz := blk_cell (blk_new w1 (.cells #[.int .i64 0, .nilIface] 66)) 1
  simp only [List.getElem?_toArray, List.getElem?_cons_zero, List.getElem?_cons_succ] at hz
  have HZ : Hid (NoG ((w1.alloc (.cells #[.int .i64 0, .nilIface] 66)).alloc (.cells #[.pointer none, .pointer (some ⟨w1.heap.size, 0, none⟩)] 38)) (.pointer (some ⟨w1.heap.size, 0, none⟩))) := noG_zero (((Grow.refl _).alloc _).cell hz)
  have HN : Hid (NoG ((w1.alloc (.cells #[.int .i64 0, .nilIface] 66)).alloc (.cells #[.pointer none, .pointer (some ⟨w1.heap.size, 0, none⟩)] 38)) (.pointer none)) := noG_nil _
  clear hz
  replace k1 := (((Grow.refl w1).alloc (.cells #[.int .i64 0, .nilIface] 66)).alloc (.cells #[.pointer none, .pointer (some ⟨w1.heap.size, 0, none⟩)] 38)).cell k1
  replace k2 := (((Grow.refl w1).alloc (.cells #[.int .i64 0, .nilIface] 66)).alloc (.cells #[.pointer none, .pointer (some ⟨w1.heap.size, 0, none⟩)] 38)).cell k2
  replace k3 := (((Grow.refl w1).alloc (.cells #[.int .i64 0, .nilIface] 66)).alloc (.cells #[.pointer none, .pointer (some ⟨w1.heap.size, 0, none⟩)] 38)).cell k3
  go_wp2_with fail
  refine wp_loop_rounds 3 ?_
  rw [rounds_succ]
  go_wp2_with (first | (go_at_call 23; refine (noIn HN.out _).mono ?_; rintro e w' ⟨rfl, rfl⟩) | (go_at_call 26; refine (noOut HN.out _).mono ?_; rintro e w' ⟨rfl, rfl⟩) | (go_at_call 25; refine (noHold HN.out _ _ _).mono ?_; rintro e w' ⟨rfl, rfl⟩) | (go_at_call 37; refine (noBorn HN.out _).mono ?_; rintro e w' ⟨rfl, rfl⟩) | (go_at_call 38; refine (noRetire HN.out _ _).mono ?_; rintro e w' ⟨rfl, rfl⟩) | (go_at_call 27; refine (noRest HN.out).mono ?_; rintro e w' ⟨rfl, rfl⟩) | (go_at_call 21; refine (noWaiting HN.out).mono ?_; rintro e w' ⟨rfl, rfl⟩) | (go_at_call 31; refine (noKind HN.out).mono ?_; rintro e w' ⟨rfl, rfl⟩) | (go_at_call 39; refine (noCopy HN.out).mono ?_; rintro e w' ⟨rfl, rfl⟩))
  rw [rounds_succ]
  go_wp2_with (first | (go_at_call 23; refine (noIn HZ.out _).mono ?_; rintro e w' ⟨rfl, rfl⟩) | (go_at_call 26; refine (noOut HZ.out _).mono ?_; rintro e w' ⟨rfl, rfl⟩) | (go_at_call 25; refine (noHold HZ.out _ _ _).mono ?_; rintro e w' ⟨rfl, rfl⟩) | (go_at_call 37; refine (noBorn HZ.out _).mono ?_; rintro e w' ⟨rfl, rfl⟩) | (go_at_call 38; refine (noRetire HZ.out _ _).mono ?_; rintro e w' ⟨rfl, rfl⟩) | (go_at_call 27; refine (noRest HZ.out).mono ?_; rintro e w' ⟨rfl, rfl⟩) | (go_at_call 21; refine (noWaiting HZ.out).mono ?_; rintro e w' ⟨rfl, rfl⟩) | (go_at_call 31; refine (noKind HZ.out).mono ?_; rintro e w' ⟨rfl, rfl⟩) | (go_at_call 39; refine (noCopy HZ.out).mono ?_; rintro e w' ⟨rfl, rfl⟩))
  rw [rounds_succ]
  go_wp2_with fail
  exact HR.out _ _ ⟨rfl, (HG.out.alloc _).alloc _⟩
end Go.Proofs.YtcgcljmnnjalpaaGreat
