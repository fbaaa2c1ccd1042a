/- The statements' awake answers true, in whatever memory. -/
import Derived.Test.YtcgcljmnnjalpaaGreatGdF
set_option linter.unusedVariables false
set_option linter.unusedSimpArgs false
namespace Go.Proofs.YtcgcljmnnjalpaaGreat
open Go.RowKit Go.Kx
open Go.ChangeMaps (setBlock)
def TrueP (w : World) (e : Ending) (w' : World) : Prop := e = .returned (.bool true) ∧ Grow w w'
set_option maxHeartbeats 1000000 in
theorem same1 {w : World} {q r c d : Nat} (h1 : w.cell? ⟨q, 0, none⟩ = some (.int .i64 100)) (h2 : w.cell? ⟨r, 0, none⟩ = some (.int .i64 100)) :
    Calls Tryz.prog 16 #[.slice (some ⟨q, 0, none⟩) 1 c, .slice (some ⟨r, 0, none⟩) 1 d] w (TrueP w) := by
  refine cph fun R HR => ?_
  go_enter Tryz.func16, Tryz.ntmps16
  go_wp2_with fail
  refine wp_loop_rounds 2 ?_
  rw [rounds_succ]
  go_wp2_with fail
  go_quiet (fail)
  go_wp2_with fail
  rw [rounds_succ]
  go_wp2_with fail
  exact HR.out _ _ ⟨rfl, (Grow.refl w).drewN _⟩
set_option maxRecDepth 100000 in
set_option maxHeartbeats 2000000 in
theorem awake_any (w : World) : Calls Tryz.prog 13 #[] w (TrueP w) := by
  refine cph fun R HR => ?_
  have HP := Lib.hid (play_any (w := w.alloc (.cells deeds3 32)) (d := w.heap.size) (blk_new _ _))
  go_enter Tryz.func13, Tryz.ntmps13
  go_wp2_with (go_at_call 14; refine HP.out.mono ?_)
  rintro e w2 ⟨p, c, a2, c2, q, c3, rfl, k0, k1, k2, kq, hg⟩
  have HG := Lib.hid (((Grow.refl w).alloc _).trans hg)
  have HS : Hid (Calls Tryz.prog 16 #[.slice (some ⟨q, 0, none⟩) 1 c3, .slice (some ⟨w2.heap.size, 0, none⟩) 1 1] (w2.alloc (.cells #[.int .i64 100] 3)) (TrueP (w2.alloc (.cells #[.int .i64 100] 3)))) := by
    refine same1 (((Grow.refl w2).alloc _).cell kq) ?_
    simp
  clear hg kq HP
  go_wp2_with (go_at_call 16; refine HS.out.mono ?_; rintro e w3 ⟨rfl, hg3⟩; have H3 := Lib.hid ((HG.out.alloc _).trans hg3); clear hg3)
  exact HR.out _ _ ⟨rfl, H3.out⟩
end Go.Proofs.YtcgcljmnnjalpaaGreat
