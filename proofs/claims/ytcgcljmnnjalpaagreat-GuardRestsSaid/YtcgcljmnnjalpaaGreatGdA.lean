/- The quiet manager of one thread, as the statements' awake runs it: New, In, Retire, Out at the states that come about. -/
import Derived.Test.YtcgcljmnnjalpaaGreatProg
import Derived.Test.YtcgcljmnnjalpaaGreatKxD
import Derived.Maps.AppendAt
import Derived.Deep.DeepCutAuto
import Derived.BigQuiet
import Derived.StillTailTactics
import Derived.Deep.RegionLaw
set_option linter.unusedVariables false
set_option linter.unusedSimpArgs false
namespace Go.Proofs.YtcgcljmnnjalpaaGreat
open Go.RowKit Go.Kx
open Go.ChangeMaps (setBlock)
/-- A quiet manager of one thread in memory: whether thread 0 is inside, and what waits. -/
def QAt (w : World) (M : Nat) (inside : Bool) (waits : Value) : Prop := w.heap[M]? = some (.cells #[.int .i64 1, .bool inside, .bool false, .bool false, .bool false, waits] 136 (0, 0))
def QNewP (w : World) (e : Ending) (w' : World) : Prop := e = .returned (.tuple #[.pointer (some ⟨w.heap.size, 0, none⟩), .int .i64 0]) ∧ QAt w' w.heap.size false (.slice none 0 0) ∧ Grow w w' ∧ w'.heap.size = w.heap.size + 1
set_option maxRecDepth 100000 in
set_option maxHeartbeats 1000000 in
theorem qNew (w : World) : Calls Tryz.prog 52 #[.int .i64 1] w (QNewP w) := by
  refine cph fun R HR => ?_
  go_enter Tryz.func52, Tryz.ntmps52
  go_wp2_with fail
  refine HR.out _ _ ⟨rfl, ?_, (Grow.refl _).alloc _, by simp⟩
  exact blk_new _ _
theorem QAt.grow {w w' : World} {M : Nat} {i : Bool} {v : Value} (h : QAt w M i v) (hg : Grow w w') : QAt w' M i v := hg.at_ h
theorem qHas {w : World} {M : Nat} {i : Bool} {v : Value} (h : QAt w M i v) : Calls Tryz.prog 114 #[.pointer (some ⟨M, 0, none⟩), .int .i64 0] w fun e w' => e = .returned (.bool true) ∧ w = w' := by
  refine cph fun R HR => ?_
  have k0 := blk_cell h 0
  simp only [List.getElem?_toArray, List.getElem?_cons_zero, List.getElem?_cons_succ] at k0
  clear h
  go_enter Tryz.func114, Tryz.ntmps114
  go_wp2_with fail
  exact HR.out _ _ ⟨rfl, rfl⟩
def QInP (w : World) (M : Nat) (v : Value) (e : Ending) (w' : World) : Prop := e = .returned (.tuple #[.slice none 0 0, .int .i64 0]) ∧ QAt w' M true v ∧ Fr (· = M) w w'
theorem qIn {w : World} {M : Nat} {v : Value} (h : QAt w M false v) : Calls Tryz.prog 71 #[.pointer (some ⟨M, 0, none⟩), .int .i64 0] w (QInP w M v) := by
  refine cph fun R HR => ?_
  have k1 := blk_cell h 1
  have f1 := blk_free h 1
  simp only [List.getElem?_toArray, List.getElem?_cons_zero, List.getElem?_cons_succ] at k1
  have HH := Lib.hid (qHas h)
  have H := Lib.hid h
  clear h
  go_enter Tryz.func71, Tryz.ntmps71
  go_wp2_with (go_at_call 114; refine HH.out.mono ?_; rintro e w' ⟨rfl, rfl⟩)
  refine HR.out _ _ ⟨rfl, blk_set H.out 1 _, (Fr.refl _ _).setCell _ _ (.inr rfl)⟩
@[go_sem] theorem eq133 (a b c d a' b' c' d' : Bool) (w : World) : (Op.equalIn 10000 133 (.agg #[.bool a, .bool b, .bool c, .bool d]) (.agg #[.bool a', .bool b', .bool c', .bool d'])).run Tryz.prog w = .ok (a == a' && b == b' && c == c' && d == d') w := by
  have u3 := Tryz.underlying4
  have a3 := Tryz.isAgg4
  have z3 := Tryz.sizeOf4
  rw [show (10000 : Nat) = 9999 + 1 from rfl, Op.equalIn]
  simp only [Sem.run_bind, run_underlying Tryz.underlying133, Result.andThen_ok]
  simp only [Std.Legacy.Range.forIn_eq_forIn_range', Std.Legacy.Range.size, Nat.sub_zero, Nat.add_sub_cancel, Nat.div_one, List.range'_succ, List.range'_zero, List.forIn_cons, List.forIn_nil]
  go_simp
  cases a <;> cases b <;> cases c <;> cases d <;> cases a' <;> cases b' <;> cases c' <;> cases d' <;> rfl
end Go.Proofs.YtcgcljmnnjalpaaGreat
