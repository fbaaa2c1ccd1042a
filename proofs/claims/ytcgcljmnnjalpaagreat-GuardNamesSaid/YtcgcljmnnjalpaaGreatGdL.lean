/- The names of the kinds: guard.names, guard.Name and the reference's Name, at every number. -/
import Derived.Test.YtcgcljmnnjalpaaGreatGdK
set_option linter.unusedVariables false
set_option linter.unusedSimpArgs false
namespace Go.Proofs.YtcgcljmnnjalpaaGreat
open Go.RowKit Go.Kx
open Go.ChangeMaps (setBlock)
abbrev nmA (k : Int) : Array UInt8 := if k = 0 then #[108, 101, 97, 107] else if k = 1 then #[104, 97, 122, 97, 114, 100] else if k = 2 then #[101, 112, 111, 99, 104] else if k = 3 then #[115, 112, 97, 110] else if k = 4 then #[99, 111, 117, 110, 116, 101, 100] else #[113, 117, 105, 101, 116]
def nmS (k : Int) : ByteArray := if okK k then ⟨nmA k⟩ else ⟨#[]⟩
def NmP (w : World) (k : Int) (e : Ending) (w' : World) : Prop := e = .returned (.tuple #[.string (nmS k), .int .i64 (if okK k then 0 else 1)]) ∧ Grow w w'
def nmCells : Array Value := #[.string ⟨#[108, 101, 97, 107]⟩, .string ⟨#[104, 97, 122, 97, 114, 100]⟩, .string ⟨#[101, 112, 111, 99, 104]⟩, .string ⟨#[115, 112, 97, 110]⟩, .string ⟨#[99, 111, 117, 110, 116, 101, 100]⟩, .string ⟨#[113, 117, 105, 101, 116]⟩]
theorem names_any (w : World) : Calls Tryz.prog 81 #[] w fun e w' => e = .returned (.slice (some ⟨w.heap.size, 0, none⟩) 6 6) ∧ w' = w.alloc (.cells nmCells 9) := by
  refine cph fun R HR => ?_
  go_enter Tryz.func81, Tryz.ntmps81
  go_wp2_with fail
  exact HR.out _ _ ⟨rfl, rfl⟩
theorem nm_cell (w : World) (k : Nat) (v : Value) (h : nmCells[k]? = some v) : (w.alloc (.cells nmCells 9)).cell? ⟨w.heap.size, k, none⟩ = some v := by
  exact (blk_cell (blk_new w _) k).trans h
set_option maxHeartbeats 1000000 in
theorem gName (w : World) (k : Int) : Calls Tryz.prog 32 #[.int .i64 k] w (NmP w k) := by
  refine cph fun R HR => ?_
  have H1 := names_any w
  have hg : Grow w (w.alloc (.cells nmCells 9)) := (Grow.refl w).alloc _
  have h0 := nm_cell w 0 (.string ⟨#[108, 101, 97, 107]⟩) rfl
  have h1 := nm_cell w 1 (.string ⟨#[104, 97, 122, 97, 114, 100]⟩) rfl
  have h2 := nm_cell w 2 (.string ⟨#[101, 112, 111, 99, 104]⟩) rfl
  have h3 := nm_cell w 3 (.string ⟨#[115, 112, 97, 110]⟩) rfl
  have h4 := nm_cell w 4 (.string ⟨#[99, 111, 117, 110, 116, 101, 100]⟩) rfl
  have h5 := nm_cell w 5 (.string ⟨#[113, 117, 105, 101, 116]⟩) rfl
  generalize w.alloc (.cells nmCells 9) = w1 at H1 hg h0 h1 h2 h3 h4 h5
  have H1 := Lib.hid H1
  have HG := Lib.hid hg
  clear hg
  rcases okK_cases k with ⟨h | h, e⟩ | rfl | rfl | rfl | rfl | rfl | rfl
  · go_enter Tryz.func32, Tryz.ntmps32
    go_wp2_with (go_at_call 81; refine H1.out.mono ?_; rintro e w' ⟨rfl, rfl⟩)
    exact HR.out _ _ ⟨by simp [nmS, e], HG.out⟩
  · have h' : ¬ k < 0 := by omega
    have h6 : 6 ≤ k := by omega
    go_enter Tryz.func32, Tryz.ntmps32
    go_wp2_with (go_at_call 81; refine H1.out.mono ?_; rintro e w' ⟨rfl, rfl⟩)
    exact HR.out _ _ ⟨by simp [nmS, e], HG.out⟩
  all_goals
    go_enter Tryz.func32, Tryz.ntmps32
    go_wp2_with (go_at_call 81; refine H1.out.mono ?_; rintro e w' ⟨rfl, rfl⟩)
    exact HR.out _ _ ⟨by simp [nmS, okK, nmA], HG.out⟩
set_option maxHeartbeats 1000000 in
theorem rName (w : World) (k : Int) : Calls Tryz.prog 33 #[.int .i64 k] w (NmP w k) := by
  refine cph fun R HR => ?_
  rcases okK_cases k with ⟨h | h, e⟩ | rfl | rfl | rfl | rfl | rfl | rfl
  · go_enter Tryz.func33, Tryz.ntmps33
    go_wp2_with fail
    exact HR.out _ _ ⟨by simp [nmS, e], (Grow.refl w).alloc _⟩
  · have h' : ¬ k < 0 := by omega
    have h6 : 6 ≤ k := by omega
    go_enter Tryz.func33, Tryz.ntmps33
    go_wp2_with fail
    exact HR.out _ _ ⟨by simp [nmS, e], (Grow.refl w).alloc _⟩
  all_goals
    go_enter Tryz.func33, Tryz.ntmps33
    go_wp2_with fail
    exact HR.out _ _ ⟨by simp [nmS, okK, nmA], (Grow.refl w).alloc _⟩
end Go.Proofs.YtcgcljmnnjalpaaGreat
