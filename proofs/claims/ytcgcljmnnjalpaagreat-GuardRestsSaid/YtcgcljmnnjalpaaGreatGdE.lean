/- The guard around the quiet manager of one thread: Retire, Out; the deeds that awake does. -/
import Derived.Test.YtcgcljmnnjalpaaGreatGdD
set_option linter.unusedVariables false
set_option linter.unusedSimpArgs false
namespace Go.Proofs.YtcgcljmnnjalpaaGreat
open Go.RowKit Go.Kx
open Go.ChangeMaps (setBlock)
set_option maxRecDepth 100000 in
set_option maxHeartbeats 2000000 in
theorem gRetire {w : World} {G M : Nat} (h : GAt w G M) (hq : QAt w M true (.slice none 0 0)) : Calls Tryz.prog 38 #[.pointer (some ⟨G, 0, none⟩), .int .i64 0, .int .i64 100] w (QRetP w M 100) := by
  refine cph fun R HR => ?_
  have k1 := blk_cell h 1
  simp only [List.getElem?_toArray, List.getElem?_cons_zero, List.getElem?_cons_succ] at k1
  have HT := Lib.hid (gThere h)
  have HI := Lib.hid (qRetire hq)
  clear h hq
  go_enter Tryz.func38, Tryz.ntmps38
  go_wp2_with (first | (go_at_call 79; refine HT.out.mono ?_; rintro e w' ⟨rfl, rfl⟩) | (go_at_call 73; refine HI.out.mono ?_; rintro e w' ⟨v, v', rfl, hr⟩; have H1 := Lib.hid hr; clear hr))
  exact HR.out _ _ ⟨_, _, rfl, H1.out⟩
set_option maxRecDepth 100000 in
set_option maxHeartbeats 2000000 in
theorem gOut {w : World} {G M g cap base : Nat} (h : GAt w G M) (hq : QAt w M true (.slice (some ⟨g, 0, none⟩) 1 cap)) (ho : w.ownsRow base 150 5 (.slice (some ⟨g, 0, none⟩) 1 cap) 1 (wrow 100 true)) (hMb : M < base) :
    Calls Tryz.prog 26 #[.pointer (some ⟨G, 0, none⟩), .int .i64 0] w (QOutP w M g) := by
  refine cph fun R HR => ?_
  have k1 := blk_cell h 1
  simp only [List.getElem?_toArray, List.getElem?_cons_zero, List.getElem?_cons_succ] at k1
  have HT := Lib.hid (gThere h)
  have HI := Lib.hid (qOut hq ho hMb)
  clear h hq ho
  go_enter Tryz.func26, Tryz.ntmps26
  go_wp2_with (first | (go_at_call 79; refine HT.out.mono ?_; rintro e w' ⟨rfl, rfl⟩) | (go_at_call 72; refine HI.out.mono ?_; rintro e w' ⟨v, v', rfl, hr⟩; have H1 := Lib.hid hr; clear hr))
  exact HR.out _ _ ⟨_, _, rfl, H1.out⟩
/-- A deed that In, Retire or Out of the guard does. -/
def D1P (w : World) (M : Nat) (v : Value) (e : Ending) (w' : World) : Prop := e = .returned (.slice none 0 0) ∧ QAt w' M true v ∧ Fr (· = M) w w'
def D2P (w : World) (M : Nat) (e : Ending) (w' : World) : Prop :=
  ∃ v v', e = .returned v ∧ w'.ownsRow w.heap.size 3 1 v 0 [] ∧ QAt w' M true v' ∧ w'.ownsRow w.heap.size 150 5 v' 1 (wrow 100 true) ∧ Fr (· = M) w w'
def D3P (w : World) (M g : Nat) (e : Ending) (w' : World) : Prop :=
  ∃ v v', e = .returned v ∧ w'.ownsRow w.heap.size 3 1 v 1 [.int .i64 100] ∧ QAt w' M false v' ∧ Fr (fun k => k = M ∨ k = g) w w'
set_option maxRecDepth 100000 in
set_option maxHeartbeats 2000000 in
theorem does1 {w : World} {G M : Nat} {v : Value} (h : GAt w G M) (hq : QAt w M false v) : Calls Tryz.prog 40 #[.pointer (some ⟨G, 0, none⟩), .agg #[.int .i64 0, .int .i64 0, .int .i64 0, .int .i64 0]] w (D1P w M v) := by
  refine cph fun R HR => ?_
  have HI := Lib.hid (fun o : Obj => gIn (w := w.alloc o) (h := ((Grow.refl w).alloc o).at_ h) (hq.grow ((Grow.refl w).alloc o)))
  have HF := Lib.hid (fun o : Obj => (Grow.refl w).alloc o)
  clear h hq
  go_enter Tryz.func40, Tryz.ntmps40
  go_wp2_with (go_at_call 23; refine (HI.out _).mono ?_; rintro e w' ⟨rfl, hq, hf⟩; have H1 := Lib.hid (And.intro hq (Fr.then ((Fr.refl (· = M) w).alloc _) hf (fun i _ hs => hs))); clear hq hf)
  exact HR.out _ _ ⟨rfl, H1.out⟩
set_option maxRecDepth 100000 in
set_option maxHeartbeats 2000000 in
theorem does2 {w : World} {G M : Nat} (h : GAt w G M) (hq : QAt w M true (.slice none 0 0)) : Calls Tryz.prog 40 #[.pointer (some ⟨G, 0, none⟩), .agg #[.int .i64 4, .int .i64 0, .int .i64 0, .int .i64 100]] w (D2P w M) := by
  refine cph fun R HR => ?_
  have HI := Lib.hid (fun o : Obj => gRetire (w := w.alloc o) (h := ((Grow.refl w).alloc o).at_ h) (hq.grow ((Grow.refl w).alloc o)))
  clear h hq
  go_enter Tryz.func40, Tryz.ntmps40
  go_wp2_with (go_at_call 38; refine (HI.out _).mono ?_; rintro e w' ⟨v, v', rfl, h1, hq, h2, hf⟩; have H1 := Lib.hid (And.intro (own_base_le h1 (show w.heap.size ≤ _ by rw [size_alloc]; omega)) (And.intro hq (And.intro (own_base_le h2 (show w.heap.size ≤ _ by rw [size_alloc]; omega)) (Fr.then ((Fr.refl (· = M) w).alloc _) hf (fun i _ hs => hs))))); clear h1 h2 hq hf)
  exact HR.out _ _ ⟨_, _, rfl, H1.out⟩
set_option maxRecDepth 100000 in
set_option maxHeartbeats 2000000 in
theorem does3 {w : World} {G M g cap base : Nat} (h : GAt w G M) (hq : QAt w M true (.slice (some ⟨g, 0, none⟩) 1 cap)) (ho : w.ownsRow base 150 5 (.slice (some ⟨g, 0, none⟩) 1 cap) 1 (wrow 100 true)) (hMb : M < base) :
    Calls Tryz.prog 40 #[.pointer (some ⟨G, 0, none⟩), .agg #[.int .i64 1, .int .i64 0, .int .i64 0, .int .i64 0]] w (D3P w M g) := by
  refine cph fun R HR => ?_
  have HI := Lib.hid (fun o : Obj => gOut (w := w.alloc o) (h := ((Grow.refl w).alloc o).at_ h) (hq.grow ((Grow.refl w).alloc o)) (ho.alloc o) hMb)
  clear h hq ho
  go_enter Tryz.func40, Tryz.ntmps40
  go_wp2_with (go_at_call 26; refine (HI.out _).mono ?_; rintro e w' ⟨v, v', rfl, h1, hq, hf⟩; have H1 := Lib.hid (And.intro (own_base_le h1 (show w.heap.size ≤ _ by rw [size_alloc]; omega)) (And.intro hq (Fr.then ((Fr.refl (fun k => k = M ∨ k = g) w).alloc _) hf (fun i _ hs => hs)))); clear h1 hq hf)
  exact HR.out _ _ ⟨_, _, rfl, H1.out⟩
end Go.Proofs.YtcgcljmnnjalpaaGreat
