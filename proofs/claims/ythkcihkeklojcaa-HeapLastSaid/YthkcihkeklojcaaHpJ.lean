/- The statements' example of the chapter answers true, in whatever memory. -/
import Derived.Test.YthkcihkeklojcaaHpI
set_option linter.unusedVariables false
set_option linter.unusedSimpArgs false
namespace Go.Proofs.Ythkcihkeklojcaa
open Go.RowKit Go.Kx
theorem MakeP.of {w : World} {base : Nat} {q : HB} {s s' : HS} {size a err : Int} {e : Ending} {w' : World} (h : MakeP w base q s size e w') (hm : s.make size = (s', a, err)) :
    e = .returned (.tuple #[.int .i64 a, .int .i64 err]) ∧ ∃ fv', HeapAt w' base { q with fv := fv' } s' ∧ Fr q.set w w' ∧ NewFv w q fv' := by
  unfold MakeP at h
  rw [hm] at h
  exact h
theorem GiveP.of {w : World} {base : Nat} {q : HB} {s s' : HS} {a err : Int} {e : Ending} {w' : World} (h : GiveP w base q s a e w') (hm : s.give a = (s', err)) :
    e = .returned (.int .i64 err) ∧ ∃ fv', HeapAt w' base { q with fv := fv' } s' ∧ Fr q.set w w' ∧ NewFv w q fv' := by
  unfold GiveP at h
  rw [hm] at h
  exact h
/-- The heap's blocks are all new. -/
def Fresh (base : Nat) (q : HB) : Prop := ∀ i, q.set i → base ≤ i
theorem HeapAt.fresh {w : World} {base : Nat} {q : HB} {s : HS} (h : HeapAt w base q s) : Fresh base q := by
  intro i hi
  rcases hi with rfl | rfl | rfl | rfl | hi
  · exact h.lo.1
  · exact h.lo.2.1
  · exact h.lo.2.2.1
  · exact h.lo.2.2.2
  · exact (h.free.lt i hi).1
theorem HeapAt.then {w0 w w' : World} {q : HB} {s : HS} (h : HeapAt w w0.heap.size q s) (hg : Grow w0 w) (hf : Fr q.set w w') : Grow w0 w' :=
  Fr.then hg hf (fun i hi hs => absurd (h.fresh i hs) (by omega))
def TrueP (w : World) (e : Ending) (w' : World) : Prop := e = .returned (.bool true) ∧ Grow w w'
set_option maxRecDepth 100000 in
set_option maxHeartbeats 2000000 in
theorem awake_any (w : World) : Calls Try.prog 8 #[] w (TrueP w) := by
  refine cph fun R HR => ?_
  go_enter Try.func8, Try.ntmps8
  go_wp2_with (go_at_call 9; refine (new_any 2 (by omega) (by omega)).mono ?_)
  rintro e w1 ⟨q, rfl, h1, hg1, hfv⟩
  obtain ⟨s1, hm, hone⟩ := make_first (n := 2) (sz := 3) (by omega) (by omega)
  have HM := Lib.hid (make_any h1 (Nat.zero_le _) 3)
  have H1 := Lib.hid (And.intro h1 (And.intro hg1 (And.intro hm hone)))
  clear h1 hg1 hfv hm hone
  go_wp2_with (go_at_call 10; refine (HM.out.mono fun _ _ h => MakeP.of h H1.out.2.2.1).mono ?_)
  rintro e w2 ⟨rfl, fv, h2, hf2, _⟩
  have hg2 := H1.out.1.then H1.out.2.1 hf2
  have hal : s1.alive 101 = true := H1.out.2.2.2.alive (by omega) (by omega) (by omega) (by unfold rnd; omega)
  have hst : s1.store 101 7 = s1.write 101 7 := by unfold HS.store; rw [if_pos hal]; rfl
  have hask : s1.asked 101 = 0 := by unfold HS.asked; rw [if_pos hal]
  have HS1 := Lib.hid (store_any h2 101 7 (by omega) (by omega))
  rw [hst, hask] at HS1
  dsimp only at HS1
  have H2 := Lib.hid (And.intro h2 (And.intro hg2 (And.intro hal hask)))
  clear h2 hf2 hg2 hal hst hask HM
  go_wp2_with (go_at_call 15; refine HS1.out.mono ?_)
  rintro e w3 ⟨rfl, h3, hf3⟩
  have hg3 := H2.out.1.then H2.out.2.1 hf3
  have hal : (s1.write 101 7).alive 101 = true := H2.out.2.2.1
  have hask : (s1.write 101 7).asked 101 = 0 := by unfold HS.asked; rw [if_pos hal]
  have hat : HS.at_ (s1.write 101 7).words 101 = 7 := by
    show HS.at_ (s1.words.set 101 7) ((101 : Nat) : Int) = 7
    rw [at_set (by rw [H2.out.1.good.wl]; omega), if_pos rfl]
  have HL := Lib.hid (load_any h3 101 (by omega) (by omega))
  rw [hal, hask, hat, if_pos rfl] at HL
  have HT := Lib.hid (Top_any h3)
  have htop : (s1.write 101 7).top = 104 := H1.out.2.2.2.top.trans (by unfold rnd; decide)
  rw [htop] at HT
  dsimp only at HL HT
  have H3 := Lib.hid hg3
  clear h3 hf3 hg3 hal hask hat htop HS1
  go_wp2_with (first | (go_at_call 13; refine HL.out.mono ?_; rintro e w' ⟨rfl, rfl⟩) | (go_at_call 22; refine HT.out.mono ?_; rintro e w' ⟨rfl, rfl⟩))
  exact HR.out _ _ ⟨rfl, H3.out⟩
end Go.Proofs.Ythkcihkeklojcaa
