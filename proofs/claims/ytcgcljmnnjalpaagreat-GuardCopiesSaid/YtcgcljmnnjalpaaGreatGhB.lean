/- The statements' manager, for each kind (printed by wip/gen/mkghb.py). -/
import Derived.Test.YtcgcljmnnjalpaaGreatGhA
import Derived.OwnWalk
set_option linter.unusedVariables false
set_option linter.unusedSimpArgs false
namespace Go.Proofs.YtcgcljmnnjalpaaGreat
open Go.RowKit Go.Kx
open Go.ChangeMaps (setBlock)
def MgrP (w : World) (outs : List (List Int)) (fin : List Int) (e : Ending) (w' : World) : Prop :=
  ∃ u A c, e = .returned (.tuple #[u, .slice A fin.length c, .bool true]) ∧ OutsAt w.heap.size (fun _ => False) outs u w' ∧ w'.ownsRow w.heap.size 3 1 (.slice A fin.length c) fin.length (fin.map (Value.int .i64)) ∧ Grow w w'
theorem OutsAt.free {B0 : Nat} {F : FP} {ls : List (List Int)} {u : Value} {w : World} (h : OutsAt B0 F ls u w) : OutsAt B0 (fun _ => False) ls u w := by
  obtain ⟨vs, h1, h2, h3, h4⟩ := h
  exact ⟨vs, h1, h2, fun _ _ q => q, fun i x hx => by
    obtain ⟨v, p1, p2, p3⟩ := h4 i x hx
    exact ⟨v, p1, p2, fun _ _ q => q⟩⟩
theorem binv_run {s : RS} (hi : Inv s) (h : BInv s) : ∀ l : List Dd, BInv (runS s l) := by
  intro l
  induction l generalizing s with
  | nil => exact h
  | cons d l ih => exact ih (hi.do d) (h.do hi d)
theorem NewP.get {At : Nat → World → FP → RS → Prop} {k : Int} {n : Nat} (h1 : 1 ≤ n) (h4 : n ≤ 4) {w w' : World} {e : Ending} (h : NewP At k w n e w') : ∃ b F, e = .returned (.tuple #[.pointer (some ⟨b, 0, none⟩), .int .i64 0]) ∧ At b w' F (newS k n) ∧ Grow w w' ∧ ∀ j, F j → w.heap.size ≤ j := by
  unfold NewP at h
  rw [if_pos ⟨by omega, by omega⟩] at h
  simpa using h
theorem local_grown {At : World → FP → RS → Prop} (hl : Local At) {w w7 : World} {F : FP} {s : RS} {o : Obj} {u : Value} (h : At w F s) (hd : ∀ j, u.ownBlock = some j → ¬ F j) (hgr : (w.alloc o).grownBy w7 u.ownBlock) : At w7 F s :=
  hl.fr (hl.fr h (G := fun _ => False) ((Grow.refl w).alloc o) (fun _ _ h => h)) (G := fun j => u.ownBlock = some j) (fr_grown hgr) (fun j hf e => hd j e hf)
theorem do_0 (s : RS) (th ho ad : Int) : doS s ⟨0, th, ho, ad⟩ = inS s th := by simp [doS]
theorem do_1 (s : RS) (th ho ad : Int) : doS s ⟨1, th, ho, ad⟩ = outS s th := by simp [doS]
theorem do_2 (s : RS) (th ho ad : Int) : doS s ⟨2, th, ho, ad⟩ = holdS s th ho ad := by simp [doS]
theorem do_3 (s : RS) (th ho ad : Int) : doS s ⟨3, th, ho, ad⟩ = ⟨(bornS s ad).st, [], (bornS s ad).err⟩ := by simp [doS]
theorem do_4 (s : RS) (th ho ad : Int) : doS s ⟨4, th, ho, ad⟩ = retS s th ad := by simp [doS]
theorem do_5 (s : RS) (th ho ad : Int) : doS s ⟨5, th, ho, ad⟩ = ⟨(restS s).st, (restS s).back, 0⟩ := by simp [doS]
end Go.Proofs.YtcgcljmnnjalpaaGreat
