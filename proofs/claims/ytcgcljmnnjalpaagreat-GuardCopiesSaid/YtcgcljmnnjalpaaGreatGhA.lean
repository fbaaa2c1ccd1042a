/- Lists of lists of ints as a call lays them; what deeds give back, plainly; what a manager does where nothing is called. -/
import Derived.Test.YtcgcljmnnjalpaaGreatGgZ
set_option linter.unusedVariables false
set_option linter.unusedSimpArgs false
namespace Go.Proofs.YtcgcljmnnjalpaaGreat
open Go.RowKit Go.Kx
open Go.ChangeMaps (setBlock)
/-- What each deed gave back. -/
def outsS : RS → List Dd → List (List Int)
  | _, [] => []
  | s, d :: l => (doS s d).back :: outsS (doS s d).st l
theorem outsS_len : ∀ (s : RS) (l : List Dd), (outsS s l).length = l.length
  | _, [] => rfl
  | s, d :: l => by simp [outsS, outsS_len _ l]
theorem outsS_snoc : ∀ (l : List Dd) (s : RS) (d : Dd), outsS s (l ++ [d]) = outsS s l ++ [(doS (runS s l) d).back]
  | [], s, d => rfl
  | x :: l, s, d => by
    show (doS s x).back :: outsS (doS s x).st (l ++ [d]) = (doS s x).back :: (outsS (doS s x).st l ++ [(doS (runS (doS s x).st l) d).back])
    rw [outsS_snoc l]
theorem outsS_succ {s : RS} {l : List Dd} {k : Nat} {d : Dd} (h : l[k]? = some d) : outsS s (l.take (k + 1)) = outsS s (l.take k) ++ [(doS (runS s (l.take k)) d).back] := by
  rw [List.take_add_one, h]
  exact outsS_snoc _ _ _
theorem outsS_at : ∀ {l : List Dd} {s : RS} {i : Nat} {d : Dd}, l[i]? = some d → (outsS s l)[i]? = some (doS (runS s (l.take i)) d).back
  | x :: l, s, 0, d, h => by cases h; rfl
  | x :: l, s, i + 1, d, h => outsS_at (l := l) (s := (doS s x).st) (i := i) (d := d) h
/-- Slices of ints, one after the other, in a slice of the call's own, all from B0 on and beside F. -/
def OutsAt (B0 : Nat) (F : FP) (ls : List (List Int)) (u : Value) (w : World) : Prop :=
  ∃ vs : List Value, vs.length = ls.length ∧ w.ownsRow B0 34 1 u ls.length vs ∧ (∀ j, u.ownBlock = some j → ¬ F j) ∧
    ∀ (i : Nat) (x : List Int), ls[i]? = some x → ∃ v, vs[i]? = some v ∧ w.ownsRow B0 3 1 v x.length (x.map (Value.int .i64)) ∧ ∀ j, v.ownBlock = some j → ¬ F j
theorem OutsAt.nil (B0 : Nat) (F : FP) (w : World) : OutsAt B0 F [] (.slice none 0 0) w := ⟨[], rfl, World.ownsRow_nil _ _ _ _, fun j hj => by simp [Value.ownBlock] at hj, fun i x h => by simp at h⟩
theorem OutsAt.step {B0 : Nat} {F F' : FP} {ls : List (List Int)} {u : Value} {w w' : World} (h : OutsAt B0 F ls u w) (hs : Step F w F' w') : OutsAt B0 F' ls u w' := by
  obtain ⟨vs, h1, h2, h3, h4⟩ := h
  have k2 := own_keep h2 h3 hs
  refine ⟨vs, h1, k2.1, k2.2, fun i x hx => ?_⟩
  obtain ⟨v, p1, p2, p3⟩ := h4 i x hx
  have k3 := own_keep p2 p3 hs
  exact ⟨v, p1, k3.1, k3.2⟩
theorem step_grow {F : FP} {w w' : World} (hg : Grow w w') : Step F w F w' := ⟨hg.mono fun _ _ h => h.elim, fun k hk => .inl hk⟩
theorem OutsAt.grow {B0 : Nat} {F : FP} {ls : List (List Int)} {u : Value} {w w' : World} (h : OutsAt B0 F ls u w) (hg : Grow w w') : OutsAt B0 F ls u w' := h.step (step_grow hg)
/-- One more. -/
theorem OutsAt.app {B0 B1 : Nat} {F : FP} {ls : List (List Int)} {u v v' : Value} {vs : List Value} {x : List Int} {w w7 : World} {o : Obj} (hl : vs.length = ls.length) (ho : w.ownsRow B0 34 1 u ls.length vs) (hd : ∀ j, u.ownBlock = some j → ¬ F j)
    (hv : ∀ (i : Nat) (x : List Int), ls[i]? = some x → ∃ v, vs[i]? = some v ∧ w.ownsRow B0 3 1 v x.length (x.map (Value.int .i64)) ∧ ∀ j, v.ownBlock = some j → ¬ F j) (hx : w.ownsRow B1 3 1 v x.length (x.map (Value.int .i64))) (hB : B0 ≤ B1) (hdx : ∀ j, v.ownBlock = some j → ¬ F j)
    (hown : w7.ownsRow B0 34 1 v' (ls.length + 1) (vs ++ [v])) (hgr : (w.alloc o).grownBy w7 u.ownBlock) (hat : v'.ownBlock = u.ownBlock ∨ v'.ownBlock = some (w.alloc o).heap.size) (hF : ∀ j, F j → j < w.heap.size) : OutsAt B0 F (ls ++ [x]) v' w7 := by
  have hg := (Grow.refl w).alloc o
  have keep : ∀ {B : Nat} {z : Value} {y : List Int}, w.ownsRow B 3 1 z y.length (y.map (Value.int .i64)) → w7.ownsRow B 3 1 z y.length (y.map (Value.int .i64)) := fun {B z y} hz => by
    refine owns_fr (owns_grow hz hg) (fr_grown hgr) (fun j hj e => ?_)
    obtain ⟨c, hc⟩ := owns_blk hz hj
    obtain ⟨c2, hc2⟩ := owns_blk ho e
    exact absurd (blk_ty hc hc2) (by decide)
  refine ⟨vs ++ [v], by simp [hl], by simpa using hown, fun j hj hf => ?_, fun i y hy => ?_⟩
  · rcases hat with e | e
    · exact hd j (e ▸ hj) hf
    · rw [e] at hj
      have := hF j hf
      rw [size_alloc] at hj
      simp at hj
      omega
  · by_cases hi : i < ls.length
    · rw [List.getElem?_append_left hi] at hy
      obtain ⟨z, p1, p2, p3⟩ := hv i y hy
      exact ⟨z, by rw [List.getElem?_append_left (by omega)]; exact p1, keep p2, p3⟩
    · rw [List.getElem?_append_right (by omega)] at hy
      have hz : i - ls.length = 0 := by
        have := (List.getElem?_eq_some_iff.1 hy).1
        simp at this; omega
      rw [hz] at hy
      cases hy
      exact ⟨v, by rw [List.getElem?_append_right (by omega), hl, hz]; rfl, own_base_le (keep hx) hB, hdx⟩
/-- What is laid in memory, met by an index. -/
theorem OutsAt.at_ {B0 : Nat} {F : FP} {ls : List (List Int)} {A : Option Addr} {m c : Nat} {w : World} (h : OutsAt B0 F ls (.slice A m c) w) {i : Nat} {x : List Int} (hx : ls[i]? = some x) : ∃ b A' c', A = some ⟨b, 0, none⟩ ∧ m = ls.length ∧ w.cell? ⟨b, i, none⟩ = some (.slice A' x.length c') ∧ IntsAt w A' x := by
  obtain ⟨vs, h1, h2, h3, h4⟩ := h
  obtain ⟨v, p1, p2, p3⟩ := h4 i x hx
  have hi : i < ls.length := (List.getElem?_eq_some_iff.1 hx).1
  obtain ⟨A', c', rfl, q, _⟩ := ints_of_own p2
  rcases own_val h2 with ⟨_, h0⟩ | ⟨g, cap, e, _⟩
  · omega
  · injection e with e1 e2 e3
    subst e1; subst e2; subst e3
    refine ⟨g, A', c', rfl, rfl, ?_, q⟩
    rw [h2.cellAt i (by omega)]
    exact p1
theorem born_same {s : RS} (h : s.kind ≠ 3) (a : Int) : (bornS s a).st = s := by
  unfold bornS
  rw [if_neg h]
  split <;> rfl
theorem in_back (s : RS) (t : Int) : (inS s t).back = [] := by unfold inS; split <;> rfl
theorem hold_back {s : RS} (h : s.kind ≠ 4) (t k a : Int) : (holdS s t k a).back = [] := by
  unfold holdS
  split
  · split
    · rfl
    · rfl
  · rfl
theorem hold_same {s : RS} (h : s.kind ≠ 4) (t k a : Int) : (holdS s t k a).st.kind = s.kind ∧ (holdS s t k a).st.n = s.n ∧ (holdS s t k a).st.now = s.now ∧ (holdS s t k a).st.ins = s.ins ∧ (holdS s t k a).st.lo = s.lo ∧ (holdS s t k a).st.items = s.items := by
  unfold holdS
  split
  · split
    · exact ⟨rfl, rfl, rfl, rfl, rfl, rfl⟩
    · exact ⟨rfl, rfl, rfl, rfl, rfl, rfl⟩
  · exact ⟨rfl, rfl, rfl, rfl, rfl, rfl⟩
theorem in_same {s : RS} (h : s.kind ≠ 3) (t : Int) : (inS s t).st.kind = s.kind ∧ (inS s t).st.n = s.n ∧ (inS s t).st.holds = s.holds ∧ addrs (inS s t).st = addrs s := by
  unfold inS
  split
  · exact ⟨rfl, rfl, rfl, rfl⟩
  · exact ⟨rfl, rfl, rfl, rfl⟩
theorem rest_four {s : RS} (hk : s.kind = 4) (hb : BInv s) : restS s = ⟨s, [], 0⟩ := by
  unfold restS
  rw [if_neg (by omega), if_neg (by omega)]
  exact sweep_none fun x hx => by
    unfold freeB
    rw [if_pos (.inr hk), hb.four hk x hx]; rfl
theorem rest_five {s : RS} (hk : s.kind = 5) (hq : ∀ x ∈ s.items, goneQ x = false) : restS s = ⟨s, [], 0⟩ := by
  unfold restS
  rw [if_neg (by omega), if_neg (by omega)]
  exact sweep_none fun x hx => by rw [Bool.true_and, freeQ hk]; exact hq x hx
theorem QM.upd {b : Nat} {w : World} {F : FP} {s s' : RS} (h : QM b w F s) (hok : Ok s') (hk : s'.kind = s.kind) (hn : s'.n = s.n) (hi : s'.ins = s.ins) (hit : s'.items = s.items) : QM b w F s' := by
  obtain ⟨v, h⟩ := h
  exact ⟨v, hk.trans h.kind, hok, by unfold qArr; rw [hn, hi]; exact h.blk, by rw [hit]; exact h.row, h.fp⟩
end Go.Proofs.YtcgcljmnnjalpaaGreat
