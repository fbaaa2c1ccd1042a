/- slices.IndexFunc, DeleteFunc at elements of two numbers, the predicate turning the world: what stays, in its order; each element is asked once. -/
import Derived.Test.YtcgcljmnnjalpaaGreatGeM
import Derived.Lib.SliceRun
import Derived.Laws.Rows
import Derived.Laws.Tables
import Derived.Laws.IdiomCopy
set_option linter.unusedVariables false
set_option linter.unusedSimpArgs false
namespace Go.Proofs.YtcgcljmnnjalpaaGreat
open Go.RowKit Go.Kx
open Go.ChangeMaps (setBlock)
abbrev P2 := Int × Int
def enc2 (x : P2) : List Value := [.int .i64 x.1, .int .i64 x.2]
theorem enc2_len (x : P2) : (enc2 x).length = 2 := rfl
/-- The first place of which p holds. -/
def fstA (p : P2 → Bool) : List P2 → Int
  | [] => -1
  | x :: l => if p x then 0 else if fstA p l < 0 then -1 else fstA p l + 1
theorem fstA_ge (p : P2 → Bool) : ∀ l, -1 ≤ fstA p l
  | [] => by simp [fstA]
  | x :: l => by
    have := fstA_ge p l
    unfold fstA
    split
    · omega
    · split <;> omega
theorem fstA_lt (p : P2 → Bool) : ∀ l : List P2, fstA p l < l.length
  | [] => by simp [fstA]
  | x :: l => by
    have := fstA_lt p l
    unfold fstA
    simp only [List.length_cons]
    split
    · omega
    · split <;> omega
theorem fstA_stop {p : P2 → Bool} {l : List P2} {k : Nat} (hk : k < l.length) (h : ∀ x ∈ l.take k, p x = false) (hp : p l[k] = true) : fstA p l = k := by
  induction l generalizing k with
  | nil => simp at hk
  | cons x l ih =>
    cases k with
    | zero => simp at hp; simp [fstA, hp]
    | succ k =>
      have h0 : p x = false := h x (by simp)
      have := ih (k := k) (by simpa using hk) (fun y hy => h y (by simp [hy])) (by simpa using hp)
      unfold fstA
      rw [if_neg (by simp [h0]), this, if_neg (by omega)]
      simp
theorem fstA_none {p : P2 → Bool} {l : List P2} (h : ∀ x ∈ l, p x = false) : fstA p l = -1 := by
  induction l with
  | nil => rfl
  | cons x l ih =>
    unfold fstA
    rw [if_neg (by simp [h x (by simp)]), ih fun y hy => h y (by simp [hy])]
    rfl
theorem takeA {p : P2 → Bool} {l : List P2} {k : Nat} (hk : k < l.length) (h : ∀ x ∈ l.take k, p x = false) (hp : p l[k] = false) : ∀ x ∈ l.take (k + 1), p x = false := by
  rw [List.take_succ_eq_append_getElem hk]
  intro x hx
  rcases List.mem_append.1 hx with h1 | h1
  · exact h x h1
  · rw [List.mem_singleton.1 h1]; exact hp
theorem fstA_any (p : P2 → Bool) (l : List P2) : decide (0 ≤ fstA p l) = l.any p := by
  induction l with
  | nil => rfl
  | cons x l ih =>
    have := fstA_ge p l
    rw [List.any_cons, ← ih, show fstA p (x :: l) = if p x then 0 else if fstA p l < 0 then -1 else fstA p l + 1 from rfl]
    by_cases h : p x
    · simp [h]
    · rw [if_neg h, show p x = false by simpa using h, Bool.false_or]
      by_cases h2 : fstA p l < 0
      · rw [if_pos h2, decide_eq_false (by omega), decide_eq_false (by omega)]
      · rw [if_neg h2, decide_eq_true (by omega), decide_eq_true (by omega)]
def keepA (p : P2 → Bool) (l : List P2) : List P2 := l.filter fun x => !p x
theorem keepA_succ {p : P2 → Bool} {l : List P2} {j : Nat} (hj : j < l.length) : keepA p (l.take (j + 1)) = if p l[j] then keepA p (l.take j) else keepA p (l.take j) ++ [l[j]] := by
  unfold keepA
  rw [List.take_succ_eq_append_getElem hj, List.filter_append]
  cases h : p l[j] <;> simp [h]
theorem keepA_le (p : P2 → Bool) (l : List P2) (j : Nat) : (keepA p (l.take j)).length ≤ j := Nat.le_trans (List.length_filter_le _ _) (List.length_take_le _ _)
theorem fstA_keep {p : P2 → Bool} : ∀ {l : List P2} {k : Nat}, fstA p l = k → keepA p (l.take (k + 1)) = l.take k ∧ k < l.length
  | [], k, h => by simp [fstA] at h
  | x :: l, k, h => by
    have hge := fstA_ge p l
    unfold fstA at h
    split at h
    · next hp => obtain rfl : k = 0 := by omega
                 exact ⟨by simp [keepA, hp], by simp⟩
    · next hp =>
      split at h
      · omega
      · obtain ⟨k, rfl⟩ : ∃ k', k = k' + 1 := ⟨k - 1, by omega⟩
        obtain ⟨h1, h2⟩ := fstA_keep (p := p) (l := l) (k := k) (by omega)
        refine ⟨?_, by simpa using h2⟩
        rw [List.take_succ_cons, List.take_succ_cons, ← h1]
        unfold keepA
        rw [List.filter_cons, if_pos (by simpa using hp)]
theorem keepA_none {p : P2 → Bool} {l : List P2} (h : fstA p l < 0) : keepA p l = l := by
  unfold keepA
  rw [List.filter_eq_self]
  intro x hx
  have h1 := fstA_any p l
  rw [decide_eq_false (by omega)] at h1
  have := List.any_eq_false.1 h1.symm x hx
  simpa using this
/-- What a predicate answers, which may turn the world; n: how many were asked ahead. -/
def PredJ (f : Nat) (lb : Array Value) (G : Nat → Prop) (p : P2 → Bool) (l : List P2) (J : Nat → World → Prop) : Prop :=
  ∀ n x W0 W, l[n]? = some x → J n W0 → Fr G W0 W → Calls Tryz.prog f (#[.agg #[.int .i64 x.1, .int .i64 x.2]] ++ lb) W fun e w' => e = .returned (.bool (p x)) ∧ J (n + 1) w' ∧ Fr (fun k => k < W0.heap.size ∧ ¬ G k) W w'
theorem fr_setCells {S : Nat → Prop} {g : Nat} (hg : S g) : ∀ (vs : List Value) (o : Nat) (a w : World), Fr S a w → Fr S a (w.setCells g o vs)
  | [], _, _, _, h => h
  | v :: r, o, a, w, h => fr_setCells hg r (o + 1) a _ (h.setCell ⟨g, o, none⟩ v (.inr hg))
theorem own_shrinkN {w : World} {base g n cap sz : Nat} {e : TypeId} {xs : List Value} (h : w.ownsRow base e sz (.slice (some ⟨g, 0, none⟩) n cap) n xs) {i : Nat} (hi : i ≤ n) : w.ownsRow base e sz (.slice (some ⟨g, 0, none⟩) i cap) i (xs.take (i * sz)) := by
  have hl := h.1
  have hm : i * sz ≤ n * sz := Nat.mul_le_mul_right sz hi
  rcases h.2 with ⟨e', _⟩ | ⟨g2, c3, cur, e', hb1, hb2, hb3, hb4, hb5, hb6⟩
  · cases e'
  · cases e'
    refine ⟨by rw [List.length_take]; omega, .inr ⟨g, cap, cur, rfl, hb1, hb2, by omega, hb4, hb5, ?_⟩⟩
    rw [← hb6, List.take_take]
    congr 1
    omega
theorem own_setCellsN {base g n cap sz : Nat} {e : TypeId} {xs : List Value} : ∀ (vs : List Value) (o : Nat) (w : World), xs.length ≤ o → w.ownsRow base e sz (.slice (some ⟨g, 0, none⟩) n cap) n xs → (w.setCells g o vs).ownsRow base e sz (.slice (some ⟨g, 0, none⟩) n cap) n xs
  | [], _, _, _, h => h
  | v :: r, o, w, ho, h => by
    have := (h.stored o v).1
    rw [List.set_eq_of_length_le ho] at this
    exact own_setCellsN r (o + 1) _ (by omega) this
theorem run_clear2 {P : Program} (w : World) (t e ty : TypeId) (ht : P.underlying t = some (.slice e)) (hv : ∀ w, (zeroValue e).run P w = .ok (.agg #[.int .i64 0, .int .i64 0]) w) (b o n c : Nat) (hn : 0 < n)
    (hc : ∀ j, j < n * 2 → (w.cell? ⟨b, o + j, none⟩).isSome = true) (hf : ∀ j, j < n * 2 → w.frozen? ⟨b, o + j, none⟩ = false) :
    (Builtin.clear_ #[t] ty #[.slice (some ⟨b, o, none⟩) n c]).run P w = .ok (.tuple #[]) (w.setCells b o (List.replicate (n * 2) (.int .i64 0))) := by
  have hzc : (Builtin.zeroCells (Value.agg #[.int .i64 0, .int .i64 0]).cells n).toList = List.replicate (n * 2) (.int .i64 0) := by
    simp only [Builtin.zeroCells, Value.cells]
    apply List.ext_getElem
    · simp
    · intro i h1 h2
      have : i % 2 = 0 ∨ i % 2 = 1 := by omega
      rcases this with h | h <;> simp [h]
  have hst := run_storeCells_cells (P := P) b o (List.replicate (n * 2) (.int .i64 0)) 0 w (by simpa using hc) (by simpa using hf) (by intro v hv'; rw [List.eq_of_mem_replicate hv']; rfl)
  simp only [Nat.add_zero] at hst
  obtain ⟨m, rfl⟩ : ∃ m, n = m + 1 := ⟨n - 1, by omega⟩
  simp [Builtin.clear_, run_underlying ht, hv, hzc, hst]
theorem own_sl_eq {g o n c k : Nat} (h : (Value.slice (some ⟨g, o, none⟩) n c).ownBlock = some k) : k = g := by
  have : g = k := by simpa [Value.ownBlock] using h
  exact this.symm
structure DelS2 (base : Nat) (E : TypeId) (g cap : Nat) (l : List P2) (p : P2 → Bool) (J : Nat → World → Prop) (i j : Nat) (wr : World) : Prop where
  row : ∃ xs : List P2, xs.length = l.length ∧ wr.ownsRow base E 2 (.slice (some ⟨g, 0, none⟩) l.length cap) l.length (xs.flatMap enc2) ∧ (∀ q, j ≤ q → xs[q]? = l[q]?) ∧ xs.take i = keepA p (l.take j)
  st : J j wr
  cnt : i = (keepA p (l.take j)).length
theorem DelS2.skip {base : Nat} {E : TypeId} {g cap : Nat} {l : List P2} {p : P2 → Bool} {J : Nat → World → Prop} {i j : Nat} {wr w' : World} (h : DelS2 base E g cap l p J i j wr) (hj : j < l.length) (hp : p l[j] = true) {S : Nat → Prop} (hf : Fr S wr w') (hg : ¬ S g) (hJ : J (j + 1) w') : DelS2 base E g cap l p J i (j + 1) w' := by
  obtain ⟨xs, h1, h2, h3, h4⟩ := h.row
  have e : keepA p (l.take (j + 1)) = keepA p (l.take j) := by rw [keepA_succ hj, hp]; rfl
  exact ⟨⟨xs, h1, owns_fr h2 hf (fun k hk e => hg (own_sl_eq hk ▸ e)), fun q hq => h3 q (by omega), by rw [e]; exact h4⟩, hJ, by rw [e]; exact h.cnt⟩
theorem DelS2.keep {base : Nat} {E : TypeId} {g cap : Nat} {l : List P2} {p : P2 → Bool} {J : Nat → World → Prop} {i j : Nat} {wr w' : World} (h : DelS2 base E g cap l p J i j wr) (hij : i ≤ j) (hj : j < l.length) {x : P2} (hx : x = l[j]) (hp : p x = false) {S : Nat → Prop} (hf : Fr S wr w') (hg : ¬ S g)
    (hJ : J (j + 1) ((w'.setCell ⟨g, i * 2, none⟩ (.int .i64 x.1)).setCell ⟨g, i * 2 + 1, none⟩ (.int .i64 x.2))) : DelS2 base E g cap l p J (i + 1) (j + 1) ((w'.setCell ⟨g, i * 2, none⟩ (.int .i64 x.1)).setCell ⟨g, i * 2 + 1, none⟩ (.int .i64 x.2)) := by
  obtain ⟨xs, h1, h2, h3, h4⟩ := h.row
  subst hx
  have e : keepA p (l.take (j + 1)) = keepA p (l.take j) ++ [l[j]] := by rw [keepA_succ hj, hp]; rfl
  have hil : i < xs.length := by omega
  have h2' := owns_fr h2 hf (fun k hk e => hg (own_sl_eq hk ▸ e))
  refine ⟨⟨xs.set i l[j], by simpa using h1, ?_, fun q hq => ?_, ?_⟩, hJ, by rw [e, List.length_append, h.cnt]; rfl⟩
  · have a1 := (h2'.stored (i * 2) (.int .i64 l[j].1)).1
    have e1 := flat_set enc2_len xs i xs[i] (l[j].1, xs[i].2) 0 (.int .i64 l[j].1) (by simp [hil]) (by omega) rfl
    rw [Nat.add_zero] at e1
    rw [e1] at a1
    have a2 := (a1.stored (i * 2 + 1) (.int .i64 l[j].2)).1
    rw [flat_set enc2_len (xs.set i (l[j].1, xs[i].2)) i (l[j].1, xs[i].2) l[j] 1 (.int .i64 l[j].2) (by simp [hil]) (by omega) rfl, List.set_set] at a2
    exact a2
  · rw [List.getElem?_set, if_neg (by omega)]; exact h3 q (by omega)
  · rw [e, ← h4, List.take_succ_eq_append_getElem (by simp; omega)]
    simp [List.take_set_of_le]
/-- What slices.DeleteFunc leaves. -/
def DelJ (base : Nat) (E : TypeId) (v : Value) (p : P2 → Bool) (l : List P2) (J : Nat → World → Prop) (e : Ending) (w' : World) : Prop :=
  ∃ v', e = .returned v' ∧ w'.ownsRow base E 2 v' (keepA p l).length ((keepA p l).flatMap enc2) ∧ J l.length w' ∧ ∀ k, v'.ownBlock = some k → v.ownBlock = some k
def IdxJ (base : Nat) (E : TypeId) (v : Value) (p : P2 → Bool) (l : List P2) (J : Nat → World → Prop) (w : World) (e : Ending) (w' : World) : Prop :=
  e = .returned (.int .i64 (fstA p l)) ∧ J (if fstA p l < 0 then l.length else (fstA p l).toNat + 1) w' ∧ w'.ownsRow base E 2 v l.length (l.flatMap enc2) ∧ w.heap.size ≤ w'.heap.size
end Go.Proofs.YtcgcljmnnjalpaaGreat
