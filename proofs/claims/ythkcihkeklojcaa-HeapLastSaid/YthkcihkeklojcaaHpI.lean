/- What a heap with one node does, over plain lists; the statements' example answers true. -/
import Derived.Test.YthkcihkeklojcaaHpH
set_option linter.unusedVariables false
set_option linter.unusedSimpArgs false
namespace Go.Proofs.Ythkcihkeklojcaa
open Go.RowKit Go.Kx
theorem at_set {l : List Int} {i : Nat} (hi : i < l.length) (v : Int) (j : Nat) : HS.at_ (l.set i v) (j : Int) = if i = j then v else HS.at_ l j := by
  unfold HS.at_
  rw [Int.toNat_natCast, List.getElem?_set]
  split
  · next h => subst h; simp [hi]
  · rfl
theorem fill_nodes (s : HS) (a : Nat) : ∀ k, (s.fill a k).nodes = s.nodes
  | 0 => rfl
  | k + 1 => fill_nodes s a k
theorem fill_free (s : HS) (a : Nat) : ∀ k, (s.fill a k).free = s.free
  | 0 => rfl
  | k + 1 => fill_free s a k
theorem fill_top (s : HS) (a : Nat) : ∀ k, (s.fill a k).top = s.top
  | 0 => rfl
  | k + 1 => fill_top s a k
theorem fill_cells (s : HS) (a : Nat) : ∀ k, (s.fill a k).cells = s.cells
  | 0 => rfl
  | k + 1 => fill_cells s a k
theorem fill_wl (s : HS) (a : Nat) : ∀ k, (s.fill a k).words.length = s.words.length
  | 0 => rfl
  | k + 1 => (List.length_set ..).trans (fill_wl s a k)
theorem fill_vl (s : HS) (a : Nat) : ∀ k, (s.fill a k).vers.length = s.vers.length
  | 0 => rfl
  | k + 1 => (List.length_set ..).trans (fill_vl s a k)
theorem fill_word {s : HS} {a : Nat} : ∀ k, a + k ≤ s.words.length → ∀ j : Nat, HS.at_ (s.fill a k).words j = if a ≤ j ∧ j < a + k then 0 else HS.at_ s.words j
  | 0, _, j => by rw [if_neg (by omega)]; rfl
  | k + 1, h, j => by
    show HS.at_ ((s.fill a k).words.set (a + k) 0) j = _
    rw [at_set (by rw [fill_wl]; omega), fill_word k (by omega) j]
    by_cases e : a + k = j
    · rw [if_pos e, if_pos (by omega)]
    · rw [if_neg e]
      by_cases e2 : a ≤ j ∧ j < a + k
      · rw [if_pos e2, if_pos (by omega)]
      · rw [if_neg e2, if_neg (by omega)]
theorem fill_ver {s : HS} {a : Nat} : ∀ k, a + k ≤ s.vers.length → ∀ j : Nat, HS.at_ (s.fill a k).vers j = if a ≤ j ∧ j < a + k then wrap64 (HS.at_ s.vers j + 1) else HS.at_ s.vers j
  | 0, _, j => by rw [if_neg (by omega)]; rfl
  | k + 1, h, j => by
    show HS.at_ ((s.fill a k).vers.set (a + k) (wrap64 (HS.at_ (s.fill a k).vers ((a + k : Nat) : Int) + 1))) j = _
    have e1 := fill_ver (s := s) (a := a) k (by omega) (a + k)
    rw [if_neg (by omega)] at e1
    rw [at_set (by rw [fill_vl]; omega), e1, fill_ver k (by omega) j]
    by_cases e : a + k = j
    · rw [if_pos e, if_pos (by omega), e]
    · rw [if_neg e]
      by_cases e2 : a ≤ j ∧ j < a + k
      · rw [if_pos e2, if_pos (by omega)]
      · rw [if_neg e2, if_neg (by omega)]
/-- A heap with one node of sz cells at 100, and nothing free. -/
structure One (s : HS) (n sz : Int) (c : Int) : Prop where
  cells : s.cells = n
  nodes : s.nodes = [(100, sz)]
  free : s.free = []
  top : s.top = 100 + rnd sz
  ver : HS.at_ s.vers 100 = c
theorem nget_one (k s : Int) (j : Int) : nget [(k, s)] j = if k = j then some s else none := by
  unfold nget
  by_cases h : k = j
  · subst h; simp
  · have : (k == j) = false := by simpa using h
    simp [this, h]
theorem rnd_bound {z : Int} (h1 : 1 ≤ z) (h2 : z ≤ 18) : 2 ≤ rnd z ∧ rnd z ≤ 18 ∧ z ≤ rnd z := by unfold rnd; omega
/-- The node of a cell where there is one node alone. -/
theorem nodeOf_one {sz : Int} (h1 : 1 ≤ sz) (h2 : sz ≤ 18) {c : Int} (hc0 : 100 ≤ c) (hc1 : c < 100 + rnd sz) : nodeOf [(100, sz)] c = (100, true) := by
  have hb := rnd_bound h1 h2
  have step : ∀ (m f : Nat), m < f → 100 + 2 * (m : Int) ≤ c → nodeScan [(100, sz)] c f (100 + 2 * m) = (100, true) := by
    intro m
    induction m with
    | zero =>
      intro f hf hle
      obtain ⟨f, rfl⟩ : ∃ g, f = g + 1 := ⟨f - 1, by omega⟩
      unfold nodeScan
      rw [if_pos (by omega), nget_one, if_pos (by omega)]
      simp only [Prod.mk.injEq, decide_eq_true_eq]
      omega
    | succ m ih =>
      intro f hf hle
      obtain ⟨f, rfl⟩ : ∃ g, f = g + 1 := ⟨f - 1, by omega⟩
      unfold nodeScan
      rw [if_pos (by omega), nget_one, if_neg (by omega)]
      have e : (100 + 2 * ((m + 1 : Nat) : Int) - 2) = 100 + 2 * (m : Int) := by omega
      show nodeScan _ _ _ _ = _
      rw [e]
      exact ih f (by omega) (by omega)
  unfold nodeOf
  rw [Int.tmod_eq_emod_of_nonneg (by omega)]
  obtain ⟨m, hm⟩ : ∃ m : Nat, c - c % 2 = 100 + 2 * (m : Int) := ⟨((c - c % 2 - 100) / 2).toNat, by omega⟩
  rw [hm]
  exact step m 11 (by omega) (by omega)
theorem nodeOf_none (c : Int) : nodeOf [] c = (0, false) := by
  have h : ∀ f a, nodeScan [] c f a = (0, false) := by
    intro f
    induction f with
    | zero => intro a; rfl
    | succ f ih =>
      intro a
      unfold nodeScan
      split
      · show nodeScan _ _ _ _ = _
        exact ih _
      · rfl
  exact h _ _
theorem One.alive {s : HS} {n sz c : Int} (h : One s n sz c) (h1 : 1 ≤ sz) (h2 : sz ≤ 18) {x : Int} (hx0 : 100 ≤ x) (hx1 : x < 100 + rnd sz) : s.alive x = true := by
  unfold HS.alive
  rw [h.nodes, nodeOf_one h1 h2 hx0 hx1]
  simp; omega
theorem One.store {s : HS} {n sz c : Int} (h : One s n sz c) (hg : Good s) (h1 : 1 ≤ sz) (h2 : sz ≤ 18) (w : Int) : One (s.store 100 w) n sz (wrap64 (c + 1)) := by
  have hb := rnd_bound h1 h2
  unfold HS.store
  rw [if_pos (h.alive h1 h2 (by omega) (by omega))]
  refine ⟨h.cells, h.nodes, h.free, h.top, ?_⟩
  show HS.at_ (s.vers.set 100 (wrap64 (HS.at_ s.vers 100 + 1))) ((100 : Nat) : Int) = _
  rw [at_set (by rw [hg.vl]; omega), if_pos rfl, h.ver]
theorem One.give {s : HS} {n sz c : Int} (h : One s n sz c) : s.give 100 = ({ s with nodes := [], free := [(100, rnd sz)] }, 0) := by
  unfold HS.give
  rw [h.nodes, nget_one, if_pos rfl, h.free]
  rfl
theorem One.again {s : HS} {n sz c : Int} (h : One s n sz c) (hg : Good s) (h1 : 1 ≤ sz) (h2 : sz ≤ 18) : ∃ s', HS.make { s with nodes := [], free := [(100, rnd sz)] } sz = (s', 100, 0) ∧ One s' n sz (wrap64 (c + 1)) := by
  have hb := rnd_bound h1 h2
  have hl : lastOf [((100 : Int), rnd sz)] (rnd sz) = 0 := by
    unfold lastOf
    show lastFrom _ _ 1 = 0
    unfold lastFrom
    exact if_pos rfl
  refine ⟨_, by unfold HS.make; rw [if_pos ⟨h1, h2⟩, show ({ s with nodes := [], free := [(100, rnd sz)] } : HS).free = [(100, rnd sz)] from rfl, hl, if_pos (by omega)]; rfl, ?_⟩
  obtain ⟨N, hN⟩ := Int.eq_ofNat_of_zero_le (show 0 ≤ rnd sz by omega)
  refine ⟨(fill_cells _ _ _).trans h.cells, (fill_nodes _ _ _).trans rfl, (fill_free _ _ _).trans rfl, (fill_top _ _ _).trans h.top, ?_⟩
  rw [hN, Int.toNat_natCast]
  have := fill_ver (s := HS.take { s with nodes := [], free := [(100, rnd sz)] } (0 : Int).toNat 100 sz) (a := 100) N (by show 100 + N ≤ s.vers.length; rw [hg.vl]; omega) 100
  refine this.trans ?_
  rw [if_pos (by omega)]
  show wrap64 (HS.at_ s.vers 100 + 1) = _
  rw [h.ver]
theorem at_zero (i : Nat) (h : i < 1100) : HS.at_ zero1100 i = 0 := by
  unfold HS.at_ zero1100
  rw [Int.toNat_natCast, List.getElem?_replicate, if_pos h]
  rfl
theorem make_first {n : Int} {sz : Int} (h1 : 1 ≤ sz) (h2 : sz ≤ 18) : ∃ s', (HS.new n).make sz = (s', 100, 0) ∧ One s' n sz 1 := by
  have hb := rnd_bound h1 h2
  have hl : lastOf (HS.new n).free (rnd sz) = -1 := rfl
  have ht : (HS.new n).top = 100 := rfl
  refine ⟨_, by unfold HS.make; rw [if_pos ⟨h1, h2⟩, hl, if_neg (by omega), ht, if_neg (by omega)], ?_⟩
  obtain ⟨N, hN⟩ := Int.eq_ofNat_of_zero_le (show 0 ≤ rnd sz by omega)
  refine ⟨(fill_cells _ _ _).trans rfl, (fill_nodes _ _ _).trans rfl, (fill_free _ _ _).trans rfl, (fill_top _ _ _).trans rfl, ?_⟩
  rw [hN, Int.toNat_natCast]
  have := fill_ver (s := (HS.new n).more (N : Int) sz) (a := (100 : Int).toNat) N (by show 100 + N ≤ zero1100.length; rw [zero1100_length]; omega) 100
  refine this.trans ?_
  rw [if_pos (by show 100 ≤ 100 ∧ 100 < 100 + N; omega)]
  show wrap64 (HS.at_ zero1100 ((100 : Nat) : Int) + 1) = 1
  rw [at_zero 100 (by omega)]
  unfold wrap64
  omega
end Go.Proofs.Ythkcihkeklojcaa
