/- A heap whose nodes are all of one size: plain laws. -/
import Derived.Test.YthkcihkeklojcaaHpN
set_option linter.unusedVariables false
set_option linter.unusedSimpArgs false
namespace Go.Proofs.Ythkcihkeklojcaa
open Go.RowKit Go.Kx
/-- The addresses of nodes of one room. -/
def adr (r : Int) (N : Nat) : List Int := (List.range N).map fun (j : Nat) => 100 + (j : Int) * r
theorem adr_succ (r : Int) (N : Nat) : adr r (N + 1) = adr r N ++ [100 + (N : Int) * r] := by
  unfold adr; rw [List.range_succ, List.map_append]; rfl
theorem adr_len (r : Int) (N : Nat) : (adr r N).length = N := by simp [adr]
theorem adr_mem {r : Int} {N : Nat} {x : Int} : x ∈ adr r N ↔ ∃ j : Nat, j < N ∧ x = 100 + (j : Int) * r := by
  unfold adr
  rw [List.mem_map]
  constructor
  · rintro ⟨j, hj, rfl⟩; exact ⟨j, by simpa using hj, rfl⟩
  · rintro ⟨j, hj, rfl⟩; exact ⟨j, by simpa using hj, rfl⟩
theorem mul_lt {r : Int} (hr : 0 < r) {a b : Nat} (h : a < b) : (a : Int) * r < (b : Int) * r := Int.mul_lt_mul_of_pos_right (by omega) hr
theorem adr_lt {r : Int} (hr : 0 < r) (N : Nat) : (adr r N).Pairwise fun x y => x < y := by
  unfold adr
  rw [List.pairwise_map]
  exact List.pairwise_lt_range.imp fun h => by have := mul_lt hr h; omega
theorem adr_nodup {r : Int} (hr : 0 < r) (N : Nat) : (adr r N).Nodup := (adr_lt hr N).imp fun h => by omega
theorem adr_sorted {r : Int} (hr : 0 < r) (N : Nat) : (adr r N).Pairwise fun x y => x ≤ y := (adr_lt hr N).imp fun h => by omega
theorem adr_get {r : Int} {N j : Nat} (h : j < N) : (adr r N)[j]? = some (100 + (j : Int) * r) := by
  unfold adr; rw [List.getElem?_map, List.getElem?_range h]; rfl
/-- All nodes of one size; those that are gone, in order. -/
structure LSt (s : HS) (n sz : Int) (N : Nat) (g : List Int) : Prop where
  cells : s.cells = n
  vals : ∀ p ∈ s.nodes, p.2 = sz
  perm : (s.nodes.map Prod.fst ++ g).Perm (adr (rnd sz) N)
  free : s.free = g.map fun a => (a, rnd sz)
  top : s.top = 100 + (N : Int) * rnd sz
theorem nget_none {l : List (Int × Int)} {k : Int} (h : k ∉ l.map Prod.fst) : nget l k = none := by
  unfold nget
  rw [Option.map_eq_none_iff, List.find?_eq_none]
  intro p hp
  have : p.1 ≠ k := fun e => h (List.mem_map.2 ⟨p, hp, e⟩)
  simpa using this
theorem nget_val {l : List (Int × Int)} {k z : Int} (hv : ∀ p ∈ l, p.2 = z) (h : k ∈ l.map Prod.fst) : nget l k = some z := by
  obtain ⟨p, hp, rfl⟩ := List.mem_map.1 h
  cases hn : nget l p.1 with
  | none =>
    unfold nget at hn
    rw [Option.map_eq_none_iff, List.find?_eq_none] at hn
    have := hn p hp
    simp at this
  | some w =>
    have := hv _ (nget_mem hn)
    rw [← this]
theorem new_state (n sz : Int) : LSt (HS.new n) n sz 0 [] := ⟨rfl, by simp [HS.new], by simp [HS.new, adr], rfl, by simp [HS.new]⟩
section
variable {s : HS} {n sz : Int} {N : Nat} {g : List Int}
theorem LSt.keys (h : LSt s n sz N g) (hr : 0 < rnd sz) : (s.nodes.map Prod.fst ++ g).Nodup := (h.perm.nodup_iff).2 (adr_nodup hr N)
theorem LSt.mk_top (h : LSt s n sz N []) (h1 : 1 ≤ sz) (h2 : sz ≤ 18) (hroom : 100 + (N : Int) * rnd sz + rnd sz ≤ 1100) : ∃ s', s.make sz = (s', 100 + (N : Int) * rnd sz, 0) ∧ LSt s' n sz (N + 1) [] := by
  have hb := rnd_bound h1 h2
  have hf : s.free = [] := h.free
  have hl : lastOf s.free (rnd sz) = -1 := by rw [hf]; rfl
  have hnew : (100 + (N : Int) * rnd sz) ∉ s.nodes.map Prod.fst := fun hm => by
    have : (100 + (N : Int) * rnd sz) ∈ adr (rnd sz) N := h.perm.mem_iff.1 (List.mem_append.2 (.inl hm))
    obtain ⟨j, hj, e⟩ := adr_mem.1 this
    have := mul_lt (r := rnd sz) (by omega) hj
    omega
  have hput : nput s.nodes (100 + (N : Int) * rnd sz) sz = s.nodes ++ [(100 + (N : Int) * rnd sz, sz)] := by
    unfold nput; rw [nget_none hnew]; rfl
  refine ⟨_, by unfold HS.make; rw [if_pos ⟨h1, h2⟩, hl, if_neg (by omega), h.top, if_neg (by omega)], ?_⟩
  refine ⟨(fill_cells _ _ _).trans h.cells, ?_, ?_, (fill_free _ _ _).trans hf, (fill_top _ _ _).trans ?_⟩
  · rw [fill_nodes]
    show ∀ p ∈ nput s.nodes s.top sz, p.2 = sz
    rw [h.top, hput]
    intro p hp
    rcases List.mem_append.1 hp with hp | hp
    · exact h.vals p hp
    · rw [List.mem_singleton.1 hp]
  · rw [fill_nodes]
    show ((nput s.nodes s.top sz).map Prod.fst ++ []).Perm _
    rw [h.top, hput, List.map_append, List.append_nil, adr_succ]
    have := h.perm
    rw [List.append_nil] at this
    exact this.append_right _
  · show s.top + rnd sz = _
    have : ((N + 1 : Nat) : Int) * rnd sz = (N : Int) * rnd sz + rnd sz := by rw [Int.natCast_add, Int.add_mul]; simp
    rw [h.top, this]; omega
theorem LSt.mk_full (h : LSt s n sz N []) (h1 : 1 ≤ sz) (h2 : sz ≤ 18) (hroom : 1100 < 100 + (N : Int) * rnd sz + rnd sz) : s.make sz = (s, 0, 8) := by
  have hf : s.free = [] := h.free
  have hl : lastOf s.free (rnd sz) = -1 := by rw [hf]; rfl
  unfold HS.make
  rw [if_pos ⟨h1, h2⟩, hl, if_neg (by omega), h.top, if_pos (by omega)]
theorem lastFrom_all {l : List (Int × Int)} {z : Int} (h : ∀ p ∈ l, p.2 = z) : lastOf l z = (l.length : Int) - 1 := by
  unfold lastOf
  cases hl : l.length with
  | zero => rfl
  | succ k =>
    unfold lastFrom
    rw [if_pos]
    · omega
    · rw [List.getElem?_eq_getElem (by omega), Option.getD_some]
      exact h _ (List.getElem_mem _)
theorem LSt.mk_last {a : Int} (h : LSt s n sz N (g ++ [a])) (h1 : 1 ≤ sz) (h2 : sz ≤ 18) : ∃ s', s.make sz = (s', a, 0) ∧ LSt s' n sz N g := by
  have hb := rnd_bound h1 h2
  have hf := h.free
  have hl : lastOf s.free (rnd sz) = (g.length : Int) := by
    rw [lastFrom_all (z := rnd sz) (by rw [hf]; intro p hp; obtain ⟨x, _, rfl⟩ := List.mem_map.1 hp; rfl), hf]
    simp
  have hget : (s.free[(g.length : Int).toNat]?.getD (0, 0)).1 = a := by
    rw [Int.toNat_natCast, hf, List.map_append, List.getElem?_append_right (by simp)]
    simp
  have hnk : a ∉ s.nodes.map Prod.fst := fun hm => by
    have := h.keys (by omega)
    rw [List.nodup_append] at this
    exact this.2.2 a hm a (by simp) rfl
  have hput : nput s.nodes a sz = s.nodes ++ [(a, sz)] := by
    unfold nput; rw [nget_none hnk]; rfl
  refine ⟨_, by unfold HS.make; rw [if_pos ⟨h1, h2⟩, hl, if_pos (by omega), hget], ?_⟩
  refine ⟨(fill_cells _ _ _).trans h.cells, ?_, ?_, (fill_free _ _ _).trans ?_, (fill_top _ _ _).trans h.top⟩
  · rw [fill_nodes]
    show ∀ p ∈ nput s.nodes a sz, p.2 = sz
    rw [hput]
    intro p hp
    rcases List.mem_append.1 hp with hp | hp
    · exact h.vals p hp
    · rw [List.mem_singleton.1 hp]
  · rw [fill_nodes]
    show ((nput s.nodes a sz).map Prod.fst ++ g).Perm _
    rw [hput, List.map_append, List.append_assoc]
    refine List.Perm.trans ?_ h.perm
    exact List.Perm.append_left _ List.perm_append_comm
  · show s.free.eraseIdx (g.length : Int).toNat = _
    rw [Int.toNat_natCast, hf, List.map_append, List.eraseIdx_append_of_length_le (by simp)]
    simp
theorem LSt.mem (h : LSt s n sz N g) (hr : 0 < rnd sz) {a : Int} (ha : a ∈ adr (rnd sz) N) : a ∈ s.nodes.map Prod.fst ↔ a ∉ g := by
  have h1 : a ∈ s.nodes.map Prod.fst ++ g := h.perm.mem_iff.2 ha
  have h2 := h.keys hr
  rw [List.nodup_append] at h2
  constructor
  · intro hk hg
    exact h2.2.2 a hk a hg rfl
  · intro hg
    rcases List.mem_append.1 h1 with h3 | h3
    · exact h3
    · exact absurd h3 hg
theorem perm_del {l : List (Int × Int)} {a : Int} (hn : (l.map Prod.fst).Nodup) (ha : a ∈ l.map Prod.fst) : (l.map Prod.fst).Perm ((ndel l a).map Prod.fst ++ [a]) := by
  induction l with
  | nil => simp at ha
  | cons p l ih =>
    rw [List.map_cons, List.nodup_cons] at hn
    unfold ndel
    by_cases e : p.1 = a
    · have hall : (l.filter fun q => !(q.1 == a)) = l := by
        rw [List.filter_eq_self]
        intro q hq
        have : q.1 ≠ a := fun h => hn.1 (List.mem_map.2 ⟨q, hq, h.trans e.symm⟩)
        simpa using this
      rw [List.filter_cons, if_neg (by simp [e]), hall, List.map_cons, e]
      exact List.perm_append_comm (l₁ := [a])
    · have ha' : a ∈ l.map Prod.fst := by
        rw [List.map_cons] at ha
        rcases List.mem_cons.1 ha with h | h
        · exact absurd h.symm e
        · exact h
      rw [List.filter_cons, if_pos (by simp [e]), List.map_cons, List.map_cons, List.cons_append]
      exact (ih hn.2 ha').cons _
theorem LSt.gv (h : LSt s n sz N g) (hr : 0 < rnd sz) {a : Int} (ha : a ∈ adr (rnd sz) N) (hg : a ∉ g) : ∃ s', s.give a = (s', 0) ∧ LSt s' n sz N (g ++ [a]) := by
  have hk := (h.mem hr ha).2 hg
  have hn := h.keys hr
  rw [List.nodup_append] at hn
  refine ⟨{ s with nodes := ndel s.nodes a, free := s.free ++ [(a, rnd sz)] }, by unfold HS.give; rw [nget_val h.vals hk], h.cells, fun p hp => h.vals p (List.mem_filter.1 hp).1, ?_, ?_, h.top⟩
  · refine List.Perm.trans ?_ h.perm
    refine List.Perm.trans ?_ ((perm_del hn.1 hk).symm.append_right g)
    rw [List.append_assoc]
    exact List.Perm.append_left _ List.perm_append_comm
  · show s.free ++ _ = _
    rw [h.free, List.map_append]; rfl
/-- A scan from an address of the row. -/
theorem LSt.scan (h : LSt s n sz N g) (h1 : 1 ≤ sz) (h2 : sz ≤ 18) {a : Int} (ha : a ∈ adr (rnd sz) N) (hn : nget s.nodes a = none) : ∀ f x, x ≤ a → (nodeScan s.nodes a f x).2 = false := by
  have hb := rnd_bound h1 h2
  intro f
  induction f with
  | zero => intro x _; rfl
  | succ f ih =>
    intro x hx
    unfold nodeScan
    split
    · next hc =>
      split
      · next z hz =>
        have hne : x ≠ a := by rintro rfl; rw [hn] at hz; cases hz
        have hk : x ∈ s.nodes.map Prod.fst := List.mem_map.2 ⟨_, nget_mem hz, rfl⟩
        have hxm : x ∈ adr (rnd sz) N := h.perm.mem_iff.1 (List.mem_append.2 (.inl hk))
        have hzz : z = sz := h.vals _ (nget_mem hz)
        obtain ⟨i, hi, e1⟩ := adr_mem.1 hxm
        obtain ⟨j, hj, e2⟩ := adr_mem.1 ha
        have hij : i < j := by
          rcases Nat.lt_trichotomy i j with h | h | h
          · exact h
          · subst h; omega
          · have := mul_lt (r := rnd sz) (by omega) h; omega
        have h3 : ((i + 1 : Nat) : Int) * rnd sz ≤ (j : Int) * rnd sz := by
          rcases Nat.lt_or_ge (i + 1) j with h | h
          · have := mul_lt (r := rnd sz) (by omega) h; omega
          · obtain rfl : j = i + 1 := by omega
            omega
        rw [Int.natCast_add, Int.add_mul] at h3
        simp only [Int.natCast_one, Int.one_mul] at h3
        rw [hzz]
        simp only [decide_eq_false_iff_not]
        omega
      · exact ih _ (by omega)
    · rfl
theorem LSt.al (h : LSt s n sz N g) (hn : n ≤ 16) (h1 : 1 ≤ sz) (h2 : sz ≤ 18) {a : Int} (ha : a ∈ adr (rnd sz) N) : s.alive a = decide (a ∉ g) := by
  have hb := rnd_bound h1 h2
  obtain ⟨j, hj, ea⟩ := adr_mem.1 ha
  have hp : 0 ≤ (j : Int) * rnd sz := Int.mul_nonneg (by omega) (by omega)
  have hev : a.tmod 2 = 0 := by
    rw [Int.tmod_eq_emod_of_nonneg (by omega)]
    have : rnd sz % 2 = 0 := by unfold rnd; omega
    obtain ⟨q, hq⟩ : ∃ q, rnd sz = 2 * q := ⟨rnd sz / 2, by omega⟩
    rw [ea, hq]
    have : (j : Int) * (2 * q) = 2 * ((j : Int) * q) := by rw [← Int.mul_assoc, Int.mul_comm (j : Int) 2, Int.mul_assoc]
    omega
  unfold HS.alive
  rw [h.cells, decide_eq_true (show (0 : Int) ≤ a by omega), decide_eq_false (show ¬ a < n by omega), Bool.true_and, Bool.false_or]
  unfold nodeOf
  rw [hev, Int.sub_zero]
  by_cases hg : a ∈ g
  · have hnk : a ∉ s.nodes.map Prod.fst := fun hk => (h.mem (by omega) ha).1 hk hg
    rw [h.scan h1 h2 ha (nget_none hnk) 11 a (Int.le_refl _)]
    simp [hg]
  · have hk := (h.mem (by omega) ha).2 hg
    unfold nodeScan
    rw [if_pos (by omega), nget_val h.vals hk]
    simp [hg]
    omega
end
end Go.Proofs.Ythkcihkeklojcaa
