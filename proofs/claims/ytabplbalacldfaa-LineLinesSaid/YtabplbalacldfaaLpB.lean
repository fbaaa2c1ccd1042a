/- Plain lists: the distinct cells in ascending order, as the program and as the reference make them; where a cell stands among them. No program. -/
import Derived.Test.YtabplbalacldfaaLpA
import Derived.Lib.SlicesCompact
set_option linter.unusedVariables false
set_option linter.unusedSimpArgs false
namespace Go.Proofs.Ytabplbalacldfaa
open Go.RowKit Go.Kx
theorem srt_perm (l : List Int) : (srt l).Perm l := List.mergeSort_perm _ _
theorem srt_le (l : List Int) : (srt l).Pairwise (· ≤ ·) := by
  have := List.pairwise_mergeSort (le := fun x y : Int => decide (x ≤ y)) (fun a b c h1 h2 => by simp at *; omega) (fun a b => by simp; omega) l
  exact this.imp (fun h => by simpa using h)
theorem asc_eq : ∀ {a b : List Int}, a.Pairwise (· < ·) → b.Pairwise (· < ·) → (∀ x, x ∈ a ↔ x ∈ b) → a = b
  | [], [], _, _, _ => rfl
  | [], y :: b, _, _, h => absurd ((h y).2 (by simp)) (by simp)
  | x :: a, [], _, _, h => absurd ((h x).1 (by simp)) (by simp)
  | x :: a, y :: b, ha, hb, h => by
    rw [List.pairwise_cons] at ha hb
    have h1 := (h x).1 (by simp)
    have h2 := (h y).2 (by simp)
    have hxy : x = y := by
      rcases List.mem_cons.1 h1 with e | e
      · exact e
      · rcases List.mem_cons.1 h2 with e2 | e2
        · exact e2.symm
        · have := hb.1 x e; have := ha.1 y e2; omega
    subst hxy
    rw [asc_eq ha.2 hb.2 fun z => ?_]
    constructor
    · intro hz
      have hlt := ha.1 z hz
      rcases List.mem_cons.1 ((h z).1 (by simp [hz])) with e | e
      · omega
      · exact e
    · intro hz
      have hlt := hb.1 z hz
      rcases List.mem_cons.1 ((h z).2 (by simp [hz])) with e | e
      · omega
      · exact e
theorem get_bang {zs : List Int} {j : Nat} (h : j < zs.length) : zs.toArray[j]! = zs[j] := by simp [h]
theorem compact_mem {zs : List Int} {x : Int} : x ∈ Lib.compact zs ↔ x ∈ zs := by
  unfold Lib.compact Lib.compactUpTo
  rw [List.mem_map]
  constructor
  · rintro ⟨j, hj, rfl⟩
    rw [List.mem_filter, List.mem_range] at hj
    rw [get_bang hj.1]
    exact List.getElem_mem hj.1
  · intro hx
    have key : ∀ n j : Nat, j ≤ n → ∀ hj : j < zs.length, zs[j] = x → ∃ i, i ∈ (List.range zs.length).filter (Lib.keeps zs.toArray) ∧ zs.toArray[i]! = x := by
      intro n
      induction n with
      | zero =>
        intro j hjn hj hjx
        exact ⟨j, by rw [List.mem_filter, List.mem_range]; exact ⟨hj, by unfold Lib.keeps; simp; omega⟩, by rw [get_bang hj]; exact hjx⟩
      | succ n ih =>
        intro j hjn hj hjx
        by_cases hk : Lib.keeps zs.toArray j = true
        · exact ⟨j, by rw [List.mem_filter, List.mem_range]; exact ⟨hj, hk⟩, by rw [get_bang hj]; exact hjx⟩
        · unfold Lib.keeps at hk
          have hk1 : ¬ (j = 0 ∨ zs.toArray[j]! ≠ zs.toArray[j - 1]!) := by simpa using hk
          have hj0 : j ≠ 0 := fun e => hk1 (.inl e)
          have he : zs.toArray[j]! = zs.toArray[j - 1]! := Classical.byContradiction fun e => hk1 (.inr e)
          rw [get_bang hj, get_bang (show j - 1 < zs.length by omega)] at he
          exact ih (j - 1) (by omega) (by omega) (by rw [← he]; exact hjx)
    obtain ⟨j, hj, hjx⟩ := List.getElem_of_mem hx
    exact key j j (Nat.le_refl _) hj hjx
theorem compact_asc {zs : List Int} (h : zs.Pairwise (· ≤ ·)) : (Lib.compact zs).Pairwise (· < ·) := by
  unfold Lib.compact Lib.compactUpTo
  rw [List.pairwise_map, List.pairwise_filter]
  have hr : (List.range zs.length).Pairwise (fun a b => a < b ∧ b < zs.length) := by
    have h1 : (List.range zs.length).Pairwise (· < ·) := List.pairwise_lt_range
    refine h1.imp_of_mem ?_
    intro a b ha hb hab
    exact ⟨hab, List.mem_range.1 hb⟩
  refine hr.imp ?_
  rintro i j ⟨hij, hj⟩ _ hkj
  rw [get_bang (show i < zs.length by omega), get_bang hj]
  have hle : zs[i]'(by omega) ≤ zs[j - 1]'(by omega) := by
    by_cases e : i = j - 1
    · simp [e]
    · exact (List.pairwise_iff_getElem.1 h) i (j - 1) (by omega) (by omega) (by omega)
  have hle2 : zs[j - 1]'(by omega) ≤ zs[j] := (List.pairwise_iff_getElem.1 h) (j - 1) j (by omega) hj (by omega)
  unfold Lib.keeps at hkj
  have hk1 : j = 0 ∨ zs.toArray[j]! ≠ zs.toArray[j - 1]! := by simpa using hkj
  rw [get_bang hj, get_bang (show j - 1 < zs.length by omega)] at hk1
  rcases hk1 with e | e
  · omega
  · omega
/-- The numbers without those that come again. -/
def nubK : Nat → List Int → List Int
  | 0, _ => []
  | k + 1, zs => let r := nubK k zs; if (r.any fun x => decide (x = zs[k]?.getD 0)) then r else r ++ [zs[k]?.getD 0]
theorem nubK_succ {k : Nat} {zs : List Int} (h : k < zs.length) : nubK (k + 1) zs = if ((nubK k zs).any fun x => decide (x = zs[k])) then nubK k zs else nubK k zs ++ [zs[k]] := by
  show (if _ then _ else _) = _
  rw [List.getElem?_eq_getElem h, Option.getD_some]
theorem nubK_len (zs : List Int) : ∀ k, (nubK k zs).length ≤ k
  | 0 => Nat.le_refl _
  | k + 1 => by
    have := nubK_len zs k
    show (if _ then _ else _ : List Int).length ≤ _
    split
    · omega
    · simp; omega
theorem nubK_ok (zs : List Int) : ∀ k, k ≤ zs.length → (nubK k zs).Pairwise (· ≠ ·) ∧ ∀ x, x ∈ nubK k zs ↔ x ∈ zs.take k
  | 0, _ => ⟨List.Pairwise.nil, fun x => by simp [nubK]⟩
  | k + 1, hk => by
    obtain ⟨h1, h2⟩ := nubK_ok zs k (by omega)
    rw [nubK_succ (by omega), List.take_succ_eq_append_getElem (show k < zs.length by omega)]
    split
    · rename_i ha
      refine ⟨h1, fun x => ?_⟩
      obtain ⟨y, hy, he⟩ := List.any_eq_true.1 ha
      have he' : y = zs[k] := by simpa using he
      rw [h2, List.mem_append, List.mem_singleton]
      constructor
      · exact .inl
      · rintro (h | rfl)
        · exact h
        · rw [← h2, ← he']; exact hy
    · rename_i ha
      refine ⟨?_, fun x => by rw [List.mem_append, List.mem_append, h2]⟩
      rw [List.pairwise_append]
      refine ⟨h1, by simp, fun a ha2 b hb => ?_⟩
      rw [List.mem_singleton.1 hb]
      intro e
      exact ha (List.any_eq_true.2 ⟨a, ha2, by simp [e]⟩)
def nub (zs : List Int) : List Int := nubK zs.length zs
/-- The distinct numbers, ascending. -/
def dist (zs : List Int) : List Int := Lib.compact (srt zs)
theorem dist_asc (zs : List Int) : (dist zs).Pairwise (· < ·) := compact_asc (srt_le zs)
theorem dist_mem {zs : List Int} {x : Int} : x ∈ dist zs ↔ x ∈ zs := compact_mem.trans (srt_perm zs).mem_iff
theorem dist_nub (zs : List Int) : srt (nub zs) = dist zs := by
  obtain ⟨h1, h2⟩ := nubK_ok zs zs.length (Nat.le_refl _)
  refine asc_eq ?_ (dist_asc zs) fun x => ?_
  · have hne : (srt (nub zs)).Pairwise (· ≠ ·) := (List.Perm.pairwise_iff (fun {a b} h => Ne.symm h) (srt_perm (nub zs))).2 h1
    exact ((srt_le (nub zs)).and hne).imp fun ⟨a, b⟩ => by omega
  · rw [(srt_perm (nub zs)).mem_iff, dist_mem]
    show x ∈ nubK zs.length zs ↔ _
    rw [h2, List.take_length]
theorem compact_len (zs : List Int) : (Lib.compact zs).length ≤ zs.length := by
  unfold Lib.compact Lib.compactUpTo
  rw [List.length_map]
  have := List.length_filter_le (Lib.keeps zs.toArray) (List.range zs.length)
  simpa using this
theorem dist_len (zs : List Int) : (dist zs).length ≤ zs.length := by
  have := compact_len (srt zs)
  rw [srt_len] at this
  exact this
/-- Where a number stands in an ascending list. -/
theorem asc_count : ∀ {a : List Int} {k : Nat}, a.Pairwise (· < ·) → ∀ h : k < a.length, a.countP (fun x => decide (x < a[k])) = k
  | x :: a, 0, ha, h => by
    rw [List.pairwise_cons] at ha
    rw [List.countP_eq_zero]
    intro y hy
    rcases List.mem_cons.1 hy with rfl | hy
    · simp
    · have := ha.1 y hy
      simp
      omega
  | x :: a, k + 1, ha, h => by
    rw [List.pairwise_cons] at ha
    have hk : k < a.length := by simpa using h
    have := ha.1 a[k] (List.getElem_mem hk)
    rw [List.countP_cons]
    have ih := asc_count ha.2 hk
    simp only [List.getElem_cons_succ]
    rw [ih]
    simp [this]
theorem asc_inj {a : List Int} (ha : a.Pairwise (· < ·)) {i j : Nat} (hi : i < a.length) (hj : j < a.length) (h : a[i] = a[j]) : i = j := by
  have h1 := asc_count ha hi
  have h2 := asc_count ha hj
  rw [h] at h1
  omega
/-- The accesses behind Pad. -/
def padOf (size : Int) (l : List A3) : List A3 := l.map fun a => (a.1, ((dist (l.map (·.2.1))).countP (fun x => decide (x < a.2.1)) : Int) * size, a.2.2)
end Go.Proofs.Ytabplbalacldfaa
