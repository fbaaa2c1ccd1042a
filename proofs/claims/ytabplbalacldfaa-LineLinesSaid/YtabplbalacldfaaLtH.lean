/- Shared, plainly: the lines that different threads use for different cells, and that are written. -/
import Derived.Test.YtabplbalacldfaaLtE
import Derived.Test.YtabplbalacldfaaLtF
import Derived.Test.YtabplbalacldfaaLtG
import Derived.Test.YtabplbalacldfaaLpH
set_option linter.unusedVariables false
set_option linter.unusedSimpArgs false
namespace Go.Proofs.Ytabplbalacldfaa
open Go.RowKit Go.Kx
def usedB (size : Int) (l : List A3) (q : Int) : Bool := l.any fun a => l.any fun b => apartB size a b && a.2.1 / size == q
def writB (size : Int) (l : List A3) (q : Int) : Bool := l.any fun a => a.2.2 == 1 && a.2.1 / size == q
/-- The lines that Shared answers. -/
def shr (size : Int) (l : List A3) : List Int := (dist (lnsL size l)).filter fun q => usedB size l q && writB size l q
theorem shr_asc (size : Int) (l : List A3) : (shr size l).Pairwise (· < ·) := (dist_asc _).filter _
theorem shr_mem (size : Int) (l : List A3) (q : Int) : q ∈ shr size l ↔ (∃ a ∈ l, ∃ b ∈ l, apartB size a b = true ∧ q = a.2.1 / size) ∧ ∃ a ∈ l, a.2.2 = 1 ∧ q = a.2.1 / size := by
  unfold shr
  rw [List.mem_filter, dist_mem]
  simp only [usedB, writB, Bool.and_eq_true, List.any_eq_true, beq_iff_eq]
  constructor
  · rintro ⟨_, ⟨a, ha, b, hb, h1, h2⟩, c, hc, h3, h4⟩
    exact ⟨⟨a, ha, b, hb, h1, h2.symm⟩, c, hc, h3, h4.symm⟩
  · rintro ⟨⟨a, ha, b, hb, h1, h2⟩, c, hc, h3, h4⟩
    exact ⟨List.mem_map.2 ⟨a, ha, h2.symm⟩, ⟨a, ha, b, hb, h1, h2.symm⟩, c, hc, h3, h4.symm⟩
theorem apartB_symm (size : Int) (a b : A3) : apartB size a b = apartB size b a := by
  unfold apartB
  rw [show (a.1 != b.1) = (b.1 != a.1) by rw [bne_comm], show (a.2.1 != b.2.1) = (b.2.1 != a.2.1) by rw [bne_comm], show (a.2.1 / size == b.2.1 / size) = (b.2.1 / size == a.2.1 / size) by rw [BEq.comm]]
theorem apartB_line {size : Int} {a b : A3} (h : apartB size a b = true) : a.2.1 / size = b.2.1 / size := by
  simp [apartB] at h; exact h.2
theorem apartB_self (size : Int) (a : A3) : apartB size a a = false := by simp [apartB]
/-- The lines that were found in use behind k rounds, j of the next. -/
def PU (size : Int) (m : List A3) (k j : Nat) (q : Int) : Prop :=
  (∃ i i2 a b, i2 < i ∧ i < k ∧ m[i]? = some a ∧ m[i2]? = some b ∧ apartB size a b = true ∧ q = a.2.1 / size) ∨ (∃ i2 a b, i2 < j ∧ m[k]? = some a ∧ m[i2]? = some b ∧ apartB size a b = true ∧ q = a.2.1 / size)
def PW (size : Int) (m : List A3) (k : Nat) (q : Int) : Prop := ∃ i a, i < k ∧ m[i]? = some a ∧ a.2.2 = 1 ∧ q = a.2.1 / size
theorem PU_start (size : Int) (m : List A3) (q : Int) : ¬ PU size m 0 0 q := by
  rintro (⟨i, i2, a, b, h1, h2, _⟩ | ⟨i2, a, b, h1, _⟩) <;> omega
theorem PW_start (size : Int) (m : List A3) (q : Int) : ¬ PW size m 0 q := by
  rintro ⟨i, a, h, _⟩; omega
theorem PU_next (size : Int) (m : List A3) (k : Nat) (q : Int) : PU size m k k q ↔ PU size m (k + 1) 0 q := by
  constructor
  · rintro (⟨i, i2, a, b, h1, h2, h3⟩ | ⟨i2, a, b, h1, h2⟩)
    · exact .inl ⟨i, i2, a, b, h1, by omega, h3⟩
    · exact .inl ⟨k, i2, a, b, h1, by omega, h2⟩
  · rintro (⟨i, i2, a, b, h1, h2, h3⟩ | ⟨i2, a, b, h1, _⟩)
    · by_cases h : i = k
      · subst h; exact .inr ⟨i2, a, b, h1, h3⟩
      · exact .inl ⟨i, i2, a, b, h1, by omega, h3⟩
    · omega
theorem PU_step {size : Int} {m : List A3} {k j : Nat} {a b : A3} (ha : m[k]? = some a) (hb : m[j]? = some b) (q : Int) : PU size m k (j + 1) q ↔ PU size m k j q ∨ (apartB size a b = true ∧ q = a.2.1 / size) := by
  constructor
  · rintro (h | ⟨i2, a', b', h1, h2, h3, h4⟩)
    · exact .inl (.inl h)
    · by_cases h : i2 = j
      · subst h
        rw [ha] at h2; rw [hb] at h3
        cases h2; cases h3
        exact .inr h4
      · exact .inl (.inr ⟨i2, a', b', by omega, h2, h3, h4⟩)
  · rintro ((h | ⟨i2, a', b', h1, h2⟩) | h)
    · exact .inl h
    · exact .inr ⟨i2, a', b', by omega, h2⟩
    · exact .inr ⟨j, a, b, by omega, ha, hb, h⟩
theorem PW_step {size : Int} {m : List A3} {k : Nat} {a : A3} (ha : m[k]? = some a) (q : Int) : PW size m (k + 1) q ↔ PW size m k q ∨ (a.2.2 = 1 ∧ q = a.2.1 / size) := by
  constructor
  · rintro ⟨i, a', h1, h2, h3⟩
    by_cases h : i = k
    · subst h
      rw [ha] at h2; cases h2
      exact .inr h3
    · exact .inl ⟨i, a', by omega, h2, h3⟩
  · rintro (⟨i, a', h1, h2⟩ | h)
    · exact ⟨i, a', by omega, h2⟩
    · exact ⟨k, a, by omega, ha, h⟩
theorem PU_all (size : Int) (m : List A3) (q : Int) : PU size m m.length 0 q ↔ ∃ a ∈ m, ∃ b ∈ m, apartB size a b = true ∧ q = a.2.1 / size := by
  constructor
  · rintro (⟨i, i2, a, b, h1, h2, h3, h4, h5⟩ | ⟨i2, a, b, h1, _⟩)
    · exact ⟨a, List.mem_of_getElem? h3, b, List.mem_of_getElem? h4, h5⟩
    · omega
  · rintro ⟨a, ha, b, hb, h1, h2⟩
    obtain ⟨i, hi, rfl⟩ := List.mem_iff_getElem.1 ha
    obtain ⟨j, hj, rfl⟩ := List.mem_iff_getElem.1 hb
    rcases Nat.lt_trichotomy i j with h | h | h
    · exact .inl ⟨j, i, m[j], m[i], h, hj, List.getElem?_eq_getElem hj, List.getElem?_eq_getElem hi, by rw [apartB_symm]; exact h1, by rw [h2, apartB_line h1]⟩
    · subst h; rw [apartB_self] at h1; cases h1
    · exact .inl ⟨i, j, m[i], m[j], h, hi, List.getElem?_eq_getElem hi, List.getElem?_eq_getElem hj, h1, h2⟩
theorem PW_all (size : Int) (m : List A3) (q : Int) : PW size m m.length q ↔ ∃ a ∈ m, a.2.2 = 1 ∧ q = a.2.1 / size := by
  constructor
  · rintro ⟨i, a, h1, h2, h3⟩
    exact ⟨a, List.mem_of_getElem? h2, h3⟩
  · rintro ⟨a, ha, h⟩
    obtain ⟨i, hi, rfl⟩ := List.mem_iff_getElem.1 ha
    exact ⟨i, m[i], hi, List.getElem?_eq_getElem hi, h⟩
theorem srt_asc {l : List Int} (h : l.Nodup) : (srt l).Pairwise (· < ·) := by
  have h1 := srt_le l
  have h2 : (srt l).Nodup := (srt_perm l).nodup_iff.2 h
  exact (h1.and h2).imp (fun {a b} h => by obtain ⟨h1, h2⟩ := h; omega)
/-- What Shared's last lines answer is shr. -/
theorem shared_eq {size : Int} {l m : List A3} {ks ws : List Int} (hm : ∀ x, x ∈ m ↔ x ∈ l) (hn : ks.Nodup) (hk : ∀ q, q ∈ ks ↔ PU size m m.length 0 q) (hw : ∀ q, q ∈ ws ↔ PW size m m.length q) :
    keepL (fun q => !(decide (q ∈ ws))) (srt ks) = shr size l := by
  refine asc_eq ((srt_asc hn).filter _) (shr_asc size l) fun q => ?_
  unfold keepL
  rw [List.mem_filter, (srt_perm ks).mem_iff, shr_mem]
  simp only [Bool.not_not, decide_eq_true_eq]
  rw [hk, hw, PU_all, PW_all]
  constructor
  · rintro ⟨⟨a, ha, b, hb, h⟩, c, hc, h2⟩
    exact ⟨⟨a, (hm a).1 ha, b, (hm b).1 hb, h⟩, c, (hm c).1 hc, h2⟩
  · rintro ⟨⟨a, ha, b, hb, h⟩, c, hc, h2⟩
    exact ⟨⟨a, (hm a).2 ha, b, (hm b).2 hb, h⟩, c, (hm c).2 hc, h2⟩
/-- Memory between two rounds of Shared. -/
structure ShS (w wr : World) (A : Option Addr) (m : List A3) (U V Bx : Nat) (pu pw : Int → Prop) : Prop where
  u : ∃ ks, IMap wr U (setKv ks) ∧ ∀ q, q ∈ ks ↔ pu q
  v : ∃ ws, IMap wr V (setKv ws) ∧ ∀ q, q ∈ ws ↔ pw q
  box : wr.heap[Bx]? = some (.cells #[.map (some V)] 82 (0, 0))
  acc : Acc wr A m
  gr : Grow w wr
  ne : U ≠ V
  hU : w.heap.size ≤ U
  hV : w.heap.size ≤ V
end Go.Proofs.Ytabplbalacldfaa
