/- Plain laws about schedules: who goes at a moment; without a change; with one. -/
import Derived.Test.YtacfchepacfjnaaOdL
set_option linter.unusedVariables false
set_option linter.unusedSimpArgs false
namespace Go.Proofs.Ytacfchepacfjnaa
open Go.RowKit Go.Kx Go.Maps Go.Sort Go.Shelf
/-- Who is best has steps left, and no one with steps left has a greater priority. -/
theorem bstK_max {l p : List Int} : ∀ k j, j < k → 0 < l[j]?.getD 0 → p[j]?.getD 0 ≤ p[(bstK l p k).toNat]?.getD 0
  | 0, j, hj, _ => by omega
  | k + 1, j, hj, h => by
    unfold bstK
    have hpos : ∀ i, i < k → 0 < l[i]?.getD 0 → 0 ≤ bstK l p k := fun i hi h => bstK_pos hi h
    by_cases e : j = k
    · subst e
      split
      · simp
      · next hn =>
        have h1 : ¬ bstK l p j < 0 := fun q => hn ⟨h, .inl q⟩
        have h2 : ¬ p[(bstK l p j).toNat]?.getD 0 < p[j]?.getD 0 := fun q => hn ⟨h, .inr q⟩
        omega
    · have ih := bstK_max (p := p) k j (by omega) h
      split
      · next hc =>
        rcases hc.2 with h1 | h1
        · have := hpos j (by omega) h; omega
        · simp only [Int.toNat_natCast]; omega
      · exact ih
theorem bst_max {l p : List Int} {j : Nat} (h : 0 < l[j]?.getD 0) : p[j]?.getD 0 ≤ p[(bst l p).toNat]?.getD 0 := by
  refine bstK_max _ j ?_ h
  by_cases hj : j < l.length
  · exact hj
  · rw [List.getElem?_eq_none (by omega)] at h; simp at h
theorem chgK_none {m : Int} {left now : List Int} {chs : List Int} (h : ∀ x ∈ chs, x ≠ m) : ∀ k, k ≤ chs.length → chgK m left chs now k = now
  | 0, _ => rfl
  | k + 1, hk => by
    unfold chgK
    rw [chgK_none h k (by omega), if_neg]
    rw [List.getElem?_eq_getElem (by omega), Option.getD_some]
    exact h _ (List.getElem_mem _)
/-- The state at a moment, in short. -/
theorem schK_succ (cs ps chs : List Int) (k : Nat) : schK cs ps chs (k + 1) = schStep chs k (schK cs ps chs k) := rfl
/-- Changes that never come. -/
theorem schStep_none {chs : List Int} {m : Nat} {s : List Int × List Int × List Int} (h : ∀ x ∈ chs, x ≠ (m : Int)) :
    schStep chs m s = (s.1.set (bst s.1 s.2.1).toNat (s.1[(bst s.1 s.2.1).toNat]?.getD 0 - 1), s.2.1, s.2.2 ++ [bst s.1 s.2.1]) := by
  unfold schStep
  rw [chgK_none h _ (Nat.le_refl _)]
theorem schK_same {cs ps c1 c2 : List Int} : ∀ k : Nat, (∀ m : Nat, m < k → (∀ x ∈ c1, x ≠ (m : Int)) ∧ ∀ x ∈ c2, x ≠ (m : Int)) → schK cs ps c1 k = schK cs ps c2 k
  | 0, _ => rfl
  | k + 1, h => by
    rw [schK_succ, schK_succ, schK_same k (fun m hm => h m (by omega)), schStep_none (h k (by omega)).1, schStep_none (h k (by omega)).2]
theorem schK_now {cs ps chs : List Int} : ∀ k : Nat, (∀ m : Nat, m < k → ∀ x ∈ chs, x ≠ (m : Int)) → (schK cs ps chs k).2.1 = ps
  | 0, _ => rfl
  | k + 1, h => by
    rw [schK_succ, schStep_none (h k (by omega))]
    exact schK_now k (fun m hm => h m (by omega))
theorem schStep_out (chs : List Int) (m : Nat) (s : List Int × List Int × List Int) : (schStep chs m s).2.2 = s.2.2 ++ [bst s.1 (chgK m s.1 chs s.2.1 chs.length)] := rfl
theorem out_take {cs ps chs : List Int} (hv : ∀ x ∈ cs, 0 ≤ x ∧ x ≤ 6) {k n : Nat} (hk : k ≤ n) (hn : (n : Int) ≤ cs.sum) : (schK cs ps chs n).2.2.take k = (schK cs ps chs k).2.2 := by
  induction n with
  | zero => obtain rfl : k = 0 := by omega
            simp [schK]
  | succ n ih =>
    have l1 := (schI_at (ps := ps) (chs := chs) hv n (by omega)).l3
    by_cases e : k = n + 1
    · subst e
      rw [List.take_of_length_le]
      have := (schI_at (ps := ps) (chs := chs) hv (n + 1) hn).l3
      omega
    · rw [schK_succ, schStep_out, List.take_append_of_le_length (by omega)]
      exact ih (by omega) (by omega)
/-- Who goes at a moment. -/
def goes (cs ps chs : List Int) (k : Nat) : Int := bst (schK cs ps chs k).1 (chgK k (schK cs ps chs k).1 chs (schK cs ps chs k).2.1 chs.length)
theorem out_at {cs ps chs : List Int} (hv : ∀ x ∈ cs, 0 ≤ x ∧ x ≤ 6) {k n : Nat} (hk : k < n) (hn : (n : Int) ≤ cs.sum) : (schK cs ps chs n).2.2[k]? = some (goes cs ps chs k) := by
  have h1 := out_take (ps := ps) (chs := chs) hv (k := k + 1) (n := n) (by omega) hn
  have l1 := (schI_at (ps := ps) (chs := chs) hv k (by omega)).l3
  have h2 : ((schK cs ps chs n).2.2.take (k + 1))[k]? = (schK cs ps chs n).2.2[k]? := by rw [List.getElem?_take, if_pos (by omega)]
  rw [← h2, h1, schK_succ, schStep_out, List.getElem?_append_right (by omega), l1, Nat.sub_self]
  rfl
theorem goes_ok {cs ps chs : List Int} (hv : ∀ x ∈ cs, 0 ≤ x ∧ x ≤ 6) {k : Nat} (hk : (k : Int) < cs.sum) : 0 ≤ goes cs ps chs k ∧ goes cs ps chs k < cs.length ∧ 0 < (schK cs ps chs k).1[(goes cs ps chs k).toNat]?.getD 0 := by
  have h := schI_at (ps := ps) (chs := chs) hv k (by omega)
  have hb := bst_ok (l := (schK cs ps chs k).1) (chgK k (schK cs ps chs k).1 chs (schK cs ps chs k).2.1 chs.length) (fun x hx => (h.v x hx).1) (by rw [h.s]; omega)
  refine ⟨hb.1, by have := h.l1; unfold goes; omega, bstK_has _ hb.1⟩
theorem left_succ (cs ps chs : List Int) (k : Nat) : (schK cs ps chs (k + 1)).1 = (schK cs ps chs k).1.set (goes cs ps chs k).toNat ((schK cs ps chs k).1[(goes cs ps chs k).toNat]?.getD 0 - 1) := rfl
theorem left_get {cs ps chs : List Int} (hv : ∀ x ∈ cs, 0 ≤ x ∧ x ≤ 6) {k : Nat} (hk : (k : Int) < cs.sum) (t : Nat) :
    (schK cs ps chs (k + 1)).1[t]?.getD 0 = (schK cs ps chs k).1[t]?.getD 0 - if (t : Int) = goes cs ps chs k then 1 else 0 := by
  have h := schI_at (ps := ps) (chs := chs) hv k (by omega)
  obtain ⟨g1, g2, _⟩ := goes_ok (ps := ps) (chs := chs) hv hk
  rw [left_succ]
  obtain ⟨g, hg⟩ := Int.eq_ofNat_of_zero_le g1
  rw [hg] at g2 ⊢
  simp only [Int.toNat_natCast]
  rw [List.getElem?_set]
  by_cases e : g = t
  · subst e
    rw [if_pos rfl, if_pos (by rw [h.l1]; omega), if_pos rfl]; rfl
  · rw [if_neg e, if_neg (by omega)]; omega
/-- Without changes: who goes next has a smaller priority, or is the same one. -/
theorem first_law {cs ps chs : List Int} (hv : ∀ x ∈ cs, 0 ≤ x ∧ x ≤ 6) (hnd : ps.Nodup) (hlen : ps.length = cs.length) (hch : ∀ m : Nat, ∀ x ∈ chs, x ≠ (m : Int)) {k : Nat} (hk : (k : Int) + 1 < cs.sum)
    (hne : goes cs ps chs (k + 1) ≠ goes cs ps chs k) : ps[(goes cs ps chs (k + 1)).toNat]?.getD 0 < ps[(goes cs ps chs k).toNat]?.getD 0 := by
  have hg : ∀ j, goes cs ps chs j = bst (schK cs ps chs j).1 ps := fun j => by
    unfold goes; rw [chgK_none (hch j) _ (Nat.le_refl _), schK_now j (fun m _ => hch m)]
  obtain ⟨a1, a2, a3⟩ := goes_ok (ps := ps) (chs := chs) hv (k := k) (by omega)
  obtain ⟨b1, b2, b3⟩ := goes_ok (ps := ps) (chs := chs) hv (k := k + 1) (by omega)
  have h1 := left_get (ps := ps) (chs := chs) hv (k := k) (by omega) (goes cs ps chs (k + 1)).toNat
  rw [if_neg (by omega)] at h1
  rw [h1] at b3
  have h2 := bst_max (p := ps) (l := (schK cs ps chs k).1) (j := (goes cs ps chs (k + 1)).toNat) (by omega)
  rw [← hg k] at h2
  have hx2 : (goes cs ps chs k).toNat < ps.length := by omega
  have hy2 : (goes cs ps chs (k + 1)).toNat < ps.length := by omega
  rw [List.getElem?_eq_getElem hx2, List.getElem?_eq_getElem hy2, Option.getD_some, Option.getD_some] at *
  have : ps[(goes cs ps chs (k + 1)).toNat] ≠ ps[(goes cs ps chs k).toNat] := fun e => hne (by have := (List.getElem_inj hnd).1 e; omega)
  omega
theorem le_sum {l : List Int} (h0 : ∀ x ∈ l, 0 ≤ x) {j : Nat} (hj : j < l.length) : l[j] ≤ l.sum := by
  induction l generalizing j with
  | nil => simp at hj
  | cons y l ih =>
    have hs : 0 ≤ l.sum := by
      clear ih hj
      induction l with
      | nil => simp
      | cons z l ih => rw [List.sum_cons]; have := h0 z (by simp); have := ih (fun x hx => h0 x (by simp at hx ⊢; rcases hx with h | h <;> simp [h])); omega
    have hy := h0 y (by simp)
    cases j with
    | zero => simp; omega
    | succ j =>
      have := ih (fun x hx => h0 x (by simp [hx])) (j := j) (by simpa using hj)
      simp only [List.sum_cons, List.getElem_cons_succ]
      omega
theorem set_nonneg {l : List Int} (h0 : ∀ x ∈ l, 0 ≤ x) (i : Nat) : ∀ x ∈ l.set i 0, 0 ≤ x := fun x hx => by
  rcases List.mem_or_eq_of_mem_set hx with h | h
  · exact h0 x h
  · omega
theorem sum_two {l : List Int} (h0 : ∀ x ∈ l, 0 ≤ x) {i j : Nat} (hi : i < l.length) (hj : j < l.length) (hij : i ≠ j) : l[i] + l[j] ≤ l.sum := by
  have h1 := le_sum (set_nonneg h0 i) (j := j) (by simpa using hj)
  rw [List.getElem_set, if_neg hij] at h1
  have h2 := sum_set hi 0
  omega
theorem other_pos {l : List Int} (h0 : ∀ x ∈ l, 0 ≤ x) {i : Nat} (hi : i < l.length) (h : l[i] < l.sum) : ∃ j, j < l.length ∧ j ≠ i ∧ 0 < l[j]?.getD 0 := by
  have h2 := sum_set hi 0
  obtain ⟨j, h3, h4⟩ := exists_pos (set_nonneg h0 i) (by omega)
  rw [List.length_set] at h3
  rw [List.getElem?_set] at h4
  by_cases e : i = j
  · subst e; rw [if_pos rfl, if_pos hi] at h4; simp at h4
  · rw [if_neg e] at h4; exact ⟨j, h3, fun h => e h.symm, h4⟩
section stop
variable {cs ps : List Int} {m : Nat}
theorem stop_same (k : Nat) (h : k ≤ m) : schK cs ps [(m : Int)] k = schK cs ps [] k :=
  schK_same k fun j hj => ⟨fun x hx => by rw [List.mem_singleton.1 hx]; omega, fun x hx => by simp at hx⟩
theorem goes_nil (k : Nat) : goes cs ps [] k = bst (schK cs ps [] k).1 ps := by
  unfold goes; rw [chgK_none (by simp) _ (Nat.le_refl _), schK_now k (by simp)]
theorem stop_goes_lt (k : Nat) (h : k < m) : goes cs ps [(m : Int)] k = goes cs ps [] k := by
  have h2 : ∀ x ∈ [(m : Int)], x ≠ (k : Int) := fun x hx => by rw [List.mem_singleton.1 hx]; omega
  unfold goes
  rw [chgK_none h2 _ (Nat.le_refl _), chgK_none (by simp) _ (Nat.le_refl _), stop_same k (by omega)]
theorem stop_now_at : chgK m (schK cs ps [(m : Int)] m).1 [(m : Int)] (schK cs ps [(m : Int)] m).2.1 1 = ps.set (goes cs ps [] m).toNat 0 := by
  rw [goes_nil, stop_same m (Nat.le_refl _), schK_now m (by simp)]
  simp [chgK]
theorem stop_now (k : Nat) (h : m ≤ k) : (schK cs ps [(m : Int)] (k + 1)).2.1 = ps.set (goes cs ps [] m).toNat 0 := by
  induction k with
  | zero =>
    obtain rfl : m = 0 := by omega
    exact stop_now_at (m := 0)
  | succ k ih =>
    by_cases e : m = k + 1
    · subst e
      exact stop_now_at
    · rw [schK_succ, schStep_none (fun x hx => by rw [List.mem_singleton.1 hx]; omega)]
      exact ih (by omega)
theorem stop_goes (k : Nat) (h : m ≤ k) : goes cs ps [(m : Int)] k = bst (schK cs ps [(m : Int)] k).1 (ps.set (goes cs ps [] m).toNat 0) := by
  by_cases e : m = k
  · subst e
    show bst _ (chgK m _ [(m : Int)] _ 1) = _
    rw [stop_now_at]
  · obtain ⟨j, rfl⟩ : ∃ j, k = j + 1 := ⟨k - 1, by omega⟩
    have hn := stop_now (cs := cs) (ps := ps) (m := m) j (by omega)
    unfold goes
    rw [chgK_none (fun x hx => by rw [List.mem_singleton.1 hx]; omega) _ (Nat.le_refl _), hn]
    rfl
theorem stop_left (hv : ∀ x ∈ cs, 0 ≤ x ∧ x ≤ 6) (hlen : ps.length = cs.length) (hp : ∀ x ∈ ps, 0 < x) (hm : (m : Int) < cs.sum) :
    ∀ k : Nat, m ≤ k → (k : Int) ≤ cs.sum → (schK cs ps [(m : Int)] k).1[(goes cs ps [] m).toNat]?.getD 0 = min ((schK cs ps [] m).1[(goes cs ps [] m).toNat]?.getD 0) (cs.sum - k) ∧
      ((k : Int) < cs.sum → (goes cs ps [(m : Int)] k = goes cs ps [] m ↔ cs.sum - (schK cs ps [] m).1[(goes cs ps [] m).toNat]?.getD 0 ≤ (k : Int))) := by
  obtain ⟨g1, g2, g3⟩ := goes_ok (ps := ps) (chs := []) hv hm
  obtain ⟨g, hg⟩ := Int.eq_ofNat_of_zero_le g1
  rw [hg] at g2 g3 ⊢
  simp only [Int.toNat_natCast] at g3 ⊢
  have hgl : g < cs.length := by omega
  have hmain : ∀ k : Nat, m ≤ k → (k : Int) < cs.sum → (schK cs ps [(m : Int)] k).1[g]?.getD 0 = min ((schK cs ps [] m).1[g]?.getD 0) (cs.sum - k) →
      (goes cs ps [(m : Int)] k = (g : Int) ↔ cs.sum - (schK cs ps [] m).1[g]?.getD 0 ≤ (k : Int)) := by
    intro k hk hks hl
    have h := schI_at (ps := ps) (chs := [(m : Int)]) hv k (by omega)
    have h0 : ∀ x ∈ (schK cs ps [(m : Int)] k).1, 0 ≤ x := fun x hx => (h.v x hx).1
    obtain ⟨b1, b2, b3⟩ := goes_ok (ps := ps) (chs := [(m : Int)]) hv hks
    have hgk : g < (schK cs ps [(m : Int)] k).1.length := by rw [h.l1]; exact hgl
    rw [List.getElem?_eq_getElem hgk, Option.getD_some] at hl
    constructor
    · intro e
      by_cases hc : cs.sum - (schK cs ps [] m).1[g]?.getD 0 ≤ (k : Int)
      · exact hc
      · exfalso
        obtain ⟨j, j1, j2, j3⟩ := other_pos h0 hgk (by rw [h.s]; omega)
        have h4 := bst_max (p := ps.set (goes cs ps [] m).toNat 0) j3
        rw [← stop_goes k hk, e, hg, Int.toNat_natCast, List.getElem?_set, List.getElem?_set, if_neg (fun h => j2 h.symm), if_pos rfl, if_pos (by omega), List.getElem?_eq_getElem (by rw [hlen]; rw [h.l1] at j1; exact j1)] at h4
        have := hp _ (List.getElem_mem (l := ps) (n := j) (by rw [hlen]; rw [h.l1] at j1; exact j1))
        simp at h4
        omega
    · intro hc
      by_cases e : goes cs ps [(m : Int)] k = (g : Int)
      · exact e
      · exfalso
        have hbk : (goes cs ps [(m : Int)] k).toNat < (schK cs ps [(m : Int)] k).1.length := by rw [h.l1]; omega
        have h5 := sum_two h0 hgk hbk (by omega)
        rw [List.getElem?_eq_getElem hbk, Option.getD_some] at b3
        rw [h.s] at h5
        omega
  intro k hk
  induction k with
  | zero =>
    intro hks
    obtain rfl : m = 0 := by omega
    have h0 := stop_same (cs := cs) (ps := ps) (m := 0) 0 (Nat.le_refl _)
    have h := schI_at (ps := ps) (chs := []) hv 0 (by omega)
    have hgk : g < (schK cs ps [] 0).1.length := by rw [h.l1]; exact hgl
    have h1 := le_sum (fun x hx => (h.v x hx).1) hgk
    rw [h.s] at h1
    have e : (schK cs ps [((0 : Nat) : Int)] 0).1[g]?.getD 0 = min ((schK cs ps [] 0).1[g]?.getD 0) (cs.sum - ((0 : Nat) : Int)) := by
      rw [h0, List.getElem?_eq_getElem hgk, Option.getD_some]; omega
    exact ⟨e, fun hs => hmain 0 (Nat.le_refl _) hs e⟩
  | succ k ih =>
    intro hks
    have e : (schK cs ps [(m : Int)] (k + 1)).1[g]?.getD 0 = min ((schK cs ps [] m).1[g]?.getD 0) (cs.sum - ((k + 1 : Nat) : Int)) := by
      by_cases em : m = k + 1
      · subst em
        have h0 := stop_same (cs := cs) (ps := ps) (m := k + 1) (k + 1) (Nat.le_refl _)
        have h := schI_at (ps := ps) (chs := []) hv (k + 1) (by omega)
        have hgk : g < (schK cs ps [] (k + 1)).1.length := by rw [h.l1]; exact hgl
        have h1 := le_sum (fun x hx => (h.v x hx).1) hgk
        rw [h.s] at h1
        rw [h0, List.getElem?_eq_getElem hgk, Option.getD_some]; omega
      · obtain ⟨h1, h2⟩ := ih (by omega) (by omega)
        have h2 := h2 (by omega)
        rw [left_get hv (by omega), h1]
        by_cases hc : goes cs ps [(m : Int)] k = (g : Int)
        · rw [if_pos hc.symm]
          have := h2.1 hc
          omega
        · rw [if_neg (fun h => hc h.symm)]
          have : ¬ _ := fun q => hc (h2.2 q)
          omega
    exact ⟨e, fun hs => hmain (k + 1) hk hs e⟩
end stop
/-- At the end nothing is left. -/
theorem left_end {cs ps chs : List Int} (hv : ∀ x ∈ cs, 0 ≤ x ∧ x ≤ 6) (h0 : 0 ≤ cs.sum) (t : Nat) : (schK cs ps chs cs.sum.toNat).1[t]?.getD 0 = 0 := by
  have h := schI_at (ps := ps) (chs := chs) hv cs.sum.toNat (by omega)
  by_cases ht : t < (schK cs ps chs cs.sum.toNat).1.length
  · have h1 := le_sum (fun x hx => (h.v x hx).1) ht
    have h2 := (h.v _ (List.getElem_mem ht)).1
    rw [h.s] at h1
    rw [List.getElem?_eq_getElem ht, Option.getD_some]
    omega
  · rw [List.getElem?_eq_none (by omega)]; rfl
/-! ### where a step of a thread lies -/
theorem cnt_succ (l : List Int) (t : Int) (k : Nat) : (l.take (k + 1)).count t = (l.take k).count t + if l[k]? = some t then 1 else 0 := by
  by_cases hk : k < l.length
  · rw [List.take_succ_eq_append_getElem hk, List.count_append, List.getElem?_eq_getElem hk]
    by_cases e : l[k] = t
    · simp [e]
    · simp [e]
  · rw [List.take_of_length_le (by omega), List.take_of_length_le (by omega), List.getElem?_eq_none (by omega)]
    simp
theorem cnt_mono (l : List Int) (t : Int) {j k : Nat} (h : j ≤ k) : (l.take j).count t ≤ (l.take k).count t := by
  induction k with
  | zero => obtain rfl : j = 0 := by omega
            exact Nat.le_refl _
  | succ k ih =>
    by_cases e : j = k + 1
    · subst e; exact Nat.le_refl _
    · have := ih (by omega); rw [cnt_succ]; omega
def isPl (l : List Int) (t s : Int) (k : Nat) : Bool := decide (l[k]? = some t ∧ ((l.take k).count t : Int) = s)
def plc (l : List Int) (t s : Int) : Nat := ((List.range l.length).find? (isPl l t s)).getD l.length
theorem isPl_iff {l : List Int} {t s : Int} {k : Nat} : isPl l t s k = true ↔ l[k]? = some t ∧ ((l.take k).count t : Int) = s := by simp [isPl]
theorem isPl_lt {l : List Int} {t s : Int} {k : Nat} (h : isPl l t s k = true) : k < l.length := by
  have := (isPl_iff.1 h).1
  exact (List.getElem?_eq_some_iff.1 this).1
theorem isPl_uniq {l : List Int} {t s : Int} {j k : Nat} (h1 : isPl l t s j = true) (h2 : isPl l t s k = true) : j = k := by
  have hlt : ∀ {j k : Nat}, isPl l t s j = true → isPl l t s k = true → ¬ j < k := fun {j k} h1 h2 h => by
    obtain ⟨a1, a2⟩ := isPl_iff.1 h1
    obtain ⟨b1, b2⟩ := isPl_iff.1 h2
    have := cnt_mono l t (j := j + 1) (k := k) h
    rw [cnt_succ, if_pos a1] at this
    omega
  have := hlt h1 h2
  have := hlt h2 h1
  omega
theorem plc_spec (l : List Int) (t s : Int) : (plc l t s < l.length ∧ isPl l t s (plc l t s) = true) ∨ (plc l t s = l.length ∧ ∀ k, isPl l t s k = false) := by
  unfold plc
  cases h : (List.range l.length).find? (isPl l t s) with
  | none =>
    refine .inr ⟨rfl, fun k => ?_⟩
    rw [List.find?_eq_none] at h
    cases hk : isPl l t s k
    · rfl
    · exact absurd hk (h k (by simpa using isPl_lt hk))
  | some k =>
    have := List.find?_some h
    exact .inl ⟨isPl_lt this, this⟩
theorem plc_eq {l : List Int} {t s : Int} {k : Nat} (h : isPl l t s k = true) : plc l t s = k := by
  rcases plc_spec l t s with ⟨_, h1⟩ | ⟨_, h1⟩
  · exact isPl_uniq h1 h
  · rw [h1 k] at h; cases h
theorem plc_le (l : List Int) (t s : Int) : plc l t s ≤ l.length := by
  rcases plc_spec l t s with ⟨h, _⟩ | ⟨h, _⟩ <;> omega
theorem has_place {l : List Int} {t s : Int} (h0 : 0 ≤ s) : ∀ n : Nat, s < ((l.take n).count t : Int) → ∃ k, isPl l t s k = true
  | 0, h => by simp at h; omega
  | n + 1, h => by
    by_cases h1 : s < ((l.take n).count t : Int)
    · exact has_place h0 n h1
    · rw [cnt_succ] at h
      by_cases e : l[n]? = some t
      · rw [if_pos e] at h
        exact ⟨n, isPl_iff.2 ⟨e, by omega⟩⟩
      · rw [if_neg e] at h; omega
theorem plc_gt {l : List Int} {t s : Int} {q : Nat} (h0 : 0 ≤ s) (hq : q < l.length) (hne : l[q]? ≠ some t) : q < plc l t s ↔ ((l.take q).count t : Int) ≤ s := by
  constructor
  · intro h
    rcases plc_spec l t s with ⟨_, h1⟩ | ⟨_, h1⟩
    · have := (isPl_iff.1 h1).2
      have := cnt_mono l t (Nat.le_of_lt h)
      omega
    · by_cases hc : ((l.take q).count t : Int) ≤ s
      · exact hc
      · obtain ⟨k, hk⟩ := has_place (l := l) (t := t) h0 q (by omega)
        rw [h1 k] at hk; cases hk
  · intro h
    rcases plc_spec l t s with ⟨h2, h1⟩ | ⟨h2, h1⟩
    · obtain ⟨a1, a2⟩ := isPl_iff.1 h1
      by_cases hc : q < plc l t s
      · exact hc
      · have : plc l t s ≠ q := fun e => hne (e ▸ a1)
        have := cnt_mono l t (j := plc l t s + 1) (k := q) (by omega)
        rw [cnt_succ, if_pos a1] at this
        omega
    · omega
def fnd (l : List Int) (i s j u : Int) : Bool := decide (plc l j u < l.length) && decide (((l.take (plc l j u)).count i : Int) = s)
def fndR (l : List Int) (i s j u : Int) : Bool := decide (plc l j u < plc l i s) && (decide (s = 0) || decide (plc l i (s - 1) < plc l j u))
theorem fnd_eq {l : List Int} {i s j u : Int} (h0 : 0 ≤ s) (hij : i ≠ j) : fnd l i s j u = fndR l i s j u := by
  unfold fnd fndR
  rcases plc_spec l j u with ⟨h2, h1⟩ | ⟨h2, h1⟩
  · obtain ⟨a1, a2⟩ := isPl_iff.1 h1
    have hne : l[plc l j u]? ≠ some i := by rw [a1]; exact fun e => hij (by cases e; rfl)
    have g1 := plc_gt (t := i) h0 h2 hne
    generalize plc l j u = q at *
    by_cases hs : s = 0
    · subst hs
      have : ((l.take q).count i : Int) ≤ 0 ↔ ((l.take q).count i : Int) = 0 := by omega
      rw [this] at g1
      simp [h2, g1]
    · have g2 := plc_gt (t := i) (s := s - 1) (by omega) h2 hne
      have g3 : plc l i (s - 1) ≠ q := by
        rcases plc_spec l i (s - 1) with ⟨_, h3⟩ | ⟨h3, _⟩
        · intro e; exact hne (e ▸ (isPl_iff.1 h3).1)
        · omega
      have e1 : decide (s = 0) = false := by simp [hs]
      have e2 : decide (q < l.length) = true := by simp [h2]
      rw [e1, e2, Bool.true_and, Bool.false_or, ← Bool.decide_and, decide_eq_decide]
      omega
  · have := plc_le l i s
    have e1 : decide (plc l j u < l.length) = false := by simp; omega
    have e2 : decide (plc l j u < plc l i s) = false := by simp; omega
    rw [e1, e2]; rfl
end Go.Proofs.Ytacfchepacfjnaa
