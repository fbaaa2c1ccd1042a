/- The odds that priorities and changes keep: plain laws. -/
import Derived.Test.YtacfchepacfjnaaOfI
import Derived.Test.YtacfchepacfjnaaOfF
set_option linter.unusedVariables false
set_option linter.unusedSimpArgs false
namespace Go.Proofs.Ytacfchepacfjnaa
open Go.RowKit Go.Kx Go.Maps Go.Sort Go.Shelf
/-- Thread i has the greatest priority. -/
def topP (m : Nat) (i : Nat) (o : List Int) : Bool := decide (o[i]?.getD 0 = (m : Int))
theorem tops (m : Nat) (hm : m ≤ 4) : ∀ i, i < m → (ords m (numL m)).countP (topP m i) * m = (ords m (numL m)).length := by
  have : ∀ m ∈ List.range 5, ∀ i ∈ List.range m, (ords m (numL m)).countP (topP m i) * m = (ords m (numL m)).length := by decide +kernel
  exact fun i hi => this m (by simp; omega) i (by simpa using hi)
theorem top_max (m : Nat) (hm : m ≤ 4) : ∀ o ∈ ords m (numL m), ∀ i, i < m → topP m i o = true → ∀ t, t < m → t ≠ i → o[t]?.getD 0 < o[i]?.getD 0 := by
  have : ∀ m ∈ List.range 5, ∀ o ∈ ords m (numL m), ∀ i ∈ List.range m, topP m i o = true → ∀ t ∈ List.range m, t ≠ i → o[t]?.getD 0 < o[i]?.getD 0 := by decide +kernel
  exact fun o ho i hi h t ht hne => this m (by simp; omega) o ho i (by simpa using hi) h t (by simpa using ht) hne
theorem countP_le_sum {α : Type} (P : α → Bool) (f : α → Nat) : ∀ (l : List α), (∀ x ∈ l, P x = true → 1 ≤ f x) → l.countP P ≤ (l.map f).sum
  | [], _ => by simp
  | x :: l, h => by
    have ih := countP_le_sum P f l (fun y hy => h y (by simp [hy]))
    rw [List.countP_cons, List.map_cons, List.sum_cons]
    by_cases hp : P x = true
    · have := h x (by simp) hp
      rw [if_pos hp]; omega
    · rw [if_neg hp]; omega
section
variable {cs o : List Int}
/-- The one with the greatest priority goes while it has steps. -/
theorem top_goes (hv : ∀ x ∈ cs, 0 ≤ x ∧ x ≤ 6) {i : Nat} (hi : i < cs.length) (hmax : ∀ t, t < cs.length → t ≠ i → o[t]?.getD 0 < o[i]?.getD 0) :
    ∀ k : Nat, (k : Int) < cs[i] → (schK cs o [] k).1[i]?.getD 0 = cs[i] - k ∧ goes cs o [] k = (i : Int) := by
  have hs : cs[i] ≤ cs.sum := le_sum (fun x hx => (hv x hx).1) hi
  have hgo : ∀ k : Nat, (k : Int) < cs[i] → (schK cs o [] k).1[i]?.getD 0 = cs[i] - k → goes cs o [] k = (i : Int) := by
    intro k hk hl
    obtain ⟨g1, g2, g3⟩ := goes_ok (ps := o) (chs := []) hv (k := k) (by omega)
    have h2 := bst_max (p := o) (l := (schK cs o [] k).1) (j := i) (by omega)
    rw [← goes_nil] at h2
    obtain ⟨g, hg⟩ := Int.eq_ofNat_of_zero_le g1
    rw [hg] at g2 h2 ⊢
    rw [Int.toNat_natCast] at h2
    by_cases e : g = i
    · rw [e]
    · have := hmax g (by omega) e
      omega
  intro k
  induction k with
  | zero =>
    intro hk
    have h0 : (schK cs o [] 0).1[i]?.getD 0 = cs[i] - ((0 : Nat) : Int) := by
      show cs[i]?.getD 0 = _
      rw [List.getElem?_eq_getElem hi, Option.getD_some]; simp
    exact ⟨h0, hgo 0 hk h0⟩
  | succ k ih =>
    intro hk
    obtain ⟨h1, h2⟩ := ih (by omega)
    have h3 := left_get (ps := o) (chs := []) hv (k := k) (by omega) i
    rw [h1, h2, if_pos rfl] at h3
    have h4 : (schK cs o [] (k + 1)).1[i]?.getD 0 = cs[i] - ((k + 1 : Nat) : Int) := by omega
    exact ⟨h4, hgo (k + 1) hk h4⟩
theorem sched_at (hv : ∀ x ∈ cs, 0 ≤ x ∧ x ≤ 6) (chs : List Int) {k : Nat} (hk : (k : Int) < cs.sum) : (sched cs o chs)[k]? = some (goes cs o chs k) :=
  out_at (ps := o) (chs := chs) hv (k := k) (n := cs.sum.toNat) (by omega) (by omega)
/-- Without a change: the one that must come first has the greatest priority. -/
theorem find_top (hv : 0 < tot cs) {i j u : Nat} (hj : j < cs.length) (hij : i ≠ j) (hu : (u : Int) < cs[j]) (hmax : ∀ t, t < cs.length → t ≠ j → o[t]?.getD 0 < o[j]?.getD 0) :
    fnd (sched cs o []) (i : Int) 0 (j : Int) (u : Int) = true := by
  obtain ⟨_, hm4, hvs, hts⟩ := tot_pos hv
  have hs : cs[j] ≤ cs.sum := le_sum (fun x hx => (hvs x hx).1) hj
  have hat : ∀ k : Nat, (k : Int) < cs[j] → (sched cs o [])[k]? = some (j : Int) := fun k hk => by
    rw [sched_at hvs [] (by omega), (top_goes hvs hj hmax k hk).2]
  have hc : ∀ q : Nat, (q : Int) ≤ cs[j] → ((sched cs o []).take q).count (j : Int) = q ∧ ((sched cs o []).take q).count (i : Int) = 0 := by
    intro q
    induction q with
    | zero => simp
    | succ q ih =>
      intro hq
      obtain ⟨h1, h2⟩ := ih (by omega)
      rw [cnt_succ, cnt_succ, hat q (by omega), h1, h2, if_pos rfl, if_neg (fun e => hij (by cases e; rfl))]
      exact ⟨rfl, rfl⟩
  have hp : isPl (sched cs o []) (j : Int) (u : Int) u = true := isPl_iff.2 ⟨hat u hu, by rw [(hc u (by omega)).1]⟩
  unfold fnd
  rw [plc_eq hp, (hc u (by omega)).2, decide_eq_true (isPl_lt hp)]
  rfl
/-- With one change: the one of the order goes first, and stops behind its step. -/
theorem find_one (hv : 0 < tot cs) (hp : ∀ x ∈ o, 0 < x) (hlen : o.length = cs.length) {i j u s : Nat} (hi : i < cs.length) (hj : j < cs.length) (hij : i ≠ j) (hs : (s : Int) < cs[i]) (hu : (u : Int) < cs[j]) (hmax : ∀ t, t < cs.length → t ≠ i → o[t]?.getD 0 < o[i]?.getD 0) :
    fnd (sched cs o [(s : Int)]) (i : Int) (s : Int) (j : Int) (u : Int) = true := by
  obtain ⟨_, hm4, hvs, hts⟩ := tot_pos hv
  have hsum : cs[i] ≤ cs.sum := le_sum (fun x hx => (hvs x hx).1) hi
  have htg := top_goes (o := o) hvs hi hmax
  have hst := stop_left (cs := cs) (ps := o) (m := s) hvs hlen hp (by omega)
  obtain ⟨t1, t2⟩ := htg s hs
  rw [t2, Int.toNat_natCast, t1] at hst
  have hL : ∀ k : Nat, (k : Int) < cs.sum → ((sched cs o [(s : Int)])[k]? = some (i : Int) ↔ k < s ∨ cs.sum - (cs[i] - s) ≤ (k : Int)) := by
    intro k hk
    rw [sched_at hvs _ hk]
    by_cases hks : k < s
    · rw [stop_goes_lt k hks, (htg k (by omega)).2]
      simp [hks]
    · have := ((hst k (by omega) (by omega)).2 hk)
      constructor
      · intro h
        exact .inr (this.1 (Option.some.inj h))
      · rintro (h | h)
        · exact absurd h hks
        · rw [this.2 h]
  have hstp := sched_stp (cs := cs) (p := o) (chs := [(s : Int)]) hv
  have hcj := stp_cnt hstp hj
  obtain ⟨q, hq⟩ := has_place (l := sched cs o [(s : Int)]) (t := (j : Int)) (s := (u : Int)) (by omega) (sched cs o [(s : Int)]).length (by rw [List.take_length]; omega)
  have hql := isPl_lt hq
  have hlenL := sched_len (cs := cs) (ps := o) (chs := [(s : Int)]) hv
  have hqj := (isPl_iff.1 hq).1
  have hnq : ¬ (q < s ∨ cs.sum - (cs[i] - s) ≤ (q : Int)) := fun h => by
    have := (hL q (by omega)).2 h
    rw [hqj] at this
    exact hij (by cases this; rfl)
  have hc : ∀ r : Nat, (r : Int) ≤ cs.sum - (cs[i] - s) → ((sched cs o [(s : Int)]).take r).count (i : Int) = min r s := by
    intro r
    induction r with
    | zero => simp
    | succ r ih =>
      intro hr
      rw [cnt_succ, ih (by omega)]
      have h2 := hL r (by omega)
      by_cases h : r < s
      · rw [if_pos (h2.2 (.inl h))]; omega
      · rw [if_neg (fun e => by have := h2.1 e; omega)]; omega
  unfold fnd
  rw [plc_eq hq, decide_eq_true hql, hc q (by omega)]
  simp; omega
end
/-- Where one step is left, the priorities do not matter. -/
theorem bst_one {l p p' : List Int} (h0 : ∀ x ∈ l, 0 ≤ x) (h : l.sum = 1) : bst l p = bst l p' := by
  obtain ⟨a1, a2⟩ := bst_ok (l := l) p h0 (by omega)
  obtain ⟨b1, b2⟩ := bst_ok (l := l) p' h0 (by omega)
  have a3 := bstK_has (l := l) (p := p) l.length a1
  have b3 := bstK_has (l := l) (p := p') l.length b1
  by_cases e : bst l p = bst l p'
  · exact e
  · exfalso
    have ha : (bst l p).toNat < l.length := by omega
    have hb : (bst l p').toNat < l.length := by omega
    have := sum_two h0 ha hb (by omega)
    change 0 < l[(bst l p).toNat]?.getD 0 at a3
    change 0 < l[(bst l p').toNat]?.getD 0 at b3
    rw [List.getElem?_eq_getElem ha, Option.getD_some] at a3
    rw [List.getElem?_eq_getElem hb, Option.getD_some] at b3
    omega
theorem sched_two_one {cs o : List Int} (hv : 0 < tot cs) {s : Nat} (hs : (s : Int) + 1 < cs.sum) : sched cs o [(s : Int), cs.sum - 1] = sched cs o [(s : Int)] := by
  obtain ⟨_, hm4, hvs, hts⟩ := tot_pos hv
  obtain ⟨K, hK⟩ : ∃ K : Nat, cs.sum = (K : Int) + 1 := ⟨(cs.sum - 1).toNat, by omega⟩
  have hsame : ∀ k : Nat, k ≤ K → schK cs o [(s : Int), cs.sum - 1] k = schK cs o [(s : Int)] k := by
    intro k
    induction k with
    | zero => intro _; rfl
    | succ k ih =>
      intro hk
      rw [schK_succ, schK_succ, ih (by omega)]
      have e : ∀ L N, chgK (k : Int) L [(s : Int), cs.sum - 1] N 2 = chgK (k : Int) L [(s : Int)] N 1 := by
        intro L N
        show (if (some (cs.sum - 1)).getD 0 = (k : Int) then _ else _) = _
        rw [if_neg (by simp only [Option.getD_some]; omega)]
        rfl
      unfold schStep
      show (_, _, _) = (_, _, _)
      rw [show ([(s : Int), cs.sum - 1] : List Int).length = 2 from rfl, show ([(s : Int)] : List Int).length = 1 from rfl, e]
  have hI := schI_at (ps := o) (chs := [(s : Int)]) hvs K (by omega)
  unfold sched
  rw [show cs.sum.toNat = K + 1 by omega, schK_succ, schK_succ, hsame K (Nat.le_refl _), schStep_out, schStep_out]
  congr 2
  exact bst_one (fun x hx => (hI.v x hx).1) (by rw [hI.s]; omega)
/-- P26.3. -/
theorem kept_law {cs : List Int} (hv : 0 < tot cs) {i s j u dn : Nat} (hd : dn ≤ 2) (hb : bugB cs (i : Int) (s : Int) (j : Int) (u : Int) = true) (h0 : ¬ (dn = 0 ∧ 0 < s)) :
    (ords cs.length (numL cs.length)).length * (lsts dn (tot cs).toNat).length ≤ hitN cs i s j u (ords cs.length (numL cs.length)) (lsts dn (tot cs).toNat) * (cs.length * (tot cs).toNat ^ dn) := by
  obtain ⟨hm1, hm4, hvs, hts⟩ := tot_pos hv
  obtain ⟨_, hi, _, hj, hij, _, hs, _, hu⟩ := bugB_ok hb
  have hi' : i < cs.length := by omega
  have hj' : j < cs.length := by omega
  have hij' : i ≠ j := by omega
  rw [Int.toNat_natCast, List.getElem?_eq_getElem hi', Option.getD_some] at hs
  rw [Int.toNat_natCast, List.getElem?_eq_getElem hj', Option.getD_some] at hu
  have hsum2 := sum_two (fun x hx => (hvs x hx).1) hi' hj' hij'
  have hmain : ∃ t, t < cs.length ∧ ∀ o ∈ ords cs.length (numL cs.length), topP cs.length t o = true → 1 ≤ hitO cs i s j u (lsts dn (tot cs).toNat) o := by
    have hpos : ∀ o (l : List Int), l ∈ lsts dn (tot cs).toNat → fnd (sched cs o l) i s j u = true → 1 ≤ hitO cs i s j u (lsts dn (tot cs).toNat) o := fun o l hl hf => List.countP_pos_iff.2 ⟨l, hl, hf⟩
    have hT : (((tot cs).toNat : Nat) : Int) = cs.sum := by omega
    match dn, hd, h0 with
    | 0, _, h0 =>
      obtain rfl : s = 0 := by omega
      exact ⟨j, hj', fun o ho ht => hpos o [] (by simp [lsts]) (find_top hv hj' hij' hu (top_max cs.length hm4 o ho j hj' ht))⟩
    | 1, _, _ =>
      refine ⟨i, hi', fun o ho ht => ?_⟩
      obtain ⟨o1, _, _, o5⟩ := ords_ok cs.length hm4 o ho
      refine hpos o [(s : Int)] ?_ (find_one hv o5 o1 hi' hj' hij' hs hu (top_max cs.length hm4 o ho i hi' ht))
      show _ ∈ (List.range _).flatMap _
      exact List.mem_flatMap.2 ⟨s, by simp; omega, by simp [lsts]⟩
    | 2, _, _ =>
      refine ⟨i, hi', fun o ho ht => ?_⟩
      obtain ⟨o1, _, _, o5⟩ := ords_ok cs.length hm4 o ho
      refine hpos o [(s : Int), cs.sum - 1] ?_ (by rw [sched_two_one hv (by omega)]; exact find_one hv o5 o1 hi' hj' hij' hs hu (top_max cs.length hm4 o ho i hi' ht))
      show _ ∈ (List.range _).flatMap _
      refine List.mem_flatMap.2 ⟨s, by simp; omega, List.mem_map.2 ⟨[cs.sum - 1], ?_, rfl⟩⟩
      show _ ∈ (List.range _).flatMap _
      refine List.mem_flatMap.2 ⟨(tot cs).toNat - 1, by simp; omega, ?_⟩
      have e : cs.sum - 1 = Int.ofNat ((tot cs).toNat - 1) := by simp; omega
      rw [e]
      simp [lsts]
  obtain ⟨t, ht, hm⟩ := hmain
  have h1 := countP_le_sum (topP cs.length t) (hitO cs i s j u (lsts dn (tot cs).toNat)) _ hm
  have h2 := tops cs.length hm4 t ht
  rw [lsts_len]
  unfold hitN
  rw [← h2, ← Nat.mul_assoc]
  exact Nat.mul_le_mul_right _ (Nat.mul_le_mul_right _ h1)
end Go.Proofs.Ytacfchepacfjnaa
