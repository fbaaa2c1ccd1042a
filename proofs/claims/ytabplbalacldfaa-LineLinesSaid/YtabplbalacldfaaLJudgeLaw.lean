/- What the reference judges of an access is what the program plays. Plain lists, no program. -/
import Derived.Test.YtabplbalacldfaaLJudge
set_option linter.unusedVariables false
set_option linter.unusedSimpArgs false
namespace Go.Proofs.Ytabplbalacldfaa
open Go.RowKit Go.Kx
/-- A copy in the program's cache, and the mark that the reference makes. -/
structure Rel (size t n : Int) (l : List A3) (k : Nat) (X : Copy) (m : Mark) : Prop where
  here : X.here = m.inn
  own : X.own = m.own
  oi : m.own = true → m.inn = true
  wasHere : X.wasHere = (m.inn || decide (0 ≤ m.lost))
  wasOwn : m.inn = true → X.wasOwn = m.had
  had : m.inn = true → m.had = (m.own || decide (0 ≤ m.lost))
  listens : X.listens = decide (0 ≤ m.lost)
  oth : 0 ≤ m.lost → ∀ c, c / size = n → (c ∈ X.others ↔ ((l.take k).drop m.lost.toNat).any (hitBy (t, c, 0)) = true)
  lt : m.lost < k
  no : m.own = true → m.lost < 0
theorem hits_snoc {l : List A3} {k p : Nat} {a : A3} (h : l[k]? = some a) (hp : p ≤ k) (x : A3) : ((l.take (k + 1)).drop p).any (hitBy x) = (((l.take k).drop p).any (hitBy x) || hitBy x a) := by
  have hk : k < l.length := (List.getElem?_eq_some_iff.1 h).1
  rw [take_snoc h, List.drop_append_of_le_length (by rw [List.length_take]; omega)]
  simp
theorem Copy.add_mem (X : Copy) (q c : Int) : c ∈ (X.add q).others ↔ c ∈ X.others ∨ c = q := by
  unfold Copy.add
  dsimp only
  split
  · constructor
    · exact .inl
    · rintro (h | rfl)
      · exact h
      · assumption
  · simp
theorem Rel.step {size t n : Int} {l : List A3} {k : Nat} {X : Copy} {m : Mark} {x y z : Int} (h : Rel size t n l k X m) (ha : l[k]? = some (x, y, z)) (hz : z = 0 ∨ z = 1) :
    Rel size t n l (k + 1) (if y / size = n then (if x = t then X.mine (z == 1) else X.sees y (z == 1)) else X) (markStep size t n m k (x, y, z)) := by
  obtain ⟨inn, own, had, lost⟩ := m
  obtain ⟨xh, xo, xwh, xwo, xl, xot⟩ := X
  obtain ⟨h1, h2, h3, h4, h5, h6, h7, h8, h9, h10⟩ := h
  dsimp only at h1 h2 h3 h4 h5 h6 h7 h8 h9 h10
  subst h1 h2 h4 h7
  have hp : 0 ≤ lost → lost.toNat ≤ k := by omega
  by_cases hn : y / size = n
  · by_cases ht : x = t
    · have keep : 0 ≤ lost → ∀ c, c / size = n → (c ∈ xot ↔ ((l.take (k + 1)).drop lost.toNat).any (hitBy (t, c, 0)) = true) := fun hl c hc => by
        rw [hits_snoc ha (hp hl), h8 hl c hc]; simp [hitBy, ht]
      rcases hz with rfl | rfl
      · cases hi : xh
        · subst hi
          have ho : xo = false := by cases xo <;> simp_all
          subst ho
          simp only [hn, ht, markStep, if_true, Copy.mine, Copy.moves]
          constructor <;> simp <;> omega
        · subst hi
          simp only [hn, ht, markStep, if_true, Copy.mine, Copy.moves]
          have hw := h5 rfl
          have hh := h6 rfl
          subst hw
          cases hxo : xo
          · subst hxo
            constructor <;> simp_all <;> omega
          · subst hxo
            constructor <;> simp_all <;> omega
      · simp only [hn, ht, markStep, if_true, Copy.mine, Copy.moves]
        constructor <;> simp <;> omega
    · have hh1 : ∀ c, hitBy (t, c, 0) (x, y, z) = true ↔ c = y := fun c => by
        simp only [hitBy, Bool.and_eq_true, bne_iff_ne, beq_iff_eq]; exact ⟨fun h => h.2.symm, fun h => ⟨ht, h.symm⟩⟩
      have keep : 0 ≤ lost → ∀ c, c / size = n → ((c ∈ xot ∨ c = y) ↔ ((l.take (k + 1)).drop lost.toNat).any (hitBy (t, c, 0)) = true) := fun hl c hc => by
        rw [hits_snoc ha (hp hl), Bool.or_eq_true, ← h8 hl c hc, hh1]
      have anew : ∀ c, ((l.take (k + 1)).drop ((k : Int)).toNat).any (hitBy (t, c, 0)) = true ↔ c = y := fun c => by
        rw [Int.toNat_natCast, hits_snoc ha (Nat.le_refl _), List.drop_eq_nil_of_le (by rw [List.length_take]; omega), List.any_nil, Bool.false_or, hh1]
      have stay : Rel size t n l (k + 1) (if decide (0 ≤ lost) then Copy.add ⟨xh, xo, xh || decide (0 ≤ lost), xwo, decide (0 ≤ lost), xot⟩ y else ⟨xh, xo, xh || decide (0 ≤ lost), xwo, decide (0 ≤ lost), xot⟩) ⟨xh, xo, had, lost⟩ := by
        by_cases hl : 0 ≤ lost
        · rw [if_pos (by simpa using hl)]
          exact ⟨rfl, rfl, h3, rfl, h5, h6, rfl, fun _ c hc => (Copy.add_mem _ _ _).trans (keep hl c hc), by show lost < ((k + 1 : Nat) : Int); omega, h10⟩
        · rw [if_neg (by simpa using hl)]
          exact ⟨rfl, rfl, h3, rfl, h5, h6, rfl, fun h => absurd h hl, by show lost < ((k + 1 : Nat) : Int); omega, h10⟩
      have hk0 : (0 : Int) ≤ (k : Int) := by omega
      simp only [if_pos hn, if_neg ht, markStep]
      rcases hz with rfl | rfl
      · cases hxo : xo
        · subst hxo
          simpa [Copy.sees] using stay
        · subst hxo
          have hi := h3 rfl
          subst hi
          have hh := h6 rfl
          simp only [Bool.true_or] at hh
          subst hh
          have hw := h5 rfl
          subst hw
          show Rel size t n l (k + 1) (Copy.add ⟨true, false, true, true, true, []⟩ y) ⟨true, false, true, k⟩
          refine Rel.mk rfl rfl (fun h => by cases h) rfl (fun _ => rfl) (fun _ => by simp) (by simp [Copy.add]) (fun _ c hc => ?_) (by show (k : Int) < ((k + 1 : Nat) : Int); omega) (fun h => by cases h)
          refine (Copy.add_mem _ _ _).trans ?_
          rw [anew]; simp
      · cases hxh : xh
        · subst hxh
          have ho : xo = false := by cases xo <;> simp_all
          subst ho
          simpa [Copy.sees] using stay
        · subst hxh
          show Rel size t n l (k + 1) (Copy.add ⟨false, false, true, xwo, true, []⟩ y) ⟨false, false, had, k⟩
          refine Rel.mk rfl rfl (fun h => by cases h) (by simp [Copy.add]) (fun h => by cases h) (fun h => by cases h) (by simp [Copy.add]) (fun _ c hc => ?_) (by show (k : Int) < ((k + 1 : Nat) : Int); omega) (fun h => by cases h)
          refine (Copy.add_mem _ _ _).trans ?_
          rw [anew]; simp
  · have keep : 0 ≤ lost → ∀ c, c / size = n → (c ∈ xot ↔ ((l.take (k + 1)).drop lost.toNat).any (hitBy (t, c, 0)) = true) := fun hl c hc => by
      have hyc : ¬ y = c := by rintro rfl; exact hn hc
      rw [hits_snoc ha (hp hl), h8 hl c hc]; simp [hitBy, hyc]
    simp only [if_neg hn, markStep]
    exact ⟨rfl, rfl, h3, rfl, h5, h6, rfl, keep, by show lost < ((k + 1 : Nat) : Int); omega, h10⟩
theorem rel0 (size t n : Int) (l : List A3) : Rel size t n l 0 freshCopy mark0 := by
  constructor <;> simp [freshCopy, mark0]
theorem rel_at {size n : Int} {l : List A3} {t : Nat} (hok : ∀ x ∈ l, bad x = false) : ∀ k, k ≤ l.length → Rel size t n l k ((l.take k).foldl (stepSt size) st0 n t) (marks size t n l k) := by
  intro k
  induction k with
  | zero => intro _; exact rel0 _ _ _ _
  | succ k ih =>
    intro hk
    obtain ⟨⟨x, y, z⟩, hx⟩ : ∃ x, l[k]? = some x := ⟨l[k]'(by omega), by simp⟩
    have hb := hok _ (List.mem_of_getElem? hx)
    simp [bad] at hb
    have h := (ih (by omega)).step hx (by omega)
    have em : marks size t n l (k + 1) = markStep size t n (marks size t n l k) k (x, y, z) := by
      show (match l[k]? with | some a => markStep size t n (marks size t n l k) k a | none => _) = _
      rw [hx]
    rw [em]
    refine Eq.mp ?_ h
    congr 1
    rw [take_snoc hx, List.foldl_append]
    simp only [List.foldl_cons, List.foldl_nil, stepSt]
    by_cases hn : y / size = n
    · subst hn
      rw [if_pos rfl, if_pos rfl]
      unfold accessed
      by_cases ht : x = t
      · subst ht
        simp
      · have : ¬ t = x.toNat := by omega
        rw [if_neg ht, if_neg this]
    · rw [if_neg hn, if_neg (fun e => hn e.symm)]
theorem judge_eq {size : Int} {l : List A3} (hok : ∀ x ∈ l, bad x = false) {k : Nat} {x : A3} (hx : l[k]? = some x) :
    (outs size l st0)[k]? = some (judgeOf size l k x) := by
  have hk : k < l.length := (List.getElem?_eq_some_iff.1 hx).1
  have e : l = l.take k ++ (x :: l.drop (k + 1)) := by
    have := List.drop_eq_getElem_cons hk
    rw [List.getElem?_eq_getElem hk] at hx
    cases hx
    rw [← this, List.take_append_drop]
  have hb := hok _ (List.mem_of_getElem? hx)
  obtain ⟨t, cl, z⟩ := x
  simp [bad] at hb
  obtain ⟨⟨⟨⟨⟨b1, b2⟩, b3⟩, b4⟩, b5⟩, b6⟩ := hb
  obtain ⟨t, rfl⟩ := Int.eq_ofNat_of_zero_le b1
  have hrel := rel_at (size := size) (n := cl / size) (t := t) hok k (by omega)
  have eo : (outs size l st0)[k]? = some (mvOf size ((l.take k).foldl (stepSt size) st0) (t, cl, z), wgOf size ((l.take k).foldl (stepSt size) st0) (t, cl, z)) := by
    conv => lhs; rw [e]
    rw [outs_append, List.getElem?_append_right (by rw [outs_length, List.length_take]; omega)]
    rw [outs_length, List.length_take, show k - min k l.length = 0 by omega]
    rfl
  rw [eo]
  congr 1
  unfold mvOf wgOf judgeOf
  dsimp only
  rw [Int.toNat_natCast]
  generalize hX : (l.take k).foldl (stepSt size) st0 (cl / size) t = X at hrel
  generalize hM : marks size t (cl / size) l k = M at hrel
  obtain ⟨h1, h2, h3, h4, h5, h6, h7, h8, h9, h10⟩ := hrel
  have h8' : 0 ≤ M.lost → decide (cl ∈ X.others) = ((l.take k).drop M.lost.toNat).any (hitBy (t, cl, z)) := fun hl => by
    have := h8 hl cl rfl
    rw [Bool.eq_iff_iff]; simpa [hitBy] using this
  unfold Copy.wrong Copy.moves
  rw [h1, h2, h4]
  rcases (show z = 0 ∨ z = 1 by omega) with rfl | rfl
  · by_cases hl : 0 ≤ M.lost
    · rw [h8' hl]
      have hl2 : ¬ M.lost < 0 := by omega
      cases hi : M.inn <;> simp [hl, hl2]
    · have hl2 : M.lost < 0 := by omega
      cases hi : M.inn <;> simp [hl, hl2]
  · by_cases hl : 0 ≤ M.lost
    · rw [h8' hl]
      have hl2 : ¬ M.lost < 0 := by omega
      cases hi : M.inn
      · have ho : M.own = false := by
          cases ho : M.own
          · rfl
          · exact absurd (h3 ho) (by rw [hi]; decide)
        simp [hl, hl2, ho]
      · have e5 := h5 hi
        have e6 := h6 hi
        rw [e5, e6]
        cases ho : M.own <;> simp [hl, hl2]
    · have hl2 : M.lost < 0 := by omega
      cases hi : M.inn
      · have ho : M.own = false := by
          cases ho : M.own
          · rfl
          · exact absurd (h3 ho) (by rw [hi]; decide)
        simp [hl, hl2, ho]
      · have e5 := h5 hi
        have e6 := h6 hi
        rw [e5, e6]
        cases ho : M.own <;> simp [hl, hl2]
end Go.Proofs.Ytabplbalacldfaa
