/- Where no two cells share a line nothing is false, and no line is shared: plain lists. -/
import Derived.Test.YtabplbalacldfaaLtH
import Derived.Test.YtabplbalacldfaaLAloneLaw
set_option linter.unusedVariables false
set_option linter.unusedSimpArgs false
namespace Go.Proofs.Ytabplbalacldfaa
open Go.RowKit Go.Kx
def Sep (size : Int) (l : List A3) : Prop := ∀ a ∈ l, ∀ b ∈ l, a.2.1 / size = b.2.1 / size → a.2.1 = b.2.1
theorem sep_one (l : List A3) : Sep 1 l := by
  intro a _ b _ h
  simpa using h
theorem sep_pad (size : Int) (l : List A3) (h1 : 1 ≤ size) : Sep size (padOf size l) := by
  intro a ha b hb h
  unfold padOf at ha hb
  obtain ⟨a0, _, rfl⟩ := List.mem_map.1 ha
  obtain ⟨b0, _, rfl⟩ := List.mem_map.1 hb
  dsimp only at h ⊢
  rw [Int.mul_ediv_cancel _ (by omega), Int.mul_ediv_cancel _ (by omega)] at h
  rw [h]
theorem shr_sep {size : Int} {l : List A3} (h : Sep size l) : shr size l = [] := by
  rw [List.eq_nil_iff_forall_not_mem]
  intro q hq
  obtain ⟨⟨a, ha, b, hb, h1, _⟩, _⟩ := (shr_mem size l q).1 hq
  have := h a ha b hb (apartB_line h1)
  simp [apartB, this] at h1
structure Jx (X : Copy) (c : Int) : Prop where
  n1 : X.wasHere = true → X.here = false → c ∈ X.others
  n2 : X.here = true → X.own = false → X.wasOwn = true → c ∈ X.others
theorem Jx.mine {X : Copy} {c : Int} (h : Jx X c) (w : Bool) : Jx (X.mine w) c := by
  refine ⟨fun _ h2 => by simp [Copy.mine] at h2, fun _ h2 h3 => ?_⟩
  simp only [Copy.mine, Bool.or_eq_false_iff] at h2 h3
  rw [h2.2] at h3
  simp at h3
  exact h.n2 h3.1 h2.1 h3.2
theorem Jx.sees {X : Copy} {c : Int} (h : Jx X c) (w : Bool) : Jx (X.sees c w) c := by
  obtain ⟨here, own, wasHere, wasOwn, listens, others⟩ := X
  have hadd : ∀ l : List Int, ∀ x, x ∈ l ∨ x = c → x ∈ (if c ∈ l then l else l ++ [c]) := fun l x hx => by
    by_cases hc : c ∈ l
    · rw [if_pos hc]; exact hx.elim id (fun e => e ▸ hc)
    · rw [if_neg hc]; exact List.mem_append.2 (hx.imp id (fun e => by simp [e]))
  have n1 := h.n1
  have n2 := h.n2
  dsimp only at n1 n2
  cases here <;> cases own <;> cases w <;> cases listens <;> refine ⟨fun h1 h2 => ?_, fun h1 h2 h3 => ?_⟩
  all_goals simp [Copy.sees, Copy.lost, Copy.add] at *
  all_goals first | done | (apply hadd; simp_all; done) | (simp_all; done) | (apply hadd; simp; done)
theorem jx_acc {xs : Nat → Copy} {t : Nat} {c : Int} {w : Bool} (h : ∀ i, Jx (xs i) c) (i : Nat) : Jx (accessed xs t c w i) c := by
  unfold accessed
  split
  · exact (h t).mine w
  · exact (h i).sees w
theorem jx_wrong {X : Copy} {c : Int} (h : Jx X c) (w : Bool) : X.wrong c w = false := by
  unfold Copy.wrong
  by_cases hc : c ∈ X.others
  · simp [hc]
  · have a1 : (!X.here && X.wasHere) = false := by
      cases h1 : X.here <;> cases h2 : X.wasHere <;> simp
      exact hc (h.n1 h2 h1)
    have a2 : (X.here && w && !X.own && X.wasOwn) = false := by
      cases h1 : X.here <;> cases h2 : X.own <;> cases h3 : X.wasOwn <;> cases w <;> simp
      exact hc (h.n2 h1 h2 h3)
    rw [a1, a2]; simp
theorem jx_fold {size : Int} {L : List A3} (hS : Sep size L) : ∀ (l : List A3), (∀ a ∈ l, a ∈ L) → ∀ (st : St), (∀ b ∈ L, ∀ i, Jx (st (b.2.1 / size) i) b.2.1) → ∀ b ∈ L, ∀ i, Jx (l.foldl (stepSt size) st (b.2.1 / size) i) b.2.1
  | [], _, st, h, b, hb, i => h b hb i
  | a :: l, hl, st, h, b, hb, i => by
    simp only [List.foldl_cons]
    refine jx_fold hS l (fun x hx => hl x (by simp [hx])) (stepSt size st a) (fun b hb i => ?_) b hb i
    unfold stepSt
    split
    · next e =>
      have ha := hl a (by simp)
      have ec := hS b hb a ha e
      rw [e, ec]
      exact jx_acc (fun i => h a ha i) i
    · exact h b hb i
theorem cnt_sep {size : Int} {l : List A3} (hS : Sep size l) (t : Nat) : ∀ k, k ≤ l.length → cnt (tg size (l.take k)) t 3 = 0 := by
  intro k
  induction k with
  | zero => intro _; rfl
  | succ k ih =>
    intro hk
    obtain ⟨a, ha⟩ : ∃ a, l[k]? = some a := ⟨l[k]'(by omega), by simp⟩
    have hm := List.mem_of_getElem? ha
    have hwg : wgOf size ((l.take k).foldl (stepSt size) st0) a = false := by
      unfold wgOf
      exact jx_wrong (jx_fold hS (l.take k) (fun x hx => List.mem_of_mem_take hx) st0 (fun b _ i => ⟨fun h _ => by simp [st0, freshCopy] at h, fun h _ _ => by simp [st0, freshCopy] at h⟩) a hm _) _
    rw [take_snoc ha, tg_snoc, cnt_snoc, ih (by omega), hwg]
    simp [inc]
theorem cnt_sep_all {size : Int} {l : List A3} (hS : Sep size l) (t : Nat) : cnt (tg size l) t 3 = 0 := by
  have := cnt_sep hS t l.length (Nat.le_refl _)
  rwa [List.take_length] at this
end Go.Proofs.Ytabplbalacldfaa
