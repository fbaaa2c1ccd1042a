/- The contract of the statements' own, for every list of at most 300 accesses that memory holds. -/
import Derived.Test.YtabplbalacldfaaLSane
import Derived.Test.YtabplbalacldfaaKxC
set_option linter.unusedVariables false
set_option linter.unusedSimpArgs false
namespace Go.Proofs.Ytabplbalacldfaa
open Go.RowKit Go.Kx
def accCells (l : List A3) : List Value := l.flatMap fun x => [.int .i64 x.1, .int .i64 x.2.1, .int .i64 x.2.2]
theorem accCells_length (l : List A3) : (accCells l).length = l.length * 3 := by
  induction l with
  | nil => rfl
  | cons a l ih => simp [accCells] at ih ⊢; omega
theorem accCells_append (l m : List A3) : accCells (l ++ m) = accCells l ++ accCells m := by simp [accCells]
theorem accCells_get (l : List A3) : ∀ (i : Nat) (x : A3), l[i]? = some x → (accCells l)[i * 3]? = some (.int .i64 x.1) ∧ (accCells l)[i * 3 + 1]? = some (.int .i64 x.2.1) ∧ (accCells l)[i * 3 + 2]? = some (.int .i64 x.2.2) := by
  induction l with
  | nil => intro i x h; simp at h
  | cons a l ih =>
    intro i x h
    cases i with
    | zero =>
      have : a = x := by simpa using h
      subst this
      simp [accCells]
    | succ i =>
      have := ih i x (by simpa using h)
      have e : accCells (a :: l) = [.int .i64 a.1, .int .i64 a.2.1, .int .i64 a.2.2] ++ accCells l := by simp [accCells]
      rw [e]
      refine ⟨?_, ?_, ?_⟩
      · rw [List.getElem?_append_right (by simp; omega)]; rw [← this.1]; congr 1; simp; omega
      · rw [List.getElem?_append_right (by simp; omega)]; rw [← this.2.1]; congr 1; simp; omega
      · rw [List.getElem?_append_right (by simp; omega)]; rw [← this.2.2]; congr 1; simp; omega
theorem accCells_one (l : List A3) : ∀ u ∈ accCells l, u.oneCell' = true := by
  intro u hu
  simp only [accCells, List.mem_flatMap, List.mem_cons, List.not_mem_nil, or_false] at hu
  obtain ⟨x, _, rfl | rfl | rfl⟩ := hu <;> rfl
theorem AccAt.cells {w : World} {b off : Nat} {l : List A3} (h : AccAt w b off l) : ∀ j u, (accCells l)[j]? = some u → w.cell? ((⟨b, off, none⟩ : Addr).add j) = some u := by
  intro j u hu
  have hj : j < l.length * 3 := by have := (List.getElem?_eq_some_iff.1 hu).1; rwa [accCells_length] at this
  have hx : l[j / 3]? = some (l[j / 3]'(by omega)) := by simp
  generalize l[j / 3]'(by omega) = x at hx
  have h3 := h _ _ hx
  have h4 := accCells_get l _ _ hx
  rw [Addr.add_lit]
  have hm : j % 3 = 0 ∨ j % 3 = 1 ∨ j % 3 = 2 := by omega
  rcases hm with hm | hm | hm
  · have e : j = j / 3 * 3 := by omega
    rw [e, h4.1] at hu
    cases hu
    rw [e]; simpa using h3.1
  · have e : j = j / 3 * 3 + 1 := by omega
    rw [e, h4.2.1] at hu
    cases hu
    rw [e]
    have := h3.2.1
    simpa [Nat.add_assoc, show (j / 3 * 3 + 1) / 3 = j / 3 by omega] using this
  · have e : j = j / 3 * 3 + 2 := by omega
    rw [e, h4.2.2] at hu
    cases hu
    rw [e]
    have := h3.2.2
    simpa [Nat.add_assoc, show (j / 3 * 3 + 2) / 3 = j / 3 by omega] using this
theorem acc_owns {w : World} {base : Nat} {v : Value} {l : List A3} (h : w.ownsRow base 24 3 v l.length (accCells l)) : ∃ A cap, v = .slice A l.length cap ∧ Acc w A l ∧ (A = none → cap = 0) := by
  rcases h.2 with ⟨rfl, h1⟩ | ⟨g, cap, cur, rfl, hb, hg, h1, h2, h3, h4⟩
  · exact ⟨none, 0, by rw [h1], .inl (List.eq_nil_of_length_eq_zero h1), fun _ => rfl⟩
  · refine ⟨_, cap, rfl, .inr ⟨g, 0, rfl, fun i x hx => ?_⟩, fun h => by cases h⟩
    rw [blk_cell hg, blk_cell hg, blk_cell hg]
    have hi : i < l.length := (List.getElem?_eq_some_iff.1 hx).1
    obtain ⟨e0, e1, e2⟩ := accCells_get l i x hx
    rw [← h4, List.getElem?_take, if_pos (by omega)] at e0 e1 e2
    simp only [Nat.zero_add]
    exact ⟨by simpa using e0, by simpa using e1, by simpa using e2⟩
theorem info24 : (Try.prog.info? 24).map (fun i => (i.zero, i.size, i.bytes)) = some (some (.agg #[.int .i64 0, .int .i64 0, .int .i64 0]), 3, 24) := by kernel_rfl
/-- A slice argument of accesses. -/
structure Arg (w : World) (A : Option Addr) (l : List A3) (cap : Nat) : Prop where
  acc : Acc w A l
  none : A = none → cap = 0 ∧ l = []
theorem Arg.grow {w w' : World} {A : Option Addr} {l : List A3} {cap : Nat} (h : Arg w A l cap) (hg : Grow w w') : Arg w' A l cap := ⟨h.acc.grow hg, h.none⟩
theorem Arg.cells {w : World} {A : Option Addr} {l : List A3} {cap : Nat} (h : Arg w A l cap) : ∀ ad, A = some ad → ∀ j u, (accCells l)[j]? = some u → w.cell? (ad.add j) = some u := by
  intro ad hA j u hu
  rcases h.acc with rfl | ⟨b, off, h1, h2⟩
  · simp [accCells] at hu
  · rw [hA] at h1; cases h1; exact h2.cells j u hu
def OwnP (w : World) (l : List A3) (e : Ending) (w' : World) : Prop := ∃ v, e = .returned v ∧ w'.ownsRow w.heap.size 24 3 v l.length (accCells l) ∧ Grow w w'
theorem own_any (w : World) (A : Option Addr) (l : List A3) (cap : Nat) (hA : Arg w A l cap) (hn : l.length ≤ 300) :
    Calls Try.prog 11 #[.slice A l.length cap] w (OwnP w l) := by
  refine cph fun R HR => ?_
  have HA := Lib.hid hA
  have hl : Hid ((accCells l).length = l.length * 3) := accCells_length l
  have hn63 : Hid (0 + l.length ≤ maxLen) := by show _ ≤ _; unfold maxLen; omega
  clear hA
  obtain ⟨i0, hi, hz0, hz1, hz2⟩ := info_parts info24
  have hrow : Hid ((w.alloc (.cells #[] 24)).ownsRow w.heap.size 24 3 (.slice (some ⟨w.heap.size, 0, none⟩) 0 0) 0 []) := World.ownsRow_made w #[] 0 (Nat.le_refl _) (by decide) rfl
  go_enter Try.func11, Try.ntmps11
  go_wp2_with (at_builtin; refine wpList_append_any _ rfl (.tmp 3) (.tmp 4) 22 rfl w.heap.size 24 i0 (.agg #[.int .i64 0, .int .i64 0, .int .i64 0]) 3 24 Try.underlying22 hi hz0 hz1 hz2 rfl (by decide) _ 0 [] rfl hrow.out A l.length cap (accCells l) rfl hl.out (fun e => ?_) (fun ad e => (HA.out.grow ((Grow.refl w).alloc _)).cells ad e) (accCells_one l) hn63.out (by omega) ?_ ?_)
  · have := HA.out.none e; exact ⟨by rw [this.2]; rfl, this.1⟩
  · rw [size_alloc]; omega
  · intro v' w' hown hgrow _ _
    have HO := Lib.hid (And.intro hown hgrow)
    clear hown hgrow
    go_wp2_with fail
    refine HR.out _ _ ⟨v', rfl, by simpa using HO.out.1, ((Grow.refl w).alloc _).grown HO.out.2 (fun k hk => ?_)⟩
    have : w.heap.size = k := by simpa [Value.ownBlock] using hk
    omega
end Go.Proofs.Ytabplbalacldfaa
