/- The contract of slices.Delete of one free place. -/
import Derived.Test.YthkcihkeklojcaaHpD
import Derived.Deep.RegionLaw
import Derived.Laws.IdiomCopy
import Derived.Lib.SliceRun
set_option linter.unusedVariables false
set_option linter.unusedSimpArgs false
namespace Go.Proofs.Ythkcihkeklojcaa
open Go.RowKit Go.Shelf Go.Kx
theorem Fr.setCells {S : Nat → Prop} {a : World} (b : Nat) (hb : a.heap.size ≤ b ∨ S b) : ∀ (vs : List Value) (o : Nat) (w : World), Fr S a w → Fr S a (w.setCells b o vs)
  | [], _, _, h => h
  | v :: vs, o, w, h => Fr.setCells b hb vs (o + 1) _ (h.setCell ⟨b, o, none⟩ v hb)
theorem blk_setCells {b : Nat} {t : TypeId} {fz : Nat × Nat} : ∀ (vs : List Value) (o : Nat) (w : World) (c : Array Value), w.heap[b]? = some (.cells c t fz) → o + vs.length ≤ c.size →
    ∃ c', (w.setCells b o vs).heap[b]? = some (.cells c' t fz) ∧ c'.size = c.size ∧ ∀ j, c'[j]? = if o ≤ j ∧ j < o + vs.length then vs[j - o]? else c[j]?
  | [], o, w, c, h, _ => ⟨c, h, rfl, fun j => by rw [if_neg (by simp only [List.length_nil]; omega)]⟩
  | v :: vs, o, w, c, h, hl => by
    simp only [List.length_cons] at hl
    obtain ⟨c', h1, h2, h3⟩ := blk_setCells vs (o + 1) (w.setCell ⟨b, o, none⟩ v) _ (blk_set h o v) (by simp; omega)
    refine ⟨c', h1, by simpa using h2, fun j => ?_⟩
    rw [h3 j, arr_set _ _ _ _ (by omega)]
    simp only [List.length_cons]
    by_cases e : j = o
    · subst e
      rw [if_neg (by omega), if_pos rfl, if_pos (by omega), Nat.sub_self]
      rfl
    · by_cases e2 : o + 1 ≤ j ∧ j < o + 1 + vs.length
      · rw [if_pos e2, if_pos (by omega), show j - o = (j - (o + 1)) + 1 by omega, List.getElem?_cons_succ]
      · rw [if_neg e2, if_neg (by omega), if_neg (by omega)]
theorem placeCells_length (l : List (Int × Int)) : (placeCells l).length = l.length * 2 := by
  induction l with
  | nil => rfl
  | cons a l ih => simp [placeCells] at ih ⊢; omega
theorem placeCells_append (l m : List (Int × Int)) : placeCells (l ++ m) = placeCells l ++ placeCells m := by simp [placeCells]
theorem placeCells_erase (l : List (Int × Int)) (i : Nat) (hi : i < l.length) : placeCells (l.eraseIdx i) = (placeCells l).take (i * 2) ++ (placeCells l).drop ((i + 1) * 2) := by
  have e : l = l.take i ++ l[i] :: l.drop (i + 1) := by rw [← List.drop_eq_getElem_cons hi, List.take_append_drop]
  have e1 : l.eraseIdx i = l.take i ++ l.drop (i + 1) := List.eraseIdx_eq_take_drop_succ _ _
  have h1 : (placeCells (l.take i)).length = i * 2 := by rw [placeCells_length, List.length_take]; omega
  have e2 : placeCells l = placeCells (l.take i) ++ ([.int .i64 l[i].1, .int .i64 l[i].2] ++ placeCells (l.drop (i + 1))) := by
    have h := placeCells_append (l.take i) (l[i] :: l.drop (i + 1))
    rw [← e] at h
    rw [h]
    rfl
  rw [e1, placeCells_append]
  congr 1
  · rw [e2, List.take_left' h1]
  · have h2 : (placeCells (l.take i)).drop ((i + 1) * 2) = [] := List.drop_eq_nil_of_le (by rw [h1]; omega)
    rw [e2, List.drop_append, h1, h2, show (i + 1) * 2 - i * 2 = 2 by omega]
    rfl
theorem placeCells_one (l : List (Int × Int)) : ∀ u ∈ placeCells l, u.oneCell' = true := by
  intro u hu
  simp only [placeCells, List.mem_flatMap, List.mem_cons, List.not_mem_nil, or_false] at hu
  obtain ⟨x, _, rfl | rfl⟩ := hu <;> rfl
theorem info_place : (Try.prog.info? 55).map (fun i => (i.zero, i.size, i.bytes)) = some (some (.agg #[.int .i64 0, .int .i64 0]), 2, 16) := by kernel_rfl
theorem zero_place (w : World) : (zeroValue 55).run Try.prog w = .ok (.agg #[.int .i64 0, .int .i64 0]) w := by kernel_rfl
theorem clear_one (w : World) (ty : TypeId) (b o c : Nat) (hc : ∀ j, j < 2 → (w.cell? ⟨b, o + j, none⟩).isSome = true) (hf : ∀ j, j < 2 → w.frozen? ⟨b, o + j, none⟩ = false) :
    (Builtin.clear_ #[44] ty #[.slice (some ⟨b, o, none⟩) 1 c]).run Try.prog w = .ok (.tuple #[]) (w.setCells b o [.int .i64 0, .int .i64 0]) := by
  have hzc : (Builtin.zeroCells (Value.agg #[.int .i64 0, .int .i64 0]).cells 1).toList = [.int .i64 0, .int .i64 0] := by kernel_rfl
  have hst := run_storeCells_cells (P := Try.prog) b o [.int .i64 0, .int .i64 0] 0 w (by simpa using hc) (by simpa using hf) (by intro v hv'; simp at hv'; subst hv'; rfl)
  simp only [Nat.add_zero] at hst
  simp [Builtin.clear_, run_underlying Try.underlying44, zero_place, hzc, hst]
set_option maxHeartbeats 2000000 in
set_option maxRecDepth 100000 in
theorem delete_any (w : World) (base : Nat) (g cap : Nat) (l : List (Int × Int)) (i : Nat) (hi : i < l.length) (hr : w.ownsRow base 55 2 (.slice (some ⟨g, 0, none⟩) l.length cap) l.length (placeCells l)) :
    Calls Try.prog 28 #[.slice (some ⟨g, 0, none⟩) l.length cap, .int .i64 i, .int .i64 ((i : Int) + 1)] w fun e w' =>
      e = .returned (.slice (some ⟨g, 0, none⟩) (l.length - 1) cap) ∧ w'.ownsRow base 55 2 (.slice (some ⟨g, 0, none⟩) (l.length - 1) cap) (l.length - 1) (placeCells (l.eraseIdx i)) ∧ Fr (· = g) w w' := by
  refine cph fun R HR => ?_
  obtain ⟨i0, hi0, hz0, hz1, hz2⟩ := info_parts info_place
  rcases hr.2 with ⟨h, _⟩ | ⟨g', cap', cur, h, hb, hg, hnc, hcm, hcs, htake⟩
  · simp at h
  · simp only [Value.slice.injEq, Option.some.injEq, Addr.mk.injEq, and_true, true_and] at h
    obtain ⟨rfl, rfl⟩ := h
    obtain ⟨news, hnews⟩ : ∃ news, news = (placeCells l).drop ((i + 1) * 2) := ⟨_, rfl⟩
    have hlen : news.length = (l.length - (i + 1)) * 2 := by rw [hnews, List.length_drop, placeCells_length]; omega
    have hcell : ∀ j, j < l.length * 2 → w.cell? ⟨g, j, none⟩ = (placeCells l)[j]? := by
      intro j hj
      rw [blk_cell hg, ← htake, List.getElem?_take, if_pos hj]
      simp
    have hfz : ∀ j, w.frozen? ⟨g, j, none⟩ = false := blk_free hg
    obtain ⟨A, hA, hsrc⟩ : ∃ A : Addr, (if cap = i + 1 then some (⟨g, 0, none⟩ : Addr) else some ⟨g, (i + 1) * 2, none⟩) = some A ∧ Hid (∀ t u, news[t]? = some u → w.drew.cell? (A.add t) = some u) := by
      by_cases h : cap = i + 1
      · refine ⟨⟨g, 0, none⟩, by simp [h], fun t u hu => ?_⟩
        have h0 : news.length = 0 := by rw [hlen]; omega
        rw [List.length_eq_zero_iff.1 h0] at hu
        simp at hu
      · refine ⟨⟨g, (i + 1) * 2, none⟩, by simp [h], fun t u hu => ?_⟩
        have ht : t < (l.length - (i + 1)) * 2 := by
          have := (List.getElem?_eq_some_iff.1 hu).1
          rwa [hlen] at this
        rw [Addr.add_lit]
        refine (hcell ((i + 1) * 2 + t) (by omega)).trans ?_
        rw [hnews, List.getElem?_drop] at hu
        exact hu
    have s1 : Hid (news.length = (l.length - (i + 1)) * 2) := hlen
    have s2 : Hid (∀ u ∈ news, u.oneCell' = true) := by
      intro u hu
      rw [hnews] at hu
      exact placeCells_one l u (List.mem_of_mem_drop hu)
    have hsz := placeCells_length l
    have s3 : Hid (∀ t, t < news.length → (w.drew.cell? ⟨g, 0 + i * 2 + t, none⟩).isSome = true ∧ w.drew.frozen? ⟨g, 0 + i * 2 + t, none⟩ = false) := by
      intro t ht
      rw [hlen] at ht
      refine ⟨?_, hfz _⟩
      show (w.cell? _).isSome = true
      rw [hcell _ (by omega), List.getElem?_eq_getElem (by omega)]
      rfl
    obtain ⟨W1, hW1⟩ : ∃ W1, W1 = w.drew.setCells g (0 + i * 2) news := ⟨_, rfl⟩
    obtain ⟨c1, k1, k2, k3⟩ := blk_setCells (b := g) news (0 + i * 2) w.drew cur hg (by rw [hlen, hcs]; omega)
    rw [← hW1] at k1
    have hcl : ∀ ty c, (Builtin.clear_ #[44] ty #[.slice (some ⟨g, (i + (l.length - (i + 1))) * 2, none⟩) (l.length - (i + (l.length - (i + 1)))) c]).run Try.prog W1 = .ok (.tuple #[]) (W1.setCells g ((l.length - 1) * 2) [.int .i64 0, .int .i64 0]) := fun ty c => by
      rw [show l.length - (i + (l.length - (i + 1))) = 1 by omega, show i + (l.length - (i + 1)) = l.length - 1 by omega]
      exact clear_one W1 ty g ((l.length - 1) * 2) c (fun j hj => by rw [blk_cell k1, Array.getElem?_eq_getElem (by rw [k2, hcs]; omega)]; rfl) (fun j hj => blk_free k1 _)
    obtain ⟨c2, m1, m2, m3⟩ := blk_setCells (b := g) [.int .i64 0, .int .i64 0] ((l.length - 1) * 2) W1 c1 k1 (by rw [k2, hcs]; simp only [List.length_cons, List.length_nil]; omega)
    have hfr : Fr (· = g) w (W1.setCells g ((l.length - 1) * 2) [.int .i64 0, .int .i64 0]) := by
      refine Fr.setCells (S := fun x => x = g) g (.inr rfl) _ _ _ ?_
      rw [hW1]
      exact Fr.setCells (S := fun x => x = g) g (.inr rfl) _ _ _ (Fr.refl _ _).drew
    have hfin : c2.toList.take ((l.length - 1) * 2) = placeCells (l.eraseIdx i) := by
      rw [placeCells_erase l i hi]
      refine List.ext_getElem? fun j => ?_
      rw [List.getElem?_take, Array.getElem?_toList, m3, k3]
      simp only [List.length_cons, List.length_nil]
      by_cases hj : j < (l.length - 1) * 2
      · rw [if_pos hj, if_neg (by omega)]
        by_cases hj2 : j < i * 2
        · rw [if_neg (by omega), List.getElem?_append_left (by rw [List.length_take]; omega), List.getElem?_take, if_pos hj2, ← hcell j (by omega), blk_cell hg]
        · rw [if_pos (by rw [hlen]; omega), List.getElem?_append_right (by rw [List.length_take]; omega), List.length_take, hnews]
          congr 1
          omega
      · rw [if_neg hj, List.getElem?_eq_none]
        rw [List.length_append, List.length_take, List.length_drop]
        omega
    have hOut : Hid ((W1.setCells g ((l.length - 1) * 2) [.int .i64 0, .int .i64 0]).ownsRow base 55 2 (.slice (some ⟨g, 0, none⟩) (l.length - 1) cap) (l.length - 1) (placeCells (l.eraseIdx i)) ∧ Fr (· = g) w (W1.setCells g ((l.length - 1) * 2) [.int .i64 0, .int .i64 0])) :=
      ⟨⟨by rw [placeCells_length, List.length_eraseIdx_of_lt hi], .inr ⟨g, cap, c2, rfl, hb, m1, by omega, hcm, by rw [m2, k2, hcs], hfin⟩⟩, hfr⟩
    have hW := Lib.hid hW1
    have hic : i ≤ cap := by omega
    have hjc : i + 1 ≤ cap := by omega
    have hi1 : (0 : Int) ≤ (i : Int) + 1 := by omega
    have hil : (i : Int) + 1 ≤ (l.length : Int) := by omega
    have hcap63 : cap ≤ 9223372036854775807 := by unfold maxLen at hcm; omega
    clear hW1 k1 k2 k3 m1 m2 m3 hfr hfin hcell hfz hlen hnews hsz hg hb hcs htake hr hcm
    go_enter Try.func28, Try.ntmps28
    go_wp2_with fail
    go_region_law (refine step_append_room rfl (.tmp 22) (.tmp 25) 44 rfl 55 i0 2 Try.underlying44 hi0 hz1 g 0 i cap (by simp [Act.eval, Act.put]) A (l.length - (i + 1)) (cap - (i + 1)) news (by simp [Act.eval, Act.put]) s1.out hsrc.out s2.out (by omega) s3.out ?_; rw [← hW.out])
    all_goals go_wp2_with fail
    refine HR.out _ _ ⟨?_, hOut.out⟩
    show Ending.returned (.slice (some ⟨g, 0, none⟩) (i + (l.length - (i + 1))) cap) = _
    rw [show i + (l.length - (i + 1)) = l.length - 1 by omega]
end Go.Proofs.Ythkcihkeklojcaa
