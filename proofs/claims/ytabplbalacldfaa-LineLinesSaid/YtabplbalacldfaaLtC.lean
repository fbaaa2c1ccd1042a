/- slices.SortedFunc at accesses: a new slice that holds a permutation. -/
import Derived.Test.YtabplbalacldfaaLtA
import Derived.Test.YtabplbalacldfaaLtB2
import Derived.Test.YtabplbalacldfaaShelfB
import Derived.Shelf.SlSortCmp.NoneTotal
import Derived.Lib.SlKeysI
set_option linter.unusedVariables false
set_option linter.unusedSimpArgs false
namespace Go.Proofs.Ytabplbalacldfaa
open Go.RowKit Go.Kx Go.Sort Go.Shelf
theorem flat_acc (ss : List A3) : (flatK encA 3 ss.toArray).toList = accCells ss := by
  apply List.ext_getElem?
  intro t
  by_cases ht : t < ss.length * 3
  · have h3 : t / 3 < ss.length := by omega
    obtain ⟨g0, g1, g2⟩ := accCells_get ss (t / 3) ss[t / 3] (List.getElem?_eq_getElem h3)
    have e : (flatK encA 3 ss.toArray)[t]! = (encA ss[t / 3])[t % 3]! := by
      rw [get_flatK _ _ _ _ (by simpa using ht)]
      simp [h3]
    have e2 : (flatK encA 3 ss.toArray).toList[t]? = some ((encA ss[t / 3])[t % 3]!) := by
      rw [Array.getElem?_toList, ← e]
      have hs : t < (flatK encA 3 ss.toArray).size := by simpa using ht
      rw [getElem!_pos _ t hs, Array.getElem?_eq_getElem hs]
    rw [e2]
    have hm : t % 3 = 0 ∨ t % 3 = 1 ∨ t % 3 = 2 := by omega
    rcases hm with hm | hm | hm
    · have ht2 : t = t / 3 * 3 := by omega
      rw [hm]
      conv => rhs; rw [ht2]
      rw [g0]; rfl
    · have ht2 : t = t / 3 * 3 + 1 := by omega
      rw [hm]
      conv => rhs; rw [ht2]
      rw [g1]; rfl
    · have ht2 : t = t / 3 * 3 + 2 := by omega
      rw [hm]
      conv => rhs; rw [ht2]
      rw [g2]; rfl
  · rw [List.getElem?_eq_none (by simp; omega), List.getElem?_eq_none (by rw [accCells_length]; omega)]
theorem holds_acc {w : World} {g : Nat} {cur : Array Value} {e : TypeId} {ss : List A3} (hb : w.heap[g]? = some (.cells cur e (0, 0))) (ht : cur.toList.take (ss.length * 3) = accCells ss) : HoldsK encA 3 w g 0 ss.toArray := by
  intro j hj
  have hj' : j < ss.length * 3 := by simpa using hj
  refine ⟨?_, by simp [World.frozen?, hb]⟩
  have h1 : (cur.toList.take (ss.length * 3))[j]? = (flatK encA 3 ss.toArray).toList[j]? := by rw [ht, flat_acc]
  rw [List.getElem?_take_of_lt hj', Array.getElem?_toList, Array.getElem?_toList, Array.getElem?_eq_getElem hj] at h1
  rw [blk_cell hb, Nat.zero_add, h1, getElem!_pos _ j hj]
  rfl
theorem heap_sortedK {w : World} {g n : Nat} {os : Array Obj} {cur : Array Value} {e : TypeId} {fr : Nat × Nat} (d : Array A3) (hb : w.heap[g]? = some (.cells cur e fr)) :
    (sortWorldK encA 3 w g 0 n d os).heap[g]? = some (.cells (putCells id 0 (flatK encA 3 d) cur) e fr) := by
  have hg : g < w.heap.size := (Array.getElem?_eq_some_iff.1 hb).1
  unfold sortWorldK putRowK
  rw [heap_grow_old _ _ (by simpa using hg)]
  simp [putRow, mapBlock, Sort.ahead, Array.getElem?_modify, hb, onCells]
theorem grownBy_sortedK {w : World} {g n : Nat} {os : Array Obj} (d : Array A3) : w.grownBy (sortWorldK encA 3 w g 0 n d os) (some g) := by
  unfold sortWorldK putRowK
  refine ⟨rfl, rfl, rfl, by simp, fun k hk hne => ?_⟩
  rw [heap_grow_old _ _ (by simpa using hk)]
  have : g ≠ k := fun e => hne (by rw [e])
  simp [putRow, mapBlock, Sort.ahead, Array.getElem?_modify, this]
theorem take_putCells (cur F : Array Value) (h : F.size ≤ cur.size) : (putCells id 0 F cur).toList.take F.size = F.toList := by
  apply List.ext_getElem?
  intro j
  by_cases hj : j < F.size
  · rw [List.getElem?_take_of_lt hj, Array.getElem?_toList, Array.getElem?_toList]
    simp [putCells, hj, show j < cur.size by omega]
  · rw [List.getElem?_take_eq_none (by omega), List.getElem?_eq_none (by simp; omega)]
theorem perm_of_in {d d' : Array A3} (h : PermIn 0 d.size d d') : d'.toList.Perm d.toList := by
  obtain ⟨h1, _, h2⟩ := h
  have e1 : (d'.extract 0 d.size).toList = d'.toList := by rw [← h1]; simp
  have e2 : (d.extract 0 d.size).toList = d.toList := by simp
  rwa [e1, e2] at h2
theorem ltA (x y : A3) : ltOf cmpA x y = (decide (x.1 < y.1) || decide (x.1 = y.1) && (decide (x.2.1 < y.2.1) || decide (x.2.1 = y.2.1) && decide (x.2.2 < y.2.2))) := by
  have c : ∀ a b : Int, (a < b ∧ cmpI a b = -1) ∨ (a = b ∧ cmpI a b = 0) ∨ (b < a ∧ cmpI a b = 1) := fun a b => by
    unfold cmpI; split
    · omega
    · split <;> omega
  unfold ltOf cmpA
  rcases c x.1 y.1 with ⟨h1, e1⟩ | ⟨h1, e1⟩ | ⟨h1, e1⟩ <;> rcases c x.2.1 y.2.1 with ⟨h2, e2⟩ | ⟨h2, e2⟩ | ⟨h2, e2⟩ <;> rcases c x.2.2 y.2.2 with ⟨h3, e3⟩ | ⟨h3, e3⟩ | ⟨h3, e3⟩ <;> rw [e1, e2, e3] <;> simp <;> omega
theorem swoA : SWO (ltOf cmpA) where
  irrefl x := by rw [ltA]; simp
  trans x y z h1 h2 := by rw [ltA] at *; simp at *; omega
  ntrans x y z h1 h2 := by rw [ltA] at *; simp at *; omega
theorem cmp_lays (blk off size : Nat) (w : World) : CmpLays Try.prog 44 #[] encA 3 cmpA blk off size w :=
  fun _ _ _ _ x y => closure44 x y _
/-- What slices.SortedFunc leaves. -/
def SrtFP (w : World) (l : List A3) (e : Ending) (w' : World) : Prop :=
  ∃ v m, e = .returned v ∧ m.Perm l ∧ w'.ownsRow w.heap.size 24 3 v m.length (accCells m) ∧ Grow w w'
set_option maxHeartbeats 1000000 in
theorem sortedF_any {w : World} {Bs : Nat} {A : Option Addr} {cap : Nat} {l : List A3} (hlen : l.length ≤ 10000) (hB : Boxed w Bs 22 (.slice A l.length cap)) (hI : Acc w A l) :
    Calls Try.prog 42 #[.func (.func 63) #[] #[.pointer (some ⟨Bs, 0, none⟩)], .func (.func 44) #[] #[]] w (SrtFP w l) := by
  refine cph fun R HR => ?_
  have HC := Lib.hid (collectV hlen hB hI)
  have hln := Lib.hid hlen
  clear hB hI hlen
  go_enter Try.func42, Try.ntmps42
  go_wp2_with (go_at_call 61; refine HC.out.mono ?_)
  rintro e w1 ⟨v, xs, rfl, rfl, hown, hg⟩
  rcases hown.2 with ⟨rfl, hz⟩ | ⟨g, cap2, cur, rfl, hb1, hb2, hb3, hb4, hb5, hb6⟩
  · have h0 : xs = [] := List.eq_nil_of_length_eq_zero hz
    subst h0
    have HG := Lib.hid (And.intro hown hg)
    have HN := Lib.hid (fun W => AnyF.slices_SortFunc_none Try.sortF none 0 (.func (.func 44) #[] #[]) W)
    clear hown hg HC
    go_wp2_with (go_at_call 62; refine (HN.out _).mono ?_; rintro e w' ⟨rfl, rfl⟩)
    exact HR.out _ _ ⟨_, [], rfl, List.Perm.refl _, HG.out.1, HG.out.2⟩
  · have hs := AnyQ.slices_SortFunc Try.sortF 3 Try.isAgg24 Try.sizeOf24 encA (fun _ => rfl) (fun x v hv => by simp [encA] at hv; rcases hv with rfl | rfl | rfl <;> rfl) cmpA swoA 44 #[] g 0 cap2 xs.toArray w1 (enters_of Try.func44 (by kernel_rfl) rfl) (cmp_lays g 0 _ w1) (holds_acc hb2 hb6) (Array.getElem?_eq_some_iff.1 hb2).1 (by have := hln.out; simp; omega)
    change Calls Try.prog 62 #[.slice (some ⟨g, 0, none⟩) xs.length cap2, _] w1 _ at hs
    have HS := Lib.hid hs
    have HF : Hid (∀ (d' : Array A3) (n : Nat) (os : Array Obj), PermIn 0 xs.toArray.size xs.toArray d' → SrtFP w xs (.returned (.slice (some ⟨g, 0, none⟩) xs.length cap2)) (sortWorldK encA 3 w1 g 0 n d' os)) := by
      intro d' n os hp
      have hpm := perm_of_in hp
      have hl : d'.toList.length = xs.length := by have := hpm.length_eq; simpa using this
      have hsz : (flatK encA 3 d').size = xs.length * 3 := by simp; simp at hl; omega
      refine ⟨_, d'.toList, rfl, by simpa using hpm, ?_, hg.grown (grownBy_sortedK d') (fun k hk => by cases hk; exact hb1)⟩
      rw [hl]
      refine ⟨by rw [accCells_length, hl], .inr ⟨g, cap2, _, rfl, hb1, heap_sortedK d' hb2, hb3, hb4, by simp [putCells, hb5], ?_⟩⟩
      have ht := take_putCells cur (flatK encA 3 d') (by rw [hsz, hb5]; omega)
      rw [hsz] at ht
      rw [ht]
      have := flat_acc d'.toList
      simpa using this
    clear hs hown hg hb2 hb6 hb5 HC
    go_wp2_with (go_at_call 62; refine HS.out.mono ?_; rintro e w' ⟨rfl, d', n, os, hp, _, rfl⟩; have HG := Lib.hid (HF.out d' n os hp); clear hp)
    exact HR.out _ _ HG.out
end Go.Proofs.Ytabplbalacldfaa
