/- The counting manager: its form in memory; has, set. -/
import Derived.Test.YtcgcljmnnjalpaaGreatGeL
set_option linter.unusedVariables false
set_option linter.unusedSimpArgs false
namespace Go.Proofs.YtcgcljmnnjalpaaGreat
open Go.RowKit Go.Kx
open Go.ChangeMaps (setBlock)
theorem mget_put (kv : List (Int × Value)) (x k : Int) (v : Value) : mget (mput kv x v) k = if k = x then some v else mget kv k := by
  have hmap : ∀ l : List (Int × Value), mget (l.map fun p => if p.1 == x then (p.1, v) else p) k = if k = x then (mget l k).map fun _ => v else mget l k := by
    intro l
    induction l with
    | nil => simp [mget]
    | cons p l ih =>
      unfold mget at ih ⊢
      simp only [List.map_cons, List.find?_cons]
      by_cases hp : p.1 = x
      · have e1 : (p.1 == x) = true := by simp [hp]
        simp only [e1, if_true]
        by_cases hk : k = x
        · subst hk
          have : (p.1 == k) = true := by simp [hp]
          simp [this]
        · have : (p.1 == k) = false := by simp [hp]; exact fun e => hk e.symm
          simp only [this]
          rw [if_neg hk] at ih ⊢
          exact ih
      · have e1 : (p.1 == x) = false := by simp [hp]
        simp only [e1, Bool.false_eq_true, if_false]
        by_cases hk : (p.1 == k) = true
        · have : k ≠ x := fun e => hp (by simp at hk; omega)
          simp [hk, this]
        · have hk2 : (p.1 == k) = false := by simpa using hk
          simp only [hk2]
          exact ih
  unfold mput
  by_cases hs : (mget kv x).isSome
  · rw [if_pos hs, hmap]
    by_cases hk : k = x
    · subst hk
      rw [if_pos rfl, if_pos rfl]
      obtain ⟨u, hu⟩ := Option.isSome_iff_exists.1 hs
      rw [hu]; rfl
    · rw [if_neg hk, if_neg hk]
  · rw [if_neg hs]
    have hn : mget kv x = none := by simpa using hs
    unfold mget at hn ⊢
    rw [List.find?_append]
    by_cases hk : k = x
    · subst hk
      rw [if_pos rfl]
      have : kv.find? (fun p => p.1 == k) = none := by simpa using hn
      rw [this]
      simp
    · rw [if_neg hk]
      have : ([(x, v)] : List (Int × Value)).find? (fun p => p.1 == k) = none := by simp; exact fun e => hk e.symm
      rw [this, Option.or_none]
theorem mget_del (kv : List (Int × Value)) (x k : Int) : mget (mdel kv x) k = if k = x then none else mget kv k := by
  unfold mdel mget
  induction kv with
  | nil => simp
  | cons p l ih =>
    by_cases hp : p.1 = x
    · have e1 : (!(p.1 == x)) = false := by simp [hp]
      rw [List.filter_cons, e1]
      simp only [Bool.false_eq_true, if_false]
      rw [ih]
      by_cases hk : k = x
      · simp [hk]
      · rw [if_neg hk, if_neg hk, List.find?_cons]
        have : (p.1 == k) = false := by simp [hp]; exact fun e => hk e.symm
        simp [this]
    · have e1 : (!(p.1 == x)) = true := by simp [hp]
      rw [List.filter_cons, e1]
      simp only [if_true, List.find?_cons]
      by_cases hk : (p.1 == k) = true
      · have : k ≠ x := fun e => hp (by simp at hk; omega)
        simp [hk, this]
      · have hk2 : (p.1 == k) = false := by simpa using hk
        simp only [hk2]
        exact ih
/-- How many holds have an address. -/
def cnH (h : Nat → Nat → Int) (a : Int) : Nat := (List.range 12).countP fun i => h (i / 3) (i % 3) == a
theorem count_one {f : Nat → Int} {i0 : Nat} {v a : Int} : ∀ N, i0 < N → (List.range N).countP (fun i => (if i = i0 then v else f i) == a) + (if f i0 = a then 1 else 0) = (List.range N).countP (fun i => f i == a) + (if v = a then 1 else 0)
  | 0, h => by omega
  | N + 1, h => by
    rw [List.range_succ, List.countP_append, List.countP_append, List.countP_singleton, List.countP_singleton]
    by_cases e : i0 = N
    · cases e
      have hs : (List.range i0).countP (fun i => (if i = i0 then v else f i) == a) = (List.range i0).countP (fun i => f i == a) := by
        apply List.countP_congr
        intro i hi
        rw [if_neg (by have := List.mem_range.1 hi; omega)]
      rw [hs]
      simp
      omega
    · have ih := count_one (f := f) (i0 := i0) (v := v) (a := a) N (by omega)
      rw [if_neg (fun h => e h.symm : ¬ N = i0)]
      omega
theorem cnH_upd {h : Nat → Nat → Int} {t k : Nat} (ht : t < 4) (hk : k < 3) (v a : Int) : cnH (upd1 h t (upd1 (h t) k v)) a + (if h t k = a then 1 else 0) = cnH h a + (if v = a then 1 else 0) := by
  have e : cnH (upd1 h t (upd1 (h t) k v)) a = (List.range 12).countP (fun i => (if i = t * 3 + k then v else h (i / 3) (i % 3)) == a) := by
    unfold cnH
    apply List.countP_congr
    intro i hi
    have hi' := List.mem_range.1 hi
    have : upd1 h t (upd1 (h t) k v) (i / 3) (i % 3) = if i = t * 3 + k then v else h (i / 3) (i % 3) := by
      unfold upd1
      by_cases e1 : i / 3 = t
      · rw [if_pos e1]
        by_cases e2 : i % 3 = k
        · rw [if_pos e2, if_pos (by omega)]
        · rw [if_neg e2, if_neg (by omega), e1]
      · rw [if_neg e1, if_neg (by omega)]
    rw [this]
  have := count_one (f := fun i => h (i / 3) (i % 3)) (i0 := t * 3 + k) (v := v) (a := a) 12 (by omega)
  rw [show (t * 3 + k) / 3 = t by omega, show (t * 3 + k) % 3 = k by omega] at this
  rw [e]
  exact this
theorem cnH_le (h : Nat → Nat → Int) (a : Int) : cnH h a ≤ 12 := by
  have := List.countP_le_length (p := fun i => h (i / 3) (i % 3) == a) (l := List.range 12)
  unfold cnH
  simpa using this
theorem held_cn (s : RS) (a : Int) : heldB s a = decide (cnH s.holds a ≠ 0) := by
  rw [Bool.eq_iff_iff, decide_eq_true_iff]
  unfold heldB cnH
  rw [List.any_eq_true]
  constructor
  · rintro ⟨t, ht, h⟩
    obtain ⟨k, hk, he⟩ := List.any_eq_true.1 h
    have ht' := List.mem_range.1 ht
    have hk' := List.mem_range.1 hk
    intro h0
    rw [List.countP_eq_zero] at h0
    refine h0 (t * 3 + k) (List.mem_range.2 (by omega)) ?_
    rw [show (t * 3 + k) / 3 = t by omega, show (t * 3 + k) % 3 = k by omega]
    exact he
  · intro h0
    have : 0 < (List.range 12).countP fun i => s.holds (i / 3) (i % 3) == a := Nat.pos_of_ne_zero h0
    obtain ⟨i, hi, he⟩ := List.countP_pos_iff.1 this
    have hi' := List.mem_range.1 hi
    exact ⟨i / 3, List.mem_range.2 (by omega), List.any_eq_true.2 ⟨i % 3, List.mem_range.2 (by omega), he⟩⟩
/-- A map of counts. -/
def CMapP (kv : List (Int × Value)) (f : Int → Nat) : Prop := ∀ x, x ≠ 0 → mget kv x = if f x = 0 then none else some (.int .i64 (f x))
theorem CMapP.get {kv : List (Int × Value)} {f : Int → Nat} (h : CMapP kv f) {x : Int} (hx : x ≠ 0) : (mget kv x).getD (.int .i64 0) = .int .i64 (f x) := by
  rw [h x hx]
  split
  · next h => rw [h]; rfl
  · rfl
theorem CMapP.put {kv : List (Int × Value)} {f g : Int → Nat} (h : CMapP kv f) {x : Int} (n : Int) (hn : n = g x) (hp : g x ≠ 0) (hg : ∀ y, y ≠ x → g y = f y) : CMapP (mput kv x (.int .i64 n)) g := by
  intro y hy
  rw [mget_put]
  by_cases e : y = x
  · subst e; rw [if_pos rfl, if_neg hp, hn]
  · rw [if_neg e, hg y e]; exact h y hy
theorem CMapP.del {kv : List (Int × Value)} {f g : Int → Nat} (h : CMapP kv f) {x : Int} (v : Value) (hp : g x = 0) (hg : ∀ y, y ≠ x → g y = f y) : CMapP (mdel (mput kv x v) x) g := by
  intro y hy
  rw [mget_del]
  by_cases e : y = x
  · subst e; rw [if_pos rfl, if_pos hp]
  · rw [if_neg e, mget_put, if_neg e, hg y e]; exact h y hy
def encH (r : Nat → Int) : List Value := [.int .i64 (r 0), .int .i64 (r 1), .int .i64 (r 2)]
theorem encH_len (r : Nat → Int) : (encH r).length = 3 := rfl
def hRows (s : RS) : List (Nat → Int) := (List.range s.n).map s.holds
theorem hRows_len (s : RS) : (hRows s).length = s.n := by simp [hRows]
theorem hRows_at {s : RS} {t : Nat} (ht : t < s.n) : (hRows s)[t]? = some (s.holds t) := by simp [hRows, ht]
theorem hRows_upd {s : RS} {t : Nat} (ht : t < s.n) (r : Nat → Int) (s' : RS) (hn : s'.n = s.n) (hh : s'.holds = upd1 s.holds t r) : (hRows s).set t r = hRows s' := by
  unfold hRows
  rw [hn, hh]
  apply List.ext_getElem?
  intro i
  rw [List.getElem?_set]
  by_cases e : t = i
  · subst e; simp [ht, upd1]
  · rw [if_neg e]
    simp only [List.getElem?_map]
    by_cases hi : i < s.n
    · have e2 : ¬ i = t := fun h => e h.symm
      simp [hi, upd1, e2]
    · simp [hi]
theorem encH_set (r : Nat → Int) {k : Nat} (hk : k < 3) (v : Int) : (encH r).set k (.int .i64 v) = encH (upd1 r k v) := by
  obtain rfl | rfl | rfl : k = 0 ∨ k = 1 ∨ k = 2 := by omega
  all_goals simp [encH, upd1]
end Go.Proofs.YtcgcljmnnjalpaaGreat
