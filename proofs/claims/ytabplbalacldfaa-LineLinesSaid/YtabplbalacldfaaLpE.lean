/- The contract of Pad, for every size and every list of accesses that memory holds. -/
import Derived.Test.YtabplbalacldfaaLpC
set_option linter.unusedVariables false
set_option linter.unusedSimpArgs false
namespace Go.Proofs.Ytabplbalacldfaa
open Go.RowKit Go.Kx Go.Maps Go.Sort Go.Shelf
def cellsL (l : List A3) : List Int := l.map (·.2.1)
def padB (size : Int) (l : List A3) : Bool := goodB size l && decide ((((dist (cellsL l)).length : Int) - 1) * size ≤ 2000)
/-- What Pad answers: the accesses behind it, or none and 1. -/
def PadP (w : World) (ok : Bool) (l : List A3) (e : Ending) (w' : World) : Prop :=
  ∃ A cap, e = .returned (.tuple #[.slice A (if ok then l else []).length cap, .int .i64 (if ok then 0 else 1)]) ∧ Acc w' A (if ok then l else []) ∧ Grow w w'
theorem PadP.no {w w' : World} {l : List A3} (hg : Grow w w') : PadP w false l (.returned (.tuple #[.slice none 0 0, .int .i64 1])) w' := ⟨none, 0, rfl, .inl rfl, hg⟩
def CloneP (w : World) (l : List A3) (e : Ending) (w' : World) : Prop := ∃ v, e = .returned v ∧ w'.ownsRow w.heap.size 24 3 v l.length (accCells l) ∧ Grow w w'
set_option maxRecDepth 100000 in
set_option maxHeartbeats 1000000 in
theorem clone3_any (w : World) (A : Option Addr) (l : List A3) (cap : Nat) (hA : Arg w A l cap) (hn : l.length ≤ 2000) :
    Calls Try.prog 36 #[.slice A l.length cap] w (CloneP w l) := by
  refine cph fun R HR => ?_
  have HA := Lib.hid hA
  have q22 : ∀ (w : World) (a : Option Addr) (n c n' c' : Nat), (binOp .eql 22 (.slice a n c) (.slice none n' c')).run Try.prog w = .ok (.bool a.isNone) w := fun w a n c n' c' => Lib.run_eql_slice_nil w _ _ a n c n' c' Try.underlying22
  cases A with
  | none =>
    have h0 : l = [] := (hA.none rfl).2
    have hc : cap = 0 := (hA.none rfl).1
    subst h0; subst hc
    clear hA
    go_enter Try.func36, Try.ntmps36
    go_wp2_with fail
    exact HR.out _ _ ⟨_, rfl, World.ownsRow_nil _ _ _ _, Grow.refl _⟩
  | some ad =>
    have hl : Hid ((accCells l).length = l.length * 3) := accCells_length l
    have hn63 : Hid (0 + l.length ≤ maxLen) := by show _ ≤ _; unfold maxLen; omega
    clear hA
    obtain ⟨i0, hi, hz0, hz1, hz2⟩ := info_parts info24
    have hrow : Hid ((w.alloc (.cells #[] 24)).ownsRow w.heap.size 24 3 (.slice (some ⟨w.heap.size, 0, none⟩) 0 0) 0 []) := World.ownsRow_made w #[] 0 (Nat.le_refl _) (by decide) rfl
    go_enter Try.func36, Try.ntmps36
    go_wp2_with (at_builtin; refine wpList_append_any _ rfl (.tmp 5) (.tmp 6) 22 rfl w.heap.size 24 i0 (.agg #[.int .i64 0, .int .i64 0, .int .i64 0]) 3 24 Try.underlying22 hi hz0 hz1 hz2 rfl (by decide) _ 0 [] rfl hrow.out (some ad) l.length cap (accCells l) rfl hl.out (fun e => by cases e) (fun ad e => (HA.out.grow ((Grow.refl w).alloc _)).cells ad e) (accCells_one l) hn63.out (by omega) ?_ ?_)
    · rw [size_alloc]; omega
    · intro v' w' hown hgrow _ _
      have HO := Lib.hid (And.intro hown hgrow)
      clear hown hgrow
      go_wp2_with fail
      refine HR.out _ _ ⟨v', rfl, by simpa using HO.out.1, ((Grow.refl w).alloc _).grown HO.out.2 (fun k hk => ?_)⟩
      have : w.heap.size = k := by simpa [Value.ownBlock] using hk
      omega
/-- An access behind Pad, D the distinct cells. -/
def padE (size : Int) (D : List Int) (a : A3) : A3 := (a.1, (D.countP (fun x => decide (x < a.2.1)) : Int) * size, a.2.2)
def padK (size : Int) (D : List Int) (l : List A3) (k : Nat) : List A3 := (l.take k).map (padE size D) ++ l.drop k
theorem padK_zero (size : Int) (D : List Int) (l : List A3) : padK size D l 0 = l := by simp [padK]
theorem padK_len (size : Int) (D : List Int) (l : List A3) (k : Nat) : (padK size D l k).length = l.length := by simp [padK]; omega
theorem padK_all (size : Int) (l : List A3) : padK size (dist (cellsL l)) l l.length = padOf size l := by simp [padK, padOf, cellsL, padE]
theorem padK_at {size : Int} {D : List Int} {l : List A3} {k : Nat} (hk : k < l.length) : (padK size D l k)[k]? = some l[k] := by
  unfold padK
  rw [List.getElem?_append_right (by simp; omega)]
  simp [show min k l.length = k by omega, hk]
theorem accCells_set_mid : ∀ (a : List A3) (x : A3) (b : List A3) (z : Int), (accCells (a ++ x :: b)).set (a.length * 3 + 1) (.int .i64 z) = accCells (a ++ (x.1, z, x.2.2) :: b)
  | [], x, b, z => rfl
  | y :: a, x, b, z => by
    have ih := accCells_set_mid a x b z
    have e : ∀ q : List A3, accCells (y :: q) = [.int .i64 y.1, .int .i64 y.2.1, .int .i64 y.2.2] ++ accCells q := fun q => by simp [accCells]
    rw [List.cons_append, List.cons_append, e, e, ← ih]
    have : (y :: a).length * 3 + 1 = a.length * 3 + 1 + 1 + 1 + 1 := by simp; omega
    rw [this]
    rfl
theorem padK_set {size : Int} {D : List Int} {l : List A3} {k : Nat} (hk : k < l.length) : (accCells (padK size D l k)).set (k * 3 + 1) (.int .i64 ((D.countP (fun x => decide (x < l[k].2.1)) : Int) * size)) = accCells (padK size D l (k + 1)) := by
  unfold padK
  have hl : ((l.take k).map (padE size D)).length = k := by simp; omega
  rw [List.drop_eq_getElem_cons hk, List.take_succ_eq_append_getElem hk, List.map_append]
  have := accCells_set_mid ((l.take k).map (padE size D)) l[k] (l.drop (k + 1)) ((D.countP (fun x => decide (x < l[k].2.1)) : Int) * size)
  rw [hl] at this
  rw [this]
  simp [padE]
theorem count_bd (D : List Int) (x : Int) : D.countP (fun y => decide (y < x)) ≤ D.length := List.countP_le_length
theorem grow_nil (w : World) : Go.Sort.grow w #[] = w := by simp [Go.Sort.grow]
/-- The slice that Compact hands back, of a sorted row of the call's own. -/
theorem compact_row {w : World} {base g cap n : Nat} {cur : Array Value} {ss : List Int} (hbase : base ≤ g) (hb : w.heap[g]? = some (.cells cur 3 (0, 0))) (h1 : ss.length ≤ cap) (h2 : cap ≤ maxLen) (h3 : cur.size = cap * 1) :
    IntsAt (putRow (Value.int .i64) (Sort.ahead w n) g 0 (Lib.compact ss ++ List.replicate (ss.length - (Lib.compact ss).length) 0).toArray) (some ⟨g, 0, none⟩) (Lib.compact ss) ∧ Fr (· = g) w (putRow (Value.int .i64) (Sort.ahead w n) g 0 (Lib.compact ss ++ List.replicate (ss.length - (Lib.compact ss).length) 0).toArray) := by
  have hc := compact_len ss
  have ho := ownsRow_sorted_i (w := w) (base := base) (n := n) (os := #[]) (ss := ss) (ts := Lib.compact ss ++ List.replicate (ss.length - (Lib.compact ss).length) 0) (by simp; omega) hbase hb h1 h2 h3
  have hg := grownBy_sorted_i (w := w) (g := g) (n := n) (os := #[]) (Lib.compact ss ++ List.replicate (ss.length - (Lib.compact ss).length) 0).toArray
  rw [grow_nil] at ho hg
  refine ⟨?_, (fr_grown hg).mono fun i _ hi => by simpa using hi.symm⟩
  · have hi := own_ints ho
    rcases hi with h | ⟨b, off, hA, hc2⟩
    · have : Lib.compact ss = [] := (List.append_eq_nil_iff.1 h).1
      rw [this]; exact .inl rfl
    · refine .inr ⟨b, off, hA, fun j x hx => hc2 j x ?_⟩
      rw [List.getElem?_append_left (List.getElem?_eq_some_iff.1 hx).1]
      exact hx
end Go.Proofs.Ytabplbalacldfaa
