/- Contracts of line.isSize and line.Valid, for every number and every list of accesses that memory holds. -/
import Derived.Test.YtabplbalacldfaaLSees
set_option linter.unusedVariables false
set_option linter.unusedSimpArgs false
namespace Go.Proofs.Ytabplbalacldfaa
open Go.RowKit Go.Kx
abbrev A3 := Int × Int × Int
def bad (a : A3) : Bool := decide (a.1 < 0) || decide (4 ≤ a.1) || decide (a.2.1 < 0) || decide (2000 < a.2.1) || decide (a.2.2 < 0) || decide (1 < a.2.2)
theorem isSize_any (n : Int) (w : World) : Calls Try.prog 27 #[.int .i64 n] w fun e w' => e = .returned (.bool (decide (1 ≤ n) && decide (n ≤ 16))) ∧ w = w' := by
  refine cph fun R HR => ?_
  by_cases h : 1 ≤ n
  · go_enter Try.func27, Try.ntmps27
    go_wp2
    exact HR.out _ _ ⟨by simp [h], rfl⟩
  · go_enter Try.func27, Try.ntmps27
    go_wp2
    exact HR.out _ _ ⟨by simp; omega, rfl⟩
theorem bad_any (x y z : Int) (w : World) : Calls Try.prog 33 #[.agg #[.int .i64 x, .int .i64 y, .int .i64 z]] w fun e w' => e = .returned (.bool (bad (x, y, z))) ∧ Grow w w' := by
  refine cph fun R HR => ?_
  go_enter Try.func33, Try.ntmps33
  go_wp2
  all_goals refine HR.out _ _ ⟨?_, (Grow.refl _).alloc _⟩
  all_goals first | rfl | (simp [bad]; omega)
/-- The slice at A holds the accesses l. -/
def AccAt (w : World) (b off : Nat) (l : List A3) : Prop := ∀ i x, l[i]? = some x → w.cell? ⟨b, off + i * 3, none⟩ = some (.int .i64 x.1) ∧ w.cell? ⟨b, off + i * 3 + 1, none⟩ = some (.int .i64 x.2.1) ∧ w.cell? ⟨b, off + i * 3 + 2, none⟩ = some (.int .i64 x.2.2)
def Acc (w : World) (A : Option Addr) (l : List A3) : Prop := l = [] ∨ ∃ b off, A = some ⟨b, off, none⟩ ∧ AccAt w b off l
theorem AccAt.grow {w w' : World} {b off : Nat} {l : List A3} (h : AccAt w b off l) (hg : Grow w w') : AccAt w' b off l := fun i x hx => ⟨hg.cell (h i x hx).1, hg.cell (h i x hx).2.1, hg.cell (h i x hx).2.2⟩
theorem Acc.grow {w w' : World} {A : Option Addr} {l : List A3} (h : Acc w A l) (hg : Grow w w') : Acc w' A l := by
  rcases h with h | ⟨b, off, h1, h2⟩
  · exact .inl h
  · exact .inr ⟨b, off, h1, h2.grow hg⟩
def idx (l : List A3) (k : Nat) : Int := match l with
  | [] => -1
  | a :: r => if bad a then k else idx r (k + 1)
set_option maxHeartbeats 800000 in
theorem index_any (w : World) (A : Option Addr) (l : List A3) (cap : Nat) (hl : Acc w A l) (hn : l.length ≤ maxLen) :
    Calls Try.prog 52 #[.slice A l.length cap, .func (.func 33) #[] #[]] w fun e w' => (∃ n : Int, e = .returned (.int .i64 n) ∧ (0 ≤ n ↔ l.any bad = true)) ∧ Grow w w' := by
  unfold maxLen at hn
  refine cph fun R HR => ?_
  by_cases h0 : l = []
  · subst h0
    go_enter Try.func52, Try.ntmps52
    go_wp2_with fail
    refine wp_loop_once ?_
    go_wp2_with fail
    exact HR.out _ _ ⟨⟨-1, rfl, by simp⟩, Grow.refl _⟩
  · obtain ⟨b, off, rfl, hA⟩ := hl.resolve_left h0
    have HA := Lib.hid hA
    clear hA hl h0
    go_enter Try.func52, Try.ntmps52
    go_wp2_with fail
    go_loopw [8] (fun i wr => ∃ k : Nat, k ≤ l.length ∧ i = .int .i64 k ∧ Hid (Grow w wr ∧ ∀ j x, j < k → l[j]? = some x → bad x = false)) (fun i _ => l.length - (intOf i).toNat)
    case atStart => exact ⟨0, by omega, rfl, Grow.refl _, fun j x hj => absurd hj (by omega)⟩
    case round =>
      obtain ⟨k, hk, rfl, HI⟩ := hrel
      by_cases hlt : k < l.length
      · obtain ⟨⟨x, y, z⟩, hx⟩ : ∃ x, l[k]? = some x := ⟨l[k], by simp [hlt]⟩
        have hc := (HA.out.grow HI.out.1) k _ hx
        obtain ⟨c0, c1, c2⟩ := hc
        dsimp only at c0 c1 c2
        have HX := Lib.hid hx
        clear hx
        go_wp2_with (go_at_call 33; refine (bad_any x y z _).mono ?_)
        rintro e w1 ⟨rfl, hg⟩
        have HG := Lib.hid hg
        clear hg c0 c1 c2
        cases hb : bad (x, y, z)
        · go_wp2_with fail
          go_roundw
          case rel =>
            refine ⟨k + 1, by omega, by go_num, HI.out.1.trans HG.out, fun j x' hj hx' => ?_⟩
            by_cases hjk : j = k
            · subst hjk; rw [HX.out] at hx'; cases hx'; exact hb
            · exact HI.out.2 j x' (by omega) hx'
          case measure => simp [intOf]; omega
        · go_wp2_with fail
          exact HR.out _ _ ⟨⟨k, rfl, by simp; exact ⟨_, _, _, List.mem_of_getElem? HX.out, hb⟩⟩, HI.out.1.trans HG.out⟩
      · obtain rfl : k = l.length := by omega
        go_wp2_with fail
        refine HR.out _ _ ⟨⟨-1, rfl, ?_⟩, HI.out.1⟩
        have : l.any bad = false := by
          rw [List.any_eq_false]
          intro x hx
          obtain ⟨j, hj, rfl⟩ := List.getElem_of_mem hx
          simpa using HI.out.2 j _ hj (by simp [hj])
        simp [this]
theorem contains_any (w : World) (A : Option Addr) (l : List A3) (cap : Nat) (hl : Acc w A l) (hn : l.length ≤ maxLen) :
    Calls Try.prog 32 #[.slice A l.length cap, .func (.func 33) #[] #[]] w fun e w' => e = .returned (.bool (l.any bad)) ∧ Grow w w' := by
  refine cph fun R HR => ?_
  have hc := index_any w A l cap hl hn
  have HC := Lib.hid hc
  clear hc hl
  go_enter Try.func32, Try.ntmps32
  go_wp2_with (go_at_call 52; refine HC.out.mono ?_)
  rintro e w1 ⟨⟨n, rfl, hn1⟩, hg⟩
  have HN := Lib.hid hn1
  have HG := Lib.hid hg
  clear hn1 hg
  go_wp2_with fail
  refine HR.out _ _ ⟨?_, HG.out⟩
  have := HN.out
  cases ha : l.any bad
  · rw [ha] at this; simp at this; simp; omega
  · rw [ha] at this; simp at this; simp; omega
def okL (l : List A3) : Bool := decide (l.length ≤ 2000) && !(l.any bad)
theorem valid_any (w : World) (A : Option Addr) (l : List A3) (cap : Nat) (hl : Acc w A l) (hn : l.length ≤ maxLen) :
    Calls Try.prog 15 #[.slice A l.length cap] w fun e w' => e = .returned (.bool (okL l)) ∧ Grow w w' := by
  refine cph fun R HR => ?_
  have hc := contains_any w A l cap hl hn
  unfold maxLen at hn
  have HC := Lib.hid hc
  clear hc hl
  by_cases h : l.length ≤ 2000
  · have h' : (l.length : Int) ≤ 2000 := by omega
    go_enter Try.func15, Try.ntmps15
    go_wp2_with (go_at_call 32; refine HC.out.mono ?_)
    rintro e w1 ⟨rfl, hg⟩
    have HG := Lib.hid hg
    clear hg
    go_wp2_with fail
    exact HR.out _ _ ⟨by simp [okL, h], HG.out⟩
  · have h' : (2000 : Int) < (l.length : Int) := by omega
    go_enter Try.func15, Try.ntmps15
    go_wp2_with fail
    exact HR.out _ _ ⟨by simp [okL, h], Grow.refl _⟩
end Go.Proofs.Ytabplbalacldfaa
