/- numbers, slices.Sorted over slices.Values, isOrder. -/
import Derived.Test.YtacfchepacfjnaaOdB
import Derived.Test.YtacfchepacfjnaaShelf
import Derived.Lib.SlKeysI
import Derived.Deep.DeepCutAuto
set_option linter.unusedVariables false
set_option linter.unusedSimpArgs false
namespace Go.Proofs.Ytacfchepacfjnaa
open Go.RowKit Go.Kx Go.Maps Go.Sort Go.Shelf
/-- 1 to m. -/
def numL (m : Nat) : List Int := (List.range m).map fun i : Nat => (i : Int) + 1
theorem numL_succ (m : Nat) : numL (m + 1) = numL m ++ [(m : Int) + 1] := by simp [numL, List.range_succ]
theorem numL_len (m : Nat) : (numL m).length = m := by simp [numL]
/-- What lies in a slice that the call made. -/
def Made (w : World) (l : List Int) (e : Ending) (w' : World) : Prop := ∃ v, e = .returned v ∧ w'.ownsRow w.heap.size 3 1 v l.length (l.map (Value.int .i64)) ∧ Grow w w'
/-- A slice that the call owns reads as its list. -/
theorem ints_of_own {w : World} {base : Nat} {v : Value} {n : Nat} {l : List Int} (h : w.ownsRow base 3 1 v n (l.map (Value.int .i64))) : ∃ A cap, v = .slice A l.length cap ∧ IntsAt w A l ∧ ∀ k, blkOf A k → v.ownBlock = some k := by
  have hl : l.length = n := by have := h.1; simpa using this
  rcases h.2 with ⟨rfl, h0⟩ | ⟨g, cap, cur, rfl, hb, hg, h1, h2, h3, h4⟩
  · have : l = [] := List.eq_nil_of_length_eq_zero (by omega)
    subst this
    exact ⟨none, 0, rfl, .inl rfl, fun k ⟨a, ha, _⟩ => by cases ha⟩
  · subst hl
    refine ⟨some ⟨g, 0, none⟩, cap, rfl, .inr ⟨g, 0, rfl, fun j x hx => ?_⟩, fun k ⟨a, ha, hk⟩ => by cases ha; simp [Value.ownBlock]; exact hk⟩
    have := h.cells (g := g) (by simp [Value.ownBlock]) j (.int .i64 x) (by simp [hx])
    rw [Addr.add_lit] at this
    exact this
set_option maxHeartbeats 1000000 in
theorem numbers_any (w : World) (m : Nat) (hm : m ≤ 4) : Calls Try.prog 51 #[.int .i64 m] w (Made w (numL m)) := by
  refine cph fun R HR => ?_
  obtain ⟨i0, hi, hz0, hz1, hz2⟩ := info_parts info3x
  have HI := Lib.hid (And.intro hi (And.intro hz0 (And.intro hz1 hz2)))
  clear hi hz0 hz1 hz2
  go_enter Try.func51, Try.ntmps51
  go_wp2_with fail
  go_loopw [3, 6] (fun v i wr => ∃ k : Nat, k ≤ m ∧ i = .int .i64 k ∧ Hid (wr.ownsRow w.heap.size 3 1 v k ((numL k).map (Value.int .i64)) ∧ Grow w wr)) (fun _ i _ => m - (intOf i).toNat)
  case atStart => exact ⟨0, Nat.zero_le _, rfl, World.ownsRow_nil _ _ _ _, Grow.refl _⟩
  case round =>
    obtain ⟨k, hk, rfl, HO⟩ := hrel
    by_cases hlt : k < m
    · have hki : (k : Int) < (m : Int) := by omega
      have hgs := HO.out.2.size
      go_wp2_with (at_builtin; refine wpList_append_own_at _ rfl (.tmp 9) (.tmp 12) 22 rfl w.heap.size 3 i0 (.int .i64 0) 1 8 Try.underlying22 HI.out.1 HI.out.2.1 HI.out.2.2.1 HI.out.2.2.2 rfl (by decide) _ _ _ rfl (HO.out.1.alloc _) ⟨wr.heap.size, 0, none⟩ 1 1 [.int .i64 ((k : Int) + 1)] rfl rfl (cell_one_new _ _ _) (by simp [Value.oneCell']) (by unfold maxLen; omega) (by omega) (by rw [World.size_alloc]; omega) ?_)
      intro v' w1 hown hgrow _ hat
      have H7 : Hid (w1.ownsRow w.heap.size 3 1 v' (k + 1) ((numL (k + 1)).map (Value.int .i64)) ∧ Grow w w1) := ⟨by rw [numL_succ]; simpa using hown, (HO.out.2.alloc _).grown hgrow (fun j e => (HO.out.1.lt j e).1)⟩
      clear hown hgrow hat
      go_wp2_with fail
      go_roundw
      case rel => exact ⟨k + 1, by omega, by go_num, H7.out⟩
      case measure => simp [intOf]; omega
    · have hki : ¬ (k : Int) < (m : Int) := by omega
      obtain rfl : k = m := by omega
      go_wp2_with fail
      exact HR.out _ _ ⟨_, rfl, by rw [numL_len]; exact HO.out.1, HO.out.2⟩
/-- A list in ascending order. -/
def srt (l : List Int) : List Int := l.mergeSort fun x y => decide (x ≤ y)
theorem srt_len (l : List Int) : (srt l).length = l.length := by simp [srt]
set_option maxHeartbeats 1000000 in
theorem sorted_any (w : World) (Bs : Nat) (A : Option Addr) (cap : Nat) (l : List Int) (hlen : l.length ≤ 1000000) (hB : Boxed w Bs 22 (.slice A l.length cap)) (hI : IntsAt w A l) :
    Calls Try.prog 55 #[.func (.func 65) #[] #[.pointer (some ⟨Bs, 0, none⟩)]] w (Made w (srt l)) := by
  refine cph fun R HR => ?_
  have hown : ∀ k, (k = Bs ∨ (l ≠ [] ∧ blkOf A k)) → k < w.heap.size := by
    rintro k (rfl | ⟨hne, a, ha, rfl⟩)
    · exact hB.lt
    · obtain ⟨b, off, hA, hc⟩ := hI.resolve_left hne
      rw [hA] at ha; cases ha
      cases l with
      | nil => exact absurd rfl hne
      | cons x l => exact World.block_lt_of_cell? w ⟨b, off + 0, none⟩ (hc 0 x rfl)
  have HC := Lib.hid ((callsIn_wide (n := 4)).1 (collectI_in 4 (by omega) (gf := 65) (lb := #[.pointer (some ⟨Bs, 0, none⟩)]) (enters_of Try.func65 (by kernel_rfl) rfl) w (fun x : Int => x) (fun _ _ => True) (fun _ _ => False) (fun _ _ _ _ _ _ _ _ => trivial) (fun _ _ _ _ _ _ _ => trivial) (S := fun ys => ys = l) (N := l.length) hlen hown
    (fun W n hn hg => by
      have := values_seq n hn Bs A cap l (by omega) W (hg.at_ hB) (hI.grow hg)
      intro lr J Jx M0 h0 h1 h2 h3 h4 h5 h6
      exact this lr J Jx M0 h0 h1 h2 h3 (fun pre M x w hj hr hl => h4 pre M x w hj ⟨trivial, fun k hk => hk.elim⟩ hl) h5 h6)))
  clear hown hB hI
  go_enter Try.func55, Try.ntmps55
  go_wp2_with (go_at_call 63; refine HC.out.mono ?_)
  rintro e w1 ⟨v, xs, rfl, rfl, hrow, _, hg⟩
  have hrow2 := hrow
  rcases hrow.2 with ⟨rfl, hz⟩ | ⟨gb, cap2, cur, rfl, hbase, hgb, r1, r2, r3, r4⟩
  · have hss : xs = [] := List.eq_nil_of_length_eq_zero hz
    subst hss
    have H1 := Lib.hid (And.intro hrow2 hg)
    have HS := Lib.hid (Try.slices_Sort_int_none none 0 w1)
    clear hrow hrow2 hg HC hz
    go_wp2_with (go_at_call 64; refine HS.out.mono ?_; rintro e w' ⟨rfl, rfl⟩)
    exact HR.out _ _ ⟨_, rfl, by simpa [srt] using H1.out.1, H1.out.2⟩
  · have hH : Holds encZ w1 gb 0 xs.toArray := holds_of_block_i hgb (by simpa using r4)
    have hgl : gb < w1.heap.size := (Array.getElem?_eq_some_iff.1 hgb).1
    have cS := Lib.hid (Try.slices_Sort_int gb 0 cap2 xs w1 hH hgl (by omega))
    have H1 := Lib.hid (And.intro hbase (And.intro hgb (And.intro r1 (And.intro r2 (And.intro r3 hg)))))
    clear hrow hrow2 hg HC hH hgl hbase hgb r1 r2 r3 r4
    go_wp2_with (go_at_call 64; refine cS.out.mono ?_; rintro e w' ⟨rfl, nn, os, rfl⟩)
    obtain ⟨hbase, hgb, r1, r2, r3, hg⟩ := H1.out
    exact HR.out _ _ ⟨_, rfl, by rw [srt_len]; exact ownsRow_sorted_i (by simp) hbase hgb r1 r2 r3, hg.grown (grownBy_sorted_i _) (fun j hj => by cases hj; exact hbase)⟩
end Go.Proofs.Ytacfchepacfjnaa
