/- slices.Grow on nil, slices.Concat of two slices of ints. -/
import Derived.Test.YtacfchepacfjnaaOdL
import Derived.Lib.Walk
import Derived.Lib.SliceRun
import Derived.Lib.AppendZerosOnto
set_option linter.unusedVariables false
set_option linter.unusedSimpArgs false
namespace Go.Proofs.Ytacfchepacfjnaa
open Go.RowKit Go.Kx Go.Maps Go.Sort Go.Shelf
def GrowP (w : World) (e : Ending) (w' : World) : Prop := ∃ v, e = .returned v ∧ w'.ownsRow w.heap.size 3 1 v 0 [] ∧ Grow w w'
set_option maxRecDepth 100000 in
set_option maxHeartbeats 1000000 in
theorem grow_any (w : World) (n : Nat) (hn : n ≤ 1000) : Calls Try.prog 66 #[.slice none 0 0, .int .i64 n] w (GrowP w) := by
  refine cph fun R HR => ?_
  by_cases h0 : n = 0
  · subst h0
    go_enter Try.func66, Try.ntmps66
    go_wp2_with fail
    exact HR.out _ _ ⟨_, rfl, World.ownsRow_nil _ _ _ _, Grow.refl _⟩
  · obtain ⟨i0, hi, hz0, hz1, hz2⟩ := info_parts info3x
    have hck : 0 + (0 + n - 0) = 0 + n := by omega
    have hold : (Builtin.firstCells i0.size 0 (.slice none 0 0)).run Try.prog w.drew = .ok ([] : List Value).toArray w.drew := run_firstCells_none w.drew i0.size 0 0 0
    have hrz : ∀ ty, (Builtin.append_ #[22, 3] ty #[.slice none 0 0, .int .i64 (n : Int)]).run Try.prog w =
        .ok (.slice (some ⟨w.heap.size, 0, none⟩) (0 + n) (grownCap w (0 + n) 0 3)) (w.drew.alloc (.cells (([] : List Value).toArray ++ Builtin.zeroCells (Value.int .i64 0).cells (0 + n - 0) ++ Builtin.zeroCells (Value.int .i64 0).cells (grownCap w (0 + n) 0 3 - (0 + n))) 3)) := fun ty => by
      have h := Lib.run_append_grow_zeros w 22 3 ty 3 i0 (.int .i64 0) .i64 .i64 Try.underlying22 Try.underlying3 hi hz0 none 0 0 [] hold (0 + n - 0) (by omega) (by omega) (by omega) (by omega) (by rw [hz2]; omega) (by rw [hck]; exact growslice_fits (by omega) (by rw [hz2]; omega))
      rw [hck] at h
      rw [show (n : Int) = ((0 + n - 0 : Nat) : Int) by omega]
      exact h
    have hGn : 0 + n ≤ grownCap w (0 + n) 0 3 := grownCap_ge w _ _ _
    have hG63 := grownCap_le_maxLen w (0 + n) 0 3 (by unfold maxLen; omega)
    obtain ⟨G, hG⟩ : ∃ G, G = grownCap w (0 + n) 0 3 := ⟨_, rfl⟩
    rw [← hG] at hrz hGn hG63
    obtain ⟨cz, hcz⟩ : ∃ cz, cz = ([] : List Value).toArray ++ Builtin.zeroCells (Value.int .i64 0).cells (0 + n - 0) ++ Builtin.zeroCells (Value.int .i64 0).cells (G - (0 + n)) := ⟨_, rfl⟩
    have hsz : cz.size = G * 1 := by
      rw [hcz]
      simp [Builtin.zeroCells, Value.cells]
      omega
    rw [← hcz] at hrz
    have HX := Lib.hid (And.intro hG63 hsz)
    have hG64 : G ≤ 9223372036854775807 := by unfold maxLen at hG63; exact hG63
    have hGG : (n : Int) ≤ (G : Int) := by omega
    have h4 : (0 : Int) < n := by omega
    clear hold hck hG hcz hsz hG63 hGn h0
    simp only [Nat.zero_add] at hrz
    go_enter Try.func66, Try.ntmps66
    go_wp2_with (at_builtin; refine Lib.wpList_append_run _ rfl _ _ _ _ rfl _ _ rfl rfl _ _ (hrz _) ?_)
    refine HR.out _ _ ⟨_, rfl, ⟨rfl, .inr ⟨w.heap.size, G, cz, rfl, Nat.le_refl _, ?_, Nat.zero_le _, HX.out.1, HX.out.2, rfl⟩⟩, ((Grow.refl w).drew).alloc _⟩
    exact blk_new w.drew _
theorem ints_news {w : World} {a : Addr} {l : List Int} (h : IntsAt w (some a) l) : ∀ j u, (l.map (Value.int .i64))[j]? = some u → w.cell? (a.add j) = some u := by
  intro j u hu
  rcases h with rfl | ⟨b, off, h1, h2⟩
  · simp at hu
  · cases h1
    simp only [List.getElem?_map, Option.map_eq_some_iff] at hu
    obtain ⟨x, hx, rfl⟩ := hu
    rw [Addr.add_lit]
    exact h2 j x hx
def szs (n1 n2 : Nat) : Nat → Int
  | 0 => 0
  | 1 => n1
  | _ => n1 + n2
def cat (l1 l2 : List Int) : Nat → List Int
  | 0 => []
  | 1 => l1
  | _ => l1 ++ l2
set_option maxRecDepth 100000 in
set_option maxHeartbeats 2000000 in
theorem concat_any {w : World} {b c1 c2 : Nat} {a1 a2 : Addr} {l1 l2 : List Int} (hb : w.heap[b]? = some (.cells #[.slice (some a1) l1.length c1, .slice (some a2) l2.length c2] 22 (0, 0))) (h1 : IntsAt w (some a1) l1) (h2 : IntsAt w (some a2) l2) (hn : l1.length + l2.length ≤ 1000) :
    Calls Try.prog 61 #[.slice (some ⟨b, 0, none⟩) 2 2] w (Made w (l1 ++ l2)) := by
  refine cph fun R HR => ?_
  have hc0 := blk_cell hb 0
  have hc1 := blk_cell hb 1
  simp only [List.getElem?_toArray, List.getElem?_cons_zero, List.getElem?_cons_succ] at hc0 hc1
  have HB := Lib.hid (And.intro h1 (And.intro h2 (And.intro hc0 hc1)))
  clear hb h1 h2
  obtain ⟨i0, hi, hz0, hz1, hz2⟩ := info_parts info3x
  have HI := Lib.hid (And.intro hi (And.intro hz0 (And.intro hz1 hz2)))
  clear hi hz0 hz1 hz2
  go_enter Try.func61, Try.ntmps61
  go_wp2_with fail
  go_loop [3, 11] (fun s i => ∃ k : Nat, k ≤ 2 ∧ i = .int .i64 k ∧ s = .int .i64 (szs l1.length l2.length k)) (fun _ i => 2 - (intOf i).toNat)
  case atStart => exact ⟨0, by omega, rfl, rfl⟩
  case round =>
    obtain ⟨k, hk, rfl, rfl⟩ := hrel
    match k, hk with
    | 0, _ =>
      rw [show szs l1.length l2.length 0 = 0 from rfl]
      go_wp2_with fail
      go_round
      case rel => exact ⟨1, by omega, by go_num, by first | rfl | go_num⟩
      case measure => simp [intOf]
    | 1, _ =>
      rw [show szs l1.length l2.length 1 = (l1.length : Int) from rfl]
      go_wp2_with fail
      go_round
      case rel => exact ⟨2, by omega, by go_num, by first | rfl | go_num⟩
      case measure => simp [intOf]
    | 2, _ =>
      rw [show szs l1.length l2.length 2 = ((l1.length + l2.length : Nat) : Int) from by simp [szs]]
      have HG := Lib.hid (grow_any w (l1.length + l2.length) hn)
      clear hc0 hc1
      go_wp2_with (go_at_call 66; refine HG.out.mono ?_)
      rintro e w1 ⟨v, rfl, hrow, hg⟩
      have H1 := Lib.hid (And.intro hrow hg)
      clear hrow hg HG
      go_wp2_with fail
      go_loopw [6, 27] (fun v i wr => ∃ k : Nat, k ≤ 2 ∧ i = .int .i64 k ∧ Hid (wr.ownsRow w.heap.size 3 1 v (cat l1 l2 k).length ((cat l1 l2 k).map (Value.int .i64)) ∧ Grow w wr)) (fun _ i _ => 2 - (intOf i).toNat)
      case atStart => exact ⟨0, by omega, rfl, by simpa [cat] using H1.out.1, H1.out.2⟩
      case round =>
        obtain ⟨k, hk, rfl, HO⟩ := hrel
        match k, hk with
        | 0, _ =>
          have hc0 := HO.out.2.cell HB.out.2.2.1
          have hgs := HO.out.2.size
          go_wp2_with (at_builtin; refine wpList_append_own_at _ rfl (.tmp 31) (.tmp 32) 22 rfl w.heap.size 3 i0 (.int .i64 0) 1 8 Try.underlying22 HI.out.1 HI.out.2.1 HI.out.2.2.1 HI.out.2.2.2 rfl (by decide) u6 0 [] rfl HO.out.1 a1 l1.length c1 (l1.map (Value.int .i64)) rfl ?c1 ?c2 ?c3 ?c4 ?c5 ?c6 ?_)
          case c1 => simp
          case c2 => exact ints_news (HB.out.1.grow HO.out.2)
          case c3 => intro u hu; obtain ⟨x, _, rfl⟩ := List.mem_map.1 hu; rfl
          case c4 => unfold maxLen; omega
          case c5 => omega
          case c6 => omega
          intro v' w3 hown hgrow _ _
          have H7 : Hid (w3.ownsRow w.heap.size 3 1 v' (cat l1 l2 1).length ((cat l1 l2 1).map (Value.int .i64)) ∧ Grow w w3) := ⟨by simpa [cat] using hown, HO.out.2.grown hgrow (fun j e => (HO.out.1.lt j e).1)⟩
          clear hown hgrow
          go_wp2_with fail
          go_roundw
          case rel => exact ⟨1, by omega, by go_num, H7.out⟩
          case measure => simp [intOf]
        | 1, _ =>
          have hc1 := HO.out.2.cell HB.out.2.2.2
          have hgs := HO.out.2.size
          go_wp2_with (at_builtin; refine wpList_append_own_at _ rfl (.tmp 31) (.tmp 32) 22 rfl w.heap.size 3 i0 (.int .i64 0) 1 8 Try.underlying22 HI.out.1 HI.out.2.1 HI.out.2.2.1 HI.out.2.2.2 rfl (by decide) u6 l1.length (l1.map (Value.int .i64)) rfl HO.out.1 a2 l2.length c2 (l2.map (Value.int .i64)) rfl ?c1 ?c2 ?c3 ?c4 ?c5 ?c6 ?_)
          case c1 => simp
          case c2 => exact ints_news (HB.out.2.1.grow HO.out.2)
          case c3 => intro u hu; obtain ⟨x, _, rfl⟩ := List.mem_map.1 hu; rfl
          case c4 => unfold maxLen; omega
          case c5 => omega
          case c6 => omega
          intro v' w3 hown hgrow _ _
          have H7 : Hid (w3.ownsRow w.heap.size 3 1 v' (cat l1 l2 2).length ((cat l1 l2 2).map (Value.int .i64)) ∧ Grow w w3) := ⟨by simpa [cat] using hown, HO.out.2.grown hgrow (fun j e => (HO.out.1.lt j e).1)⟩
          clear hown hgrow
          go_wp2_with fail
          go_roundw
          case rel => exact ⟨2, by omega, by go_num, H7.out⟩
          case measure => simp [intOf]
        | 2, _ =>
          go_wp2_with fail
          exact HR.out _ _ ⟨_, rfl, HO.out.1, HO.out.2⟩
end Go.Proofs.Ytacfchepacfjnaa
