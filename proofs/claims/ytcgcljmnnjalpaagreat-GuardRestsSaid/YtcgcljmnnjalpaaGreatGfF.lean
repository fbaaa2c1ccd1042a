/- slices.Grow on nil, slices.Concat of some slices of ints. -/
import Derived.Test.YtcgcljmnnjalpaaGreatGfE
import Derived.Lib.SliceRun
import Derived.Lib.AppendZerosOnto
set_option linter.unusedVariables false
set_option linter.unusedSimpArgs false
namespace Go.Proofs.YtcgcljmnnjalpaaGreat
open Go.RowKit Go.Kx
open Go.ChangeMaps (setBlock)
def GrowP (w : World) (e : Ending) (w' : World) : Prop := ∃ v, e = .returned v ∧ w'.ownsRow w.heap.size 3 1 v 0 [] ∧ Grow w w'
set_option maxRecDepth 100000 in
set_option maxHeartbeats 1000000 in
theorem grow_any (w : World) (n : Nat) (hn : n ≤ 300000) : Calls Tryz.prog 140 #[.slice none 0 0, .int .i64 n] w (GrowP w) := by
  refine cph fun R HR => ?_
  by_cases h0 : n = 0
  · subst h0
    go_enter Tryz.func140, Tryz.ntmps140
    go_wp2_with fail
    exact HR.out _ _ ⟨_, rfl, World.ownsRow_nil _ _ _ _, Grow.refl _⟩
  · obtain ⟨i0, hi, hz0, hz1, hz2⟩ := info_parts info3x
    have hck : 0 + (0 + n - 0) = 0 + n := by omega
    have hold : (Builtin.firstCells i0.size 0 (.slice none 0 0)).run Tryz.prog w.drew = .ok ([] : List Value).toArray w.drew := run_firstCells_none w.drew i0.size 0 0 0
    have hrz : ∀ ty, (Builtin.append_ #[34, 3] ty #[.slice none 0 0, .int .i64 (n : Int)]).run Tryz.prog w =
        .ok (.slice (some ⟨w.heap.size, 0, none⟩) (0 + n) (grownCap w (0 + n) 0 3)) (w.drew.alloc (.cells (([] : List Value).toArray ++ Builtin.zeroCells (Value.int .i64 0).cells (0 + n - 0) ++ Builtin.zeroCells (Value.int .i64 0).cells (grownCap w (0 + n) 0 3 - (0 + n))) 3)) := fun ty => by
      have h := Lib.run_append_grow_zeros w 34 3 ty 3 i0 (.int .i64 0) .i64 .i64 Tryz.underlying34 Tryz.underlying3 hi hz0 none 0 0 [] hold (0 + n - 0) (by omega) (by omega) (by omega) (by omega) (by rw [hz2]; omega) (by rw [hck]; exact growslice_fits (by omega) (by rw [hz2]; omega))
      rw [hck] at h
      rw [show (n : Int) = ((0 + n - 0 : Nat) : Int) by omega]
      exact h
    have hGn : 0 + n ≤ grownCap w (0 + n) 0 3 := grownCap_ge w _ _ _
    have hG63 := grownCap_le_maxLen w (0 + n) 0 3 (by unfold maxLen; omega)
    obtain ⟨G, hG⟩ : ∃ G, G = grownCap w (0 + n) 0 3 := ⟨_, rfl⟩
    rw [← hG] at hrz hGn hG63
    obtain ⟨cz, hcz⟩ : ∃ cz, cz = ([] : List Value).toArray ++ Builtin.zeroCells (Value.int .i64 0).cells (0 + n - 0) ++ Builtin.zeroCells (Value.int .i64 0).cells (G - (0 + n)) := ⟨_, rfl⟩
    have hsz : cz.size = G * 1 := by
      rw [hcz]
      simp [Builtin.zeroCells, Value.cells]
      omega
    rw [← hcz] at hrz
    have HX := Lib.hid (And.intro hG63 hsz)
    have hG64 : G ≤ 9223372036854775807 := by unfold maxLen at hG63; exact hG63
    have hGG : (n : Int) ≤ (G : Int) := by omega
    have h4 : (0 : Int) < n := by omega
    clear hold hck hG hcz hsz hG63 hGn h0
    simp only [Nat.zero_add] at hrz
    go_enter Tryz.func140, Tryz.ntmps140
    go_wp2_with (at_builtin; refine Lib.wpList_append_run _ rfl _ _ _ _ rfl _ _ rfl rfl _ _ (hrz _) ?_)
    refine HR.out _ _ ⟨_, rfl, ⟨rfl, .inr ⟨w.heap.size, G, cz, rfl, Nat.le_refl _, ?_, Nat.zero_le _, HX.out.1, HX.out.2, rfl⟩⟩, ((Grow.refl w).drew).alloc _⟩
    exact blk_new w.drew _
theorem ints_news {w : World} {A : Option Addr} {l : List Int} (h : IntsAt w A l) : ∀ a, A = some a → ∀ j u, (l.map (Value.int .i64))[j]? = some u → w.cell? (a.add j) = some u := by
  intro a ha j u hu
  rcases h with rfl | ⟨b, off, h1, h2⟩
  · simp at hu
  · rw [ha] at h1
    cases h1
    simp only [List.getElem?_map, Option.map_eq_some_iff] at hu
    obtain ⟨x, hx, rfl⟩ := hu
    rw [Addr.add_lit]
    exact h2 j x hx
def cat3 (ls : List (List Int)) (k : Nat) : List Int := (ls.take k).flatten
theorem cat3_succ {ls : List (List Int)} {k : Nat} {l : List Int} (h : ls[k]? = some l) : cat3 ls (k + 1) = cat3 ls k ++ l := by
  unfold cat3
  rw [List.take_add_one, h, List.flatten_append]
  simp
theorem cat3_len (ls : List (List Int)) (k : Nat) : (cat3 ls k).length ≤ ls.flatten.length := by
  unfold cat3
  have h := congrArg (fun l => l.flatten.length) (List.take_append_drop k ls)
  simp only [List.flatten_append, List.length_append] at h
  omega
def MadeI (w : World) (l : List Int) (e : Ending) (w' : World) : Prop := ∃ v, e = .returned v ∧ w'.ownsRow w.heap.size 3 1 v l.length (l.map (Value.int .i64)) ∧ Grow w w'
set_option maxRecDepth 100000 in
set_option maxHeartbeats 2000000 in
theorem concat3 {w : World} {b : Nat} {ls : List (List Int)} (hl3 : ls.length = 3) (hv : ∀ k l, ls[k]? = some l → ∃ A c, w.cell? ⟨b, k, none⟩ = some (.slice A l.length c) ∧ IntsAt w A l ∧ (A = none → l.length = 0 ∧ c = 0)) (hn : ls.flatten.length ≤ 300000) :
    Calls Tryz.prog 108 #[.slice (some ⟨b, 0, none⟩) 3 3] w (MadeI w ls.flatten) := by
  refine cph fun R HR => ?_
  have HB := Lib.hid (And.intro hl3 hv)
  clear hl3 hv
  obtain ⟨i0, hi, hz0, hz1, hz2⟩ := info_parts info3x
  have HI := Lib.hid (And.intro hi (And.intro hz0 (And.intro hz1 hz2)))
  clear hi hz0 hz1 hz2
  obtain ⟨N, hN⟩ : ∃ N, ls.flatten.length = N := ⟨_, rfl⟩
  rw [hN] at hn
  have HL : Hid (∀ k, (cat3 ls k).length ≤ N) := fun k => hN ▸ cat3_len ls k
  have HN := Lib.hid hN
  clear hN
  go_enter Tryz.func108, Tryz.ntmps108
  go_wp2_with fail
  go_loop [3, 11] (fun s i => ∃ k : Nat, k ≤ 3 ∧ i = .int .i64 k ∧ s = .int .i64 (cat3 ls k).length) (fun _ i => 3 - (intOf i).toNat)
  case atStart => exact ⟨0, by omega, rfl, rfl⟩
  case round =>
    obtain ⟨k, hk, rfl, rfl⟩ := hrel
    by_cases hlt : k < 3
    · obtain ⟨l, hl⟩ : ∃ l, ls[k]? = some l := ⟨ls[k]'(by rw [HB.out.1]; exact hlt), List.getElem?_eq_getElem _⟩
      obtain ⟨A, c, hc, _, _⟩ := HB.out.2 k l hl
      have e := cat3_succ hl
      have h1 := HL.out k
      have h2 := HL.out (k + 1)
      rw [e, List.length_append] at h2
      have HE := Lib.hid e
      have hki : (k : Int) < 3 := by omega
      clear e hl
      go_wp2_with fail
      go_round
      case rel => exact ⟨k + 1, by omega, by go_num, by rw [HE.out, List.length_append]; go_num⟩
      case measure => simp [intOf] <;> omega
    · obtain rfl : k = 3 := by omega
      have e3 : cat3 ls 3 = ls.flatten := by unfold cat3; rw [List.take_of_length_le (by rw [HB.out.1]; omega)]
      rw [e3, HN.out]
      have HE3 := Lib.hid e3
      clear e3
      have HG := Lib.hid (grow_any w N hn)
      go_wp2_with (go_at_call 140; refine HG.out.mono ?_)
      rintro e w1 ⟨v, rfl, hrow, hg⟩
      have H1 := Lib.hid (And.intro hrow hg)
      clear hrow hg HG
      go_wp2_with fail
      go_loopw [6, 27] (fun v i wr => ∃ k : Nat, k ≤ 3 ∧ i = .int .i64 k ∧ Hid (wr.ownsRow w.heap.size 3 1 v (cat3 ls k).length ((cat3 ls k).map (Value.int .i64)) ∧ Grow w wr)) (fun _ i _ => 3 - (intOf i).toNat)
      case atStart => exact ⟨0, by omega, rfl, by simpa [cat3] using H1.out.1, H1.out.2⟩
      case round =>
        obtain ⟨k, hk, rfl, HO⟩ := hrel
        by_cases hlt : k < 3
        · obtain ⟨l, hl⟩ : ∃ l, ls[k]? = some l := ⟨ls[k]'(by rw [HB.out.1]; exact hlt), List.getElem?_eq_getElem _⟩
          obtain ⟨A, c, hc, hin, hno⟩ := HB.out.2 k l hl
          have hc' := HO.out.2.cell hc
          have HIn := Lib.hid (And.intro (hin.grow HO.out.2) hno)
          have e := cat3_succ hl
          have h1 := HL.out k
          have h2 := HL.out (k + 1)
          rw [e, List.length_append] at h2
          have HE := Lib.hid e
          have hki : (k : Int) < 3 := by omega
          have hgs := HO.out.2.size
          clear e hl hc hin hno
          go_wp2_with (at_builtin; refine wpList_append_any _ rfl (.tmp 31) (.tmp 32) 34 rfl w.heap.size 3 i0 (.int .i64 0) 1 8 Tryz.underlying34 HI.out.1 HI.out.2.1 HI.out.2.2.1 HI.out.2.2.2 rfl (by decide) u6 (cat3 ls k).length ((cat3 ls k).map (Value.int .i64)) rfl HO.out.1 A l.length c (l.map (Value.int .i64)) rfl ?c1 ?c7 ?c2 ?c3 ?c4 ?c5 ?c6 ?_)
          case c1 => simp
          case c7 => exact HIn.out.2
          case c2 => exact ints_news HIn.out.1
          case c3 => intro u hu; obtain ⟨x, _, rfl⟩ := List.mem_map.1 hu; rfl
          case c4 => unfold maxLen; omega
          case c5 => omega
          case c6 => omega
          intro v' w3 hown hgrow _ _
          have H7 : Hid (w3.ownsRow w.heap.size 3 1 v' (cat3 ls (k + 1)).length ((cat3 ls (k + 1)).map (Value.int .i64)) ∧ Grow w w3) := ⟨by rw [HE.out, List.length_append, List.map_append]; exact hown, HO.out.2.grown hgrow (fun j e => (HO.out.1.lt j e).1)⟩
          clear hown hgrow
          go_wp2_with fail
          go_roundw
          case rel => exact ⟨k + 1, by omega, by go_num, H7.out⟩
          case measure => simp [intOf] <;> omega
        · obtain rfl : k = 3 := by omega
          go_wp2_with fail
          refine HR.out _ _ ⟨_, rfl, ?_, HO.out.2⟩
          have := HO.out.1
          rwa [HE3.out] at this
end Go.Proofs.YtcgcljmnnjalpaaGreat
