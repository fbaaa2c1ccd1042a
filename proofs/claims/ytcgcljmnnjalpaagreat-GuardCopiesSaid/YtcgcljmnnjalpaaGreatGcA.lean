/- slices.Clone at each of the guard's types; maps.Clone of a map of ints (printed by wip/gen/mkgca.py). -/
import Derived.Test.YtcgcljmnnjalpaaGreatGxJ
import Derived.Shelf.SlMaps.Clone
import Derived.Lib.SliceRun
set_option linter.unusedVariables false
set_option linter.unusedSimpArgs false
namespace Go.Proofs.YtcgcljmnnjalpaaGreat
open Go.RowKit Go.Kx
open Go.ChangeMaps (setBlock)
def CloneR (w : World) (T : TypeId) (k n : Nat) (xs : List Value) (e : Ending) (w' : World) : Prop := ∃ v', e = .returned v' ∧ w'.ownsRow w.heap.size T k v' n xs ∧ Grow w w'
theorem own_news {w : World} {base : Nat} {e : TypeId} {sz : Nat} {A : Option Addr} {n cap : Nat} {xs : List Value} (h : w.ownsRow base e sz (.slice A n cap) n xs) : ∀ a, A = some a → ∀ j u, xs[j]? = some u → w.cell? (a.add j) = some u := by
  intro a ha j u hj
  subst ha
  rcases h.2 with ⟨e', _⟩ | ⟨g2, c3, cur, e', hb1, hb2, hb3, hb4, hb5, hb6⟩
  · cases e'
  · cases e'
    have hlt : j < n * sz := by
      have h1 := (List.getElem?_eq_some_iff.1 hj).1
      rw [h.1] at h1
      exact h1
    have hadd : (⟨g2, 0, none⟩ : Addr).add j = ⟨g2, j, none⟩ := by unfold Addr.add; split <;> simp_all
    rw [hadd, blk_cell hb2, ← Array.getElem?_toList, ← List.getElem?_take_of_lt hlt, hb6]
    exact hj
theorem info33 : ((Tryz.prog.info? 76).map fun i => (i.zero, i.size, i.bytes)) = some (some (.agg #[.int .i64 0, .int .i64 0, .int .i64 0]), 3, 24) := by kernel_rfl
set_option maxRecDepth 100000 in
set_option maxHeartbeats 1000000 in
theorem cloneI {w : World} {base n : Nat} {v : Value} {xs : List Value} (h : w.ownsRow base 3 1 v n xs) (hone : ∀ u ∈ xs, u.oneCell' = true) (hn : n ≤ 1000000) : Calls Tryz.prog 88 #[v] w (CloneR w 3 1 n xs) := by
  refine cph fun R HR => ?_
  have q : ∀ (w : World) (a : Option Addr) (n c n' c' : Nat), (binOp .eql 34 (.slice a n c) (.slice none n' c')).run Tryz.prog w = .ok (.bool a.isNone) w := fun w a n c n' c' => Lib.run_eql_slice_nil w _ _ a n c n' c' Tryz.underlying34
  have hxl : xs.length = n * 1 := h.1
  rcases own_val h with ⟨rfl, h0⟩ | ⟨g, cap, rfl, hc⟩
  · subst h0
    obtain rfl : xs = [] := List.eq_nil_of_length_eq_zero (by simpa using hxl)
    clear h hone
    go_enter Tryz.func88, Tryz.ntmps88
    go_wp2_with fail
    exact HR.out _ _ ⟨_, rfl, World.ownsRow_nil _ _ _ _, Grow.refl _⟩
  · have hl : Hid (xs.length = n * 1) := hxl
    have hn63 : Hid (0 + n ≤ maxLen) := by show _ ≤ _; unfold maxLen; omega
    have HN : Hid (∀ a, (some ⟨g, 0, none⟩ : Option Addr) = some a → ∀ j u, xs[j]? = some u → (w.alloc (.cells #[] 3)).cell? (a.add j) = some u) := fun a ha j u hj => ((Grow.refl w).alloc _).cell (own_news h a ha j u hj)
    have HO := Lib.hid hone
    obtain ⟨i0, hi, hz0, hz1, hz2⟩ := info_parts info3x
    have hrow : Hid ((w.alloc (.cells #[] 3)).ownsRow w.heap.size 3 1 (.slice (some ⟨w.heap.size, 0, none⟩) 0 0) 0 []) := World.ownsRow_made w #[] 0 (Nat.le_refl _) (by decide) rfl
    clear h hone hxl
    go_enter Tryz.func88, Tryz.ntmps88
    go_wp2_with (at_builtin; refine wpList_append_any _ rfl (.tmp 5) (.tmp 6) 34 rfl w.heap.size 3 i0 (.int .i64 0) 1 8 Tryz.underlying34 hi hz0 hz1 hz2 rfl (by decide) _ 0 [] rfl hrow.out (some ⟨g, 0, none⟩) n cap xs rfl hl.out (fun e => by cases e) HN.out HO.out hn63.out (by omega) ?_ ?_)
    · rw [size_alloc]; omega
    · intro v' w' hown hgrow _ _
      have HF := Lib.hid (And.intro hown hgrow)
      clear hown hgrow
      go_wp2_with fail
      refine HR.out _ _ ⟨v', rfl, by simpa using HF.out.1, ((Grow.refl w).alloc _).grown HF.out.2 (fun k hk => ?_)⟩
      have : w.heap.size = k := by simpa [Value.ownBlock] using hk
      omega
set_option maxRecDepth 100000 in
set_option maxHeartbeats 1000000 in
theorem cloneH {w : World} {base n : Nat} {v : Value} {xs : List Value} (h : w.ownsRow base 76 3 v n xs) (hone : ∀ u ∈ xs, u.oneCell' = true) (hn : n ≤ 1000000) : Calls Tryz.prog 116 #[v] w (CloneR w 76 3 n xs) := by
  refine cph fun R HR => ?_
  have q : ∀ (w : World) (a : Option Addr) (n c n' c' : Nat), (binOp .eql 116 (.slice a n c) (.slice none n' c')).run Tryz.prog w = .ok (.bool a.isNone) w := fun w a n c n' c' => Lib.run_eql_slice_nil w _ _ a n c n' c' Tryz.underlying116
  have hxl : xs.length = n * 3 := h.1
  rcases own_val h with ⟨rfl, h0⟩ | ⟨g, cap, rfl, hc⟩
  · subst h0
    obtain rfl : xs = [] := List.eq_nil_of_length_eq_zero (by simpa using hxl)
    clear h hone
    go_enter Tryz.func116, Tryz.ntmps116
    go_wp2_with fail
    exact HR.out _ _ ⟨_, rfl, World.ownsRow_nil _ _ _ _, Grow.refl _⟩
  · have hl : Hid (xs.length = n * 3) := hxl
    have hn63 : Hid (0 + n ≤ maxLen) := by show _ ≤ _; unfold maxLen; omega
    have HN : Hid (∀ a, (some ⟨g, 0, none⟩ : Option Addr) = some a → ∀ j u, xs[j]? = some u → (w.alloc (.cells #[] 76)).cell? (a.add j) = some u) := fun a ha j u hj => ((Grow.refl w).alloc _).cell (own_news h a ha j u hj)
    have HO := Lib.hid hone
    obtain ⟨i0, hi, hz0, hz1, hz2⟩ := info_parts info33
    have hrow : Hid ((w.alloc (.cells #[] 76)).ownsRow w.heap.size 76 3 (.slice (some ⟨w.heap.size, 0, none⟩) 0 0) 0 []) := World.ownsRow_made w #[] 0 (Nat.le_refl _) (by decide) rfl
    clear h hone hxl
    go_enter Tryz.func116, Tryz.ntmps116
    go_wp2_with (at_builtin; refine wpList_append_any _ rfl (.tmp 5) (.tmp 6) 116 rfl w.heap.size 76 i0 (.agg #[.int .i64 0, .int .i64 0, .int .i64 0]) 3 24 Tryz.underlying116 hi hz0 hz1 hz2 rfl (by decide) _ 0 [] rfl hrow.out (some ⟨g, 0, none⟩) n cap xs rfl hl.out (fun e => by cases e) HN.out HO.out hn63.out (by omega) ?_ ?_)
    · rw [size_alloc]; omega
    · intro v' w' hown hgrow _ _
      have HF := Lib.hid (And.intro hown hgrow)
      clear hown hgrow
      go_wp2_with fail
      refine HR.out _ _ ⟨v', rfl, by simpa using HF.out.1, ((Grow.refl w).alloc _).grown HF.out.2 (fun k hk => ?_)⟩
      have : w.heap.size = k := by simpa [Value.ownBlock] using hk
      omega
set_option maxRecDepth 100000 in
set_option maxHeartbeats 1000000 in
theorem cloneZ {w : World} {base n : Nat} {v : Value} {xs : List Value} (h : w.ownsRow base 140 2 v n xs) (hone : ∀ u ∈ xs, u.oneCell' = true) (hn : n ≤ 1000000) : Calls Tryz.prog 117 #[v] w (CloneR w 140 2 n xs) := by
  refine cph fun R HR => ?_
  have q : ∀ (w : World) (a : Option Addr) (n c n' c' : Nat), (binOp .eql 117 (.slice a n c) (.slice none n' c')).run Tryz.prog w = .ok (.bool a.isNone) w := fun w a n c n' c' => Lib.run_eql_slice_nil w _ _ a n c n' c' Tryz.underlying117
  have hxl : xs.length = n * 2 := h.1
  rcases own_val h with ⟨rfl, h0⟩ | ⟨g, cap, rfl, hc⟩
  · subst h0
    obtain rfl : xs = [] := List.eq_nil_of_length_eq_zero (by simpa using hxl)
    clear h hone
    go_enter Tryz.func117, Tryz.ntmps117
    go_wp2_with fail
    exact HR.out _ _ ⟨_, rfl, World.ownsRow_nil _ _ _ _, Grow.refl _⟩
  · have hl : Hid (xs.length = n * 2) := hxl
    have hn63 : Hid (0 + n ≤ maxLen) := by show _ ≤ _; unfold maxLen; omega
    have HN : Hid (∀ a, (some ⟨g, 0, none⟩ : Option Addr) = some a → ∀ j u, xs[j]? = some u → (w.alloc (.cells #[] 140)).cell? (a.add j) = some u) := fun a ha j u hj => ((Grow.refl w).alloc _).cell (own_news h a ha j u hj)
    have HO := Lib.hid hone
    obtain ⟨i0, hi, hz0, hz1, hz2⟩ := info_parts infoZ
    have hrow : Hid ((w.alloc (.cells #[] 140)).ownsRow w.heap.size 140 2 (.slice (some ⟨w.heap.size, 0, none⟩) 0 0) 0 []) := World.ownsRow_made w #[] 0 (Nat.le_refl _) (by decide) rfl
    clear h hone hxl
    go_enter Tryz.func117, Tryz.ntmps117
    go_wp2_with (at_builtin; refine wpList_append_any _ rfl (.tmp 5) (.tmp 6) 117 rfl w.heap.size 140 i0 (.agg #[.int .i64 0, .int .i64 0]) 2 16 Tryz.underlying117 hi hz0 hz1 hz2 rfl (by decide) _ 0 [] rfl hrow.out (some ⟨g, 0, none⟩) n cap xs rfl hl.out (fun e => by cases e) HN.out HO.out hn63.out (by omega) ?_ ?_)
    · rw [size_alloc]; omega
    · intro v' w' hown hgrow _ _
      have HF := Lib.hid (And.intro hown hgrow)
      clear hown hgrow
      go_wp2_with fail
      refine HR.out _ _ ⟨v', rfl, by simpa using HF.out.1, ((Grow.refl w).alloc _).grown HF.out.2 (fun k hk => ?_)⟩
      have : w.heap.size = k := by simpa [Value.ownBlock] using hk
      omega
set_option maxRecDepth 100000 in
set_option maxHeartbeats 1000000 in
theorem cloneE {w : World} {base n : Nat} {v : Value} {xs : List Value} (h : w.ownsRow base 144 2 v n xs) (hone : ∀ u ∈ xs, u.oneCell' = true) (hn : n ≤ 1000000) : Calls Tryz.prog 118 #[v] w (CloneR w 144 2 n xs) := by
  refine cph fun R HR => ?_
  have q : ∀ (w : World) (a : Option Addr) (n c n' c' : Nat), (binOp .eql 121 (.slice a n c) (.slice none n' c')).run Tryz.prog w = .ok (.bool a.isNone) w := fun w a n c n' c' => Lib.run_eql_slice_nil w _ _ a n c n' c' Tryz.underlying121
  have hxl : xs.length = n * 2 := h.1
  rcases own_val h with ⟨rfl, h0⟩ | ⟨g, cap, rfl, hc⟩
  · subst h0
    obtain rfl : xs = [] := List.eq_nil_of_length_eq_zero (by simpa using hxl)
    clear h hone
    go_enter Tryz.func118, Tryz.ntmps118
    go_wp2_with fail
    exact HR.out _ _ ⟨_, rfl, World.ownsRow_nil _ _ _ _, Grow.refl _⟩
  · have hl : Hid (xs.length = n * 2) := hxl
    have hn63 : Hid (0 + n ≤ maxLen) := by show _ ≤ _; unfold maxLen; omega
    have HN : Hid (∀ a, (some ⟨g, 0, none⟩ : Option Addr) = some a → ∀ j u, xs[j]? = some u → (w.alloc (.cells #[] 144)).cell? (a.add j) = some u) := fun a ha j u hj => ((Grow.refl w).alloc _).cell (own_news h a ha j u hj)
    have HO := Lib.hid hone
    obtain ⟨i0, hi, hz0, hz1, hz2⟩ := info_parts infoE
    have hrow : Hid ((w.alloc (.cells #[] 144)).ownsRow w.heap.size 144 2 (.slice (some ⟨w.heap.size, 0, none⟩) 0 0) 0 []) := World.ownsRow_made w #[] 0 (Nat.le_refl _) (by decide) rfl
    clear h hone hxl
    go_enter Tryz.func118, Tryz.ntmps118
    go_wp2_with (at_builtin; refine wpList_append_any _ rfl (.tmp 5) (.tmp 6) 121 rfl w.heap.size 144 i0 (.agg #[.int .i64 0, .int .i64 0]) 2 16 Tryz.underlying121 hi hz0 hz1 hz2 rfl (by decide) _ 0 [] rfl hrow.out (some ⟨g, 0, none⟩) n cap xs rfl hl.out (fun e => by cases e) HN.out HO.out hn63.out (by omega) ?_ ?_)
    · rw [size_alloc]; omega
    · intro v' w' hown hgrow _ _
      have HF := Lib.hid (And.intro hown hgrow)
      clear hown hgrow
      go_wp2_with fail
      refine HR.out _ _ ⟨v', rfl, by simpa using HF.out.1, ((Grow.refl w).alloc _).grown HF.out.2 (fun k hk => ?_)⟩
      have : w.heap.size = k := by simpa [Value.ownBlock] using hk
      omega
set_option maxRecDepth 100000 in
set_option maxHeartbeats 1000000 in
theorem cloneS {w : World} {base n : Nat} {v : Value} {xs : List Value} (h : w.ownsRow base 147 3 v n xs) (hone : ∀ u ∈ xs, u.oneCell' = true) (hn : n ≤ 1000000) : Calls Tryz.prog 120 #[v] w (CloneR w 147 3 n xs) := by
  refine cph fun R HR => ?_
  have q : ∀ (w : World) (a : Option Addr) (n c n' c' : Nat), (binOp .eql 128 (.slice a n c) (.slice none n' c')).run Tryz.prog w = .ok (.bool a.isNone) w := fun w a n c n' c' => Lib.run_eql_slice_nil w _ _ a n c n' c' Tryz.underlying128
  have hxl : xs.length = n * 3 := h.1
  rcases own_val h with ⟨rfl, h0⟩ | ⟨g, cap, rfl, hc⟩
  · subst h0
    obtain rfl : xs = [] := List.eq_nil_of_length_eq_zero (by simpa using hxl)
    clear h hone
    go_enter Tryz.func120, Tryz.ntmps120
    go_wp2_with fail
    exact HR.out _ _ ⟨_, rfl, World.ownsRow_nil _ _ _ _, Grow.refl _⟩
  · have hl : Hid (xs.length = n * 3) := hxl
    have hn63 : Hid (0 + n ≤ maxLen) := by show _ ≤ _; unfold maxLen; omega
    have HN : Hid (∀ a, (some ⟨g, 0, none⟩ : Option Addr) = some a → ∀ j u, xs[j]? = some u → (w.alloc (.cells #[] 147)).cell? (a.add j) = some u) := fun a ha j u hj => ((Grow.refl w).alloc _).cell (own_news h a ha j u hj)
    have HO := Lib.hid hone
    obtain ⟨i0, hi, hz0, hz1, hz2⟩ := info_parts infoS
    have hrow : Hid ((w.alloc (.cells #[] 147)).ownsRow w.heap.size 147 3 (.slice (some ⟨w.heap.size, 0, none⟩) 0 0) 0 []) := World.ownsRow_made w #[] 0 (Nat.le_refl _) (by decide) rfl
    clear h hone hxl
    go_enter Tryz.func120, Tryz.ntmps120
    go_wp2_with (at_builtin; refine wpList_append_any _ rfl (.tmp 5) (.tmp 6) 128 rfl w.heap.size 147 i0 (.agg #[.int .i64 0, .int .i64 0, .int .i64 0]) 3 24 Tryz.underlying128 hi hz0 hz1 hz2 rfl (by decide) _ 0 [] rfl hrow.out (some ⟨g, 0, none⟩) n cap xs rfl hl.out (fun e => by cases e) HN.out HO.out hn63.out (by omega) ?_ ?_)
    · rw [size_alloc]; omega
    · intro v' w' hown hgrow _ _
      have HF := Lib.hid (And.intro hown hgrow)
      clear hown hgrow
      go_wp2_with fail
      refine HR.out _ _ ⟨v', rfl, by simpa using HF.out.1, ((Grow.refl w).alloc _).grown HF.out.2 (fun k hk => ?_)⟩
      have : w.heap.size = k := by simpa [Value.ownBlock] using hk
      omega
set_option maxRecDepth 100000 in
set_option maxHeartbeats 1000000 in
theorem cloneW {w : World} {base n : Nat} {v : Value} {xs : List Value} (h : w.ownsRow base 150 5 v n xs) (hone : ∀ u ∈ xs, u.oneCell' = true) (hn : n ≤ 1000000) : Calls Tryz.prog 121 #[v] w (CloneR w 150 5 n xs) := by
  refine cph fun R HR => ?_
  have q : ∀ (w : World) (a : Option Addr) (n c n' c' : Nat), (binOp .eql 134 (.slice a n c) (.slice none n' c')).run Tryz.prog w = .ok (.bool a.isNone) w := fun w a n c n' c' => Lib.run_eql_slice_nil w _ _ a n c n' c' Tryz.underlying134
  have hxl : xs.length = n * 5 := h.1
  rcases own_val h with ⟨rfl, h0⟩ | ⟨g, cap, rfl, hc⟩
  · subst h0
    obtain rfl : xs = [] := List.eq_nil_of_length_eq_zero (by simpa using hxl)
    clear h hone
    go_enter Tryz.func121, Tryz.ntmps121
    go_wp2_with fail
    exact HR.out _ _ ⟨_, rfl, World.ownsRow_nil _ _ _ _, Grow.refl _⟩
  · have hl : Hid (xs.length = n * 5) := hxl
    have hn63 : Hid (0 + n ≤ maxLen) := by show _ ≤ _; unfold maxLen; omega
    have HN : Hid (∀ a, (some ⟨g, 0, none⟩ : Option Addr) = some a → ∀ j u, xs[j]? = some u → (w.alloc (.cells #[] 150)).cell? (a.add j) = some u) := fun a ha j u hj => ((Grow.refl w).alloc _).cell (own_news h a ha j u hj)
    have HO := Lib.hid hone
    obtain ⟨i0, hi, hz0, hz1, hz2⟩ := info_parts infoW
    have hrow : Hid ((w.alloc (.cells #[] 150)).ownsRow w.heap.size 150 5 (.slice (some ⟨w.heap.size, 0, none⟩) 0 0) 0 []) := World.ownsRow_made w #[] 0 (Nat.le_refl _) (by decide) rfl
    clear h hone hxl
    go_enter Tryz.func121, Tryz.ntmps121
    go_wp2_with (at_builtin; refine wpList_append_any _ rfl (.tmp 5) (.tmp 6) 134 rfl w.heap.size 150 i0 (.agg #[.int .i64 0, .bool false, .bool false, .bool false, .bool false]) 5 16 Tryz.underlying134 hi hz0 hz1 hz2 rfl (by decide) _ 0 [] rfl hrow.out (some ⟨g, 0, none⟩) n cap xs rfl hl.out (fun e => by cases e) HN.out HO.out hn63.out (by omega) ?_ ?_)
    · rw [size_alloc]; omega
    · intro v' w' hown hgrow _ _
      have HF := Lib.hid (And.intro hown hgrow)
      clear hown hgrow
      go_wp2_with fail
      refine HR.out _ _ ⟨v', rfl, by simpa using HF.out.1, ((Grow.refl w).alloc _).grown HF.out.2 (fun k hk => ?_)⟩
      have : w.heap.size = k := by simpa [Value.ownBlock] using hk
      omega
/-- The copy of a map. -/
def MCloneR (w : World) (kv : List (Int × Value)) (e : Ending) (w' : World) : Prop := e = .returned (.map (some w.heap.size)) ∧ IMap w' w.heap.size kv ∧ Grow w w' ∧ w'.heap.size = w.heap.size + 1
set_option maxRecDepth 100000 in
set_option maxHeartbeats 1000000 in
theorem cloneM {w : World} {b : Nat} {kv : List (Int × Value)} (h : IMap w b kv) : Calls Tryz.prog 119 #[.map (some b)] w (MCloneR w kv) := by
  refine cph fun R HR => ?_
  obtain ⟨es, clock, hb, hes, hst⟩ := h
  have hq := fun w => run_eql_map_nil_sl (P := Tryz.prog) w 124 _ _ (some b) Tryz.underlying124
  have HS := Lib.hid (And.intro hes hst)
  clear hes hst
  go_enter Tryz.func119, Tryz.ntmps119
  go_wp2_with fail
  rw [run_callFunc_extern Tryz.func142 (by kernel_rfl) (by kernel_rfl) (by kernel_rfl) (e := Extern.MapsClone.clone) (by kernel_rfl), run_maps_clone_sl w 124 hb]
  simp only [Result.andThen]
  rw [Oper.upon_value]
  go_wp2_with fail
  rw [run_typeAssert_map_sl _ 124 _ _ _ _ Tryz.underlying124]
  simp only [Result.andThen]
  rw [Oper.upon_value]
  go_wp2_with fail
  exact HR.out _ _ ⟨rfl, ⟨es, clock, (MapKept.heap_alloc w _).1, HS.out⟩, (Grow.refl w).alloc _, size_alloc _ _⟩
end Go.Proofs.YtcgcljmnnjalpaaGreat
