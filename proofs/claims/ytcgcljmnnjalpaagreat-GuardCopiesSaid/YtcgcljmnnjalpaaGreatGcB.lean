/- Copies of the managers. -/
import Derived.Test.YtcgcljmnnjalpaaGreatGcA
import Derived.Deep.RegionHeld3
set_option linter.unusedVariables false
set_option linter.unusedSimpArgs false
namespace Go.Proofs.YtcgcljmnnjalpaaGreat
open Go.RowKit Go.Kx
open Go.ChangeMaps (setBlock)
/-- A copy: a manager in the same state, in memory of its own. -/
def CpP (At : Nat → World → FP → RS → Prop) (w : World) (s : RS) (e : Ending) (w' : World) : Prop := ∃ b' F', e = .returned (.pointer (some ⟨b', 0, none⟩)) ∧ At b' w' F' s ∧ Grow w w' ∧ ∀ j, F' j → w.heap.size ≤ j
theorem one_flat {α : Type} {enc : α → List Value} (h : ∀ x, ∀ u ∈ enc x, u.oneCell' = true) (l : List α) : ∀ u ∈ l.flatMap enc, u.oneCell' = true := fun u hu => by
  obtain ⟨x, _, hx⟩ := List.mem_flatMap.1 hu
  exact h x u hx
theorem one_ints (l : List Int) : ∀ u ∈ l.map (Value.int .i64), u.oneCell' = true := fun u hu => by
  obtain ⟨x, _, rfl⟩ := List.mem_map.1 hu
  rfl
theorem one_H (r : Nat → Int) : ∀ u ∈ encH r, u.oneCell' = true := fun u hu => by
  simp [encH] at hu
  rcases hu with rfl | rfl | rfl <;> rfl
theorem one_2 (x : P2) : ∀ u ∈ enc2 x, u.oneCell' = true := fun u hu => by
  simp [enc2] at hu
  rcases hu with rfl | rfl <;> rfl
theorem one_S (x : Itm) : ∀ u ∈ encS x, u.oneCell' = true := fun u hu => by
  simp [encS] at hu
  rcases hu with rfl | rfl | rfl <;> rfl
theorem one_Q (x : Itm) : ∀ u ∈ encQ x, u.oneCell' = true := fun u hu => by
  simp [encQ] at hu
  rcases hu with rfl | rfl | rfl | rfl | rfl <;> rfl
/-- A row with something in it is a block. -/
theorem own_pos {w : World} {base n : Nat} {e : TypeId} {sz : Nat} {v : Value} {xs : List Value} (h : w.ownsRow base e sz v n xs) (hn : 1 ≤ n) : ∃ g cap, v = .slice (some ⟨g, 0, none⟩) n cap := by
  rcases own_val h with ⟨rfl, h0⟩ | ⟨g, cap, rfl, _⟩
  · omega
  · exact ⟨g, cap, rfl⟩
theorem fresh {w w1 w2 : World} {n : Nat} {e : TypeId} {sz : Nat} {v : Value} {xs : List Value} (hg : Grow w w1) (h : w2.ownsRow w1.heap.size e sz v n xs) : ∀ k, v.ownBlock = some k → w.heap.size ≤ k := fun k hk => Nat.le_trans hg.size (h.lt k hk).1
theorem okTh0 {s : RS} (h : Ok s) : okTh s 0 = true := by have := h.n1; unfold okTh; simp; omega
set_option maxRecDepth 100000 in
set_option maxHeartbeats 2000000 in
theorem hzCopy {b : Nat} {w : World} {F : FP} {s : RS} (h : HZ b w F s) (hs : s.items.length ≤ 100000) : Calls Tryz.prog 89 #[.pointer (some ⟨b, 0, none⟩)] w (CpP HZ w s) := by
  refine cph fun R HR => ?_
  obtain ⟨H, cH, v, hv⟩ := h
  have HV := Lib.hid hv
  have e0 := (blk_cell hv.blk 0).trans (rfl : _ = some (Value.slice (some ⟨H, 0, none⟩) s.n cH))
  have e1 := (blk_cell hv.blk 1).trans (rfl : _ = some (v))
  have hn4 := hv.ok.n4
  have hn1 := hv.ok.n1
  have hc0 : ∀ W, Grow w W → Calls Tryz.prog 116 #[.slice (some ⟨H, 0, none⟩) s.n cH] W (CloneR W 76 3 s.n ((hRows s).flatMap encH)) := fun W hg => cloneH (owns_grow hv.hrow hg) (one_flat one_H _) (by omega)
  have HC0 := Lib.hid hc0
  have hc1 : ∀ W, Grow w W → Calls Tryz.prog 117 #[v] W (CloneR W 140 2 s.items.length ((hzl s).flatMap enc2)) := fun W hg => cloneZ (owns_grow hv.row hg) (one_flat one_2 _) (by omega)
  have HC1 := Lib.hid hc1
  have q : ∀ (w : World) (a : Option Addr) (n c n' c' : Nat), (binOp .eql 116 (.slice a n c) (.slice none n' c')).run Tryz.prog w = .ok (.bool a.isNone) w := fun w a n c n' c' => Lib.run_eql_slice_nil w _ _ a n c n' c' Tryz.underlying116
  have HSX : Hid (∀ W, Grow w W → W.cell? ⟨b, 0, none⟩ = some (Value.slice (some ⟨H, 0, none⟩) s.n cH) ∧ W.cell? ⟨b, 1, none⟩ = some (v) ∧ Grow w W) := fun W hg => ⟨hg.cell e0, hg.cell e1, hg⟩
  obtain ⟨A, m, c, rfl⟩ := own_sl hv.row
  clear hv hc0 hc1
  go_enter Tryz.func89, Tryz.ntmps89
  go_upto_region 3 with fail
  go_cut [2] (fun v wx => Hid (∃ b' F', v = .pointer (some ⟨b', 0, none⟩) ∧ HZ b' wx F' s ∧ Grow w wx ∧ ∀ j, F' j → w.heap.size ≤ j))
  case first =>
    go_region_held3 (fun W => W.cell? ⟨b, 0, none⟩ = some (Value.slice (some ⟨H, 0, none⟩) s.n cH) ∧ W.cell? ⟨b, 1, none⟩ = some (Value.slice A m c) ∧ Grow w W) (first | exact HSX.out _ (by assumption) | exact HSX.out _ (Grow.refl _) | exact HSX.out _ (Grow.refl _).drew | exact HSX.out _ (Grow.drew (by assumption)) | exact HSX.out _ (Grow.alloc (by assumption) _) | exact HSX.out _ (Grow.alloc (Grow.drew (by assumption)) _)) ((first | (go_at_call 116; (with_reducible refine Calls.mono (HC0.out _ ?_) ?_); (first | assumption | exact (by assumption : _ ∧ _ ∧ Grow w _).2.2 | exact (Grow.refl _).drew | exact Grow.drew (by assumption)); rintro e w1 ⟨v0, rfl, o0, g0⟩; obtain ⟨Hn, cn, rfl⟩ := own_pos o0 hn1; have gg0 : Grow w w1 := Grow.trans (by first | assumption | exact (by assumption : _ ∧ _ ∧ Grow w _).2.2 | exact (Grow.refl _).drew | exact Grow.drew (by assumption)) g0; have H0 := Lib.hid o0; clear o0) | (go_at_call 117; (with_reducible refine Calls.mono (HC1.out _ ?_) ?_); (first | assumption | exact (by assumption : _ ∧ _ ∧ Grow w _).2.2 | exact (Grow.refl _).drew | exact Grow.drew (by assumption)); rintro e w2 ⟨v1, rfl, o1, g1⟩; obtain ⟨An, mn, kn, rfl⟩ := own_sl o1; have gg1 : Grow w w2 := Grow.trans (by first | assumption | exact (by assumption : _ ∧ _ ∧ Grow w _).2.2 | exact (Grow.refl _).drew | exact Grow.drew (by assumption)) g1; have H1 := Lib.hid o1; clear o1)))
    all_goals
      go_wp2_with fail
      go_meet
      refine ⟨w2.heap.size, fun k => k = w2.heap.size ∨ k = Hn ∨ (Value.slice An mn kn).ownBlock = some k, rfl, ⟨Hn, cn, .slice An mn kn, HV.out.kind, HV.out.ok, blk_new w2 _, own_base_le (owns_grow (owns_grow H0.out g1) ((Grow.refl w2).alloc _)) (Nat.zero_le _), own_base_le (owns_grow H1.out ((Grow.refl w2).alloc _)) (Nat.zero_le _), fun k => Iff.rfl⟩, gg1.alloc _, fun j hj => ?_⟩
      rcases hj with rfl | rfl | hj
      · exact gg1.size
      · exact (H0.out.lt _ rfl).1
      · exact fresh gg0 H1.out j hj
  case rest =>
    obtain ⟨b', F', rfl, hq⟩ := hcut.out
    have H9 := Lib.hid hq
    clear hq hcut
    go_wp2_with fail
    exact HR.out _ _ ⟨b', F', rfl, H9.out⟩
set_option maxRecDepth 100000 in
set_option maxHeartbeats 2000000 in
theorem epCopy {b : Nat} {w : World} {F : FP} {s : RS} (h : EM b w F s) (hs : s.items.length ≤ 100000) : Calls Tryz.prog 90 #[.pointer (some ⟨b, 0, none⟩)] w (CpP EM w s) := by
  refine cph fun R HR => ?_
  obtain ⟨T, cT, v, hv⟩ := h
  have HV := Lib.hid hv
  have hth := epHas hv 0
  rw [okTh0 hv.ok] at hth
  have HT := Lib.hid hth
  have e0 := (blk_cell hv.blk 0).trans (rfl : _ = some (Value.int .i64 s.now))
  have e1 := (blk_cell hv.blk 1).trans (rfl : _ = some (Value.slice (some ⟨T, 0, none⟩) s.n cT))
  have e2 := (blk_cell hv.blk 2).trans (rfl : _ = some (v))
  have hn4 := hv.ok.n4
  have hn1 := hv.ok.n1
  have hc0 : ∀ W, Grow w W → Calls Tryz.prog 88 #[.slice (some ⟨T, 0, none⟩) s.n cT] W (CloneR W 3 1 s.n ((thr s).map (Value.int .i64))) := fun W hg => cloneI (owns_grow hv.trow hg) (one_ints _) (by omega)
  have HC0 := Lib.hid hc0
  have hc1 : ∀ W, Grow w W → Calls Tryz.prog 118 #[v] W (CloneR W 144 2 s.items.length ((epl s).flatMap enc2)) := fun W hg => cloneE (owns_grow hv.row hg) (one_flat one_2 _) (by omega)
  have HC1 := Lib.hid hc1
  have HSX : Hid (∀ W, Grow w W → W.cell? ⟨b, 0, none⟩ = some (Value.int .i64 s.now) ∧ W.cell? ⟨b, 1, none⟩ = some (Value.slice (some ⟨T, 0, none⟩) s.n cT) ∧ W.cell? ⟨b, 2, none⟩ = some (v) ∧ Grow w W) := fun W hg => ⟨hg.cell e0, hg.cell e1, hg.cell e2, hg⟩
  obtain ⟨A, m, c, rfl⟩ := own_sl hv.row
  clear hv hth hc0 hc1
  go_enter Tryz.func90, Tryz.ntmps90
  go_upto_region 3 with (go_at_call 105; refine HT.out.mono ?_; rintro e w9 ⟨rfl, rfl⟩)
  go_cut [2] (fun v wx => Hid (∃ b' F', v = .pointer (some ⟨b', 0, none⟩) ∧ EM b' wx F' s ∧ Grow w wx ∧ ∀ j, F' j → w.heap.size ≤ j))
  case first =>
    go_region_held3 (fun W => W.cell? ⟨b, 0, none⟩ = some (Value.int .i64 s.now) ∧ W.cell? ⟨b, 1, none⟩ = some (Value.slice (some ⟨T, 0, none⟩) s.n cT) ∧ W.cell? ⟨b, 2, none⟩ = some (Value.slice A m c) ∧ Grow w W) (first | exact HSX.out _ (by assumption) | exact HSX.out _ (Grow.refl _) | exact HSX.out _ (Grow.refl _).drew | exact HSX.out _ (Grow.drew (by assumption)) | exact HSX.out _ (Grow.alloc (by assumption) _) | exact HSX.out _ (Grow.alloc (Grow.drew (by assumption)) _)) ((first | (go_at_call 88; (with_reducible refine Calls.mono (HC0.out _ ?_) ?_); (first | assumption | exact (by assumption : _ ∧ _ ∧ _ ∧ Grow w _).2.2.2 | exact (Grow.refl _).drew | exact Grow.drew (by assumption)); rintro e w1 ⟨v0, rfl, o0, g0⟩; obtain ⟨Hn, cn, rfl⟩ := own_pos o0 hn1; have gg0 : Grow w w1 := Grow.trans (by first | assumption | exact (by assumption : _ ∧ _ ∧ _ ∧ Grow w _).2.2.2 | exact (Grow.refl _).drew | exact Grow.drew (by assumption)) g0; have H0 := Lib.hid o0; clear o0) | (go_at_call 118; (with_reducible refine Calls.mono (HC1.out _ ?_) ?_); (first | assumption | exact (by assumption : _ ∧ _ ∧ _ ∧ Grow w _).2.2.2 | exact (Grow.refl _).drew | exact Grow.drew (by assumption)); rintro e w2 ⟨v1, rfl, o1, g1⟩; obtain ⟨An, mn, kn, rfl⟩ := own_sl o1; have gg1 : Grow w w2 := Grow.trans (by first | assumption | exact (by assumption : _ ∧ _ ∧ _ ∧ Grow w _).2.2.2 | exact (Grow.refl _).drew | exact Grow.drew (by assumption)) g1; have H1 := Lib.hid o1; clear o1)))
    all_goals
      go_wp2_with fail
      go_meet
      refine ⟨w2.heap.size, fun k => k = w2.heap.size ∨ k = Hn ∨ (Value.slice An mn kn).ownBlock = some k, rfl, ⟨Hn, cn, .slice An mn kn, HV.out.kind, HV.out.ok, HV.out.lo0, blk_new w2 _, own_base_le (owns_grow (owns_grow H0.out g1) ((Grow.refl w2).alloc _)) (Nat.zero_le _), own_base_le (owns_grow H1.out ((Grow.refl w2).alloc _)) (Nat.zero_le _), fun k => Iff.rfl⟩, gg1.alloc _, fun j hj => ?_⟩
      rcases hj with rfl | rfl | hj
      · exact gg1.size
      · exact (H0.out.lt _ rfl).1
      · exact fresh gg0 H1.out j hj
  case rest =>
    obtain ⟨b', F', rfl, hq⟩ := hcut.out
    have H9 := Lib.hid hq
    clear hq hcut
    go_wp2_with fail
    exact HR.out _ _ ⟨b', F', rfl, H9.out⟩
set_option maxRecDepth 100000 in
set_option maxHeartbeats 2000000 in
theorem coCopy {b : Nat} {w : World} {F : FP} {s : RS} (h : CM b w F s) (hs : s.items.length ≤ 100000) : Calls Tryz.prog 92 #[.pointer (some ⟨b, 0, none⟩)] w (CpP CM w s) := by
  refine cph fun R HR => ?_
  obtain ⟨H, cH, M, v, hv⟩ := h
  have HV := Lib.hid hv
  have hth := coHas hv 0
  rw [okTh0 hv.ok] at hth
  have HT := Lib.hid hth
  have e0 := (blk_cell hv.blk 0).trans (rfl : _ = some (Value.slice (some ⟨H, 0, none⟩) s.n cH))
  have e1 := (blk_cell hv.blk 1).trans (rfl : _ = some (Value.map (some M)))
  have e2 := (blk_cell hv.blk 2).trans (rfl : _ = some (v))
  have hn4 := hv.ok.n4
  have hn1 := hv.ok.n1
  obtain ⟨kv, hm, hk⟩ := hv.cmap
  have HK := Lib.hid hk
  have hc0 : ∀ W, Grow w W → Calls Tryz.prog 116 #[.slice (some ⟨H, 0, none⟩) s.n cH] W (CloneR W 76 3 s.n ((hRows s).flatMap encH)) := fun W hg => cloneH (owns_grow hv.hrow hg) (one_flat one_H _) (by omega)
  have HC0 := Lib.hid hc0
  have hc1 : ∀ W, Grow w W → Calls Tryz.prog 119 #[.map (some M)] W (MCloneR W kv) := fun W hg => cloneM (hm.fr hg (fun h => h))
  have HC1 := Lib.hid hc1
  have hc2 : ∀ W, Grow w W → Calls Tryz.prog 88 #[v] W (CloneR W 3 1 (addrs s).length ((addrs s).map (Value.int .i64))) := fun W hg => cloneI (owns_grow hv.row hg) (one_ints _) (by rw [addrs_len]; omega)
  have HC2 := Lib.hid hc2
  have HSX : Hid (∀ W, Grow w W → W.cell? ⟨b, 0, none⟩ = some (Value.slice (some ⟨H, 0, none⟩) s.n cH) ∧ W.cell? ⟨b, 1, none⟩ = some (Value.map (some M)) ∧ W.cell? ⟨b, 2, none⟩ = some (v) ∧ Grow w W) := fun W hg => ⟨hg.cell e0, hg.cell e1, hg.cell e2, hg⟩
  obtain ⟨A, m, c, rfl⟩ := own_sl hv.row
  clear hv hm hk hth hc0 hc1 hc2
  go_enter Tryz.func92, Tryz.ntmps92
  go_upto_region 3 with (go_at_call 111; refine HT.out.mono ?_; rintro e w9 ⟨rfl, rfl⟩)
  go_cut [2] (fun v wx => Hid (∃ b' F', v = .pointer (some ⟨b', 0, none⟩) ∧ CM b' wx F' s ∧ Grow w wx ∧ ∀ j, F' j → w.heap.size ≤ j))
  case first =>
    go_region_held3 (fun W => W.cell? ⟨b, 0, none⟩ = some (Value.slice (some ⟨H, 0, none⟩) s.n cH) ∧ W.cell? ⟨b, 1, none⟩ = some (Value.map (some M)) ∧ W.cell? ⟨b, 2, none⟩ = some (Value.slice A m c) ∧ Grow w W) (first | exact HSX.out _ (by assumption) | exact HSX.out _ (Grow.refl _) | exact HSX.out _ (Grow.refl _).drew | exact HSX.out _ (Grow.drew (by assumption)) | exact HSX.out _ (Grow.alloc (by assumption) _) | exact HSX.out _ (Grow.alloc (Grow.drew (by assumption)) _)) ((first | (go_at_call 116; (with_reducible refine Calls.mono (HC0.out _ ?_) ?_); (first | assumption | exact (by assumption : _ ∧ _ ∧ _ ∧ Grow w _).2.2.2 | exact (Grow.refl _).drew | exact Grow.drew (by assumption)); rintro e w1 ⟨v0, rfl, o0, g0⟩; obtain ⟨Hn, cn, rfl⟩ := own_pos o0 hn1; have gg0 : Grow w w1 := Grow.trans (by first | assumption | exact (by assumption : _ ∧ _ ∧ _ ∧ Grow w _).2.2.2 | exact (Grow.refl _).drew | exact Grow.drew (by assumption)) g0; have H0 := Lib.hid o0; clear o0) | (go_at_call 119; (with_reducible refine Calls.mono (HC1.out _ ?_) ?_); (first | assumption | exact (by assumption : _ ∧ _ ∧ _ ∧ Grow w _).2.2.2 | exact (Grow.refl _).drew | exact Grow.drew (by assumption)); rintro e w2 ⟨rfl, o1, g1, z1⟩; have gg1 : Grow w w2 := Grow.trans (by first | assumption | exact (by assumption : _ ∧ _ ∧ _ ∧ Grow w _).2.2.2 | exact (Grow.refl _).drew | exact Grow.drew (by assumption)) g1; have H1 := Lib.hid (And.intro o1 z1); clear o1 z1) | (go_at_call 88; (with_reducible refine Calls.mono (HC2.out _ ?_) ?_); (first | assumption | exact (by assumption : _ ∧ _ ∧ _ ∧ Grow w _).2.2.2 | exact (Grow.refl _).drew | exact Grow.drew (by assumption)); rintro e w3 ⟨v2, rfl, o2, g2⟩; obtain ⟨An, mn, kn, rfl⟩ := own_sl o2; have gg2 : Grow w w3 := Grow.trans (by first | assumption | exact (by assumption : _ ∧ _ ∧ _ ∧ Grow w _).2.2.2 | exact (Grow.refl _).drew | exact Grow.drew (by assumption)) g2; have H2 := Lib.hid o2; clear o2)))
    all_goals
      go_wp2_with fail
      go_meet
      have hM := (H1.out.1.fr g2 (fun h => h)).alloc (Obj.cells #[Value.slice (some ⟨Hn, 0, none⟩) s.n cn, Value.map (some w1.heap.size), Value.slice An mn kn] 132)
      refine ⟨w3.heap.size, fun k => k = w3.heap.size ∨ k = Hn ∨ k = w1.heap.size ∨ (Value.slice An mn kn).ownBlock = some k, rfl, ⟨Hn, cn, w1.heap.size, .slice An mn kn, HV.out.kind, HV.out.ok, blk_new w3 _, own_base_le (owns_grow (owns_grow (owns_grow H0.out g1) g2) ((Grow.refl w3).alloc _)) (Nat.zero_le _), ⟨kv, hM, HK.out⟩, own_base_le (owns_grow H2.out ((Grow.refl w3).alloc _)) (Nat.zero_le _), fun k => Iff.rfl⟩, gg2.alloc _, fun j hj => ?_⟩
      rcases hj with rfl | rfl | rfl | hj
      · exact gg2.size
      · exact (H0.out.lt _ rfl).1
      · exact gg0.size
      · exact fresh gg1 H2.out j hj
  case rest =>
    obtain ⟨b', F', rfl, hq⟩ := hcut.out
    have H9 := Lib.hid hq
    clear hq hcut
    go_wp2_with fail
    exact HR.out _ _ ⟨b', F', rfl, H9.out⟩
end Go.Proofs.YtcgcljmnnjalpaaGreat
