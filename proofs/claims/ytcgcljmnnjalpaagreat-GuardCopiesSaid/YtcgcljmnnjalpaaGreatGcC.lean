/- Copies of the quiet and the span managers, and of the guard. -/
import Derived.Test.YtcgcljmnnjalpaaGreatGcB
import Derived.Deep.WholeRow
set_option linter.unusedVariables false
set_option linter.unusedSimpArgs false
namespace Go.Proofs.YtcgcljmnnjalpaaGreat
open Go.RowKit Go.Kx
open Go.ChangeMaps (setBlock)
theorem szQ (a : Array Value) (h : a.size = 6) : (Tryz.prog.info? 136).map (·.size) = some a.size := by rw [h]; kernel_rfl
theorem szS (a : Array Value) (h : a.size = 28) : (Tryz.prog.info? 130).map (·.size) = some a.size := by rw [h]; kernel_rfl
theorem qArr_one (s : RS) (A : Option Addr) (m c : Nat) : (qArr s (.slice A m c)).all (·.oneCell') = true := by simp [qArr, Value.oneCell']
theorem spArr_one (s : RS) (M : Nat) (A : Option Addr) (m c : Nat) : (spArr s M (.slice A m c)).all (·.oneCell') = true := by simp [spArr, Value.oneCell']
set_option maxRecDepth 100000 in
set_option maxHeartbeats 2000000 in
theorem quCopy {b : Nat} {w : World} {F : FP} {s : RS} (h : QG b w F s) (hs : s.items.length ≤ 100000) : Calls Tryz.prog 93 #[.pointer (some ⟨b, 0, none⟩)] w (CpP QG w s) := by
  refine cph fun R HR => ?_
  obtain ⟨⟨v, hv⟩, hgone⟩ := h
  have HV := Lib.hid (And.intro hv hgone)
  have hth := quHas hv 0
  rw [okTh0 hv.ok] at hth
  have HT := Lib.hid hth
  have hc : ∀ W, Grow w W → Calls Tryz.prog 121 #[v] W (CloneR W 150 5 s.items.length (s.items.flatMap encQ)) := fun W hg => cloneW (owns_grow hv.row hg) (one_flat one_Q _) (by omega)
  have HC := Lib.hid hc
  obtain ⟨A, m, c, rfl⟩ := own_sl hv.row
  have hbk := hv.blk
  have e5 := (blk_cell hv.blk 5).trans (rfl : _ = some (Value.slice A m c))
  have hsz : (qArr s (.slice A m c)).size = 6 := rfl
  have h1 := qArr_one s A m c
  obtain ⟨z, hz⟩ : ∃ z, qArr s (.slice A m c) = z := ⟨_, rfl⟩
  rw [hz] at hbk hsz h1
  have HZ := Lib.hid (And.intro hz (And.intro hbk (And.intro hsz h1)))
  clear hv hth hc hgone hz hbk hsz h1
  go_enter Tryz.func93, Tryz.ntmps93
  go_upto_region 4 with (first | (go_at_call 114; refine HT.out.mono ?_; rintro e w9 ⟨rfl, rfl⟩) | (refine wpList_load_row rfl 136 (.tmp 8) rfl b rfl 136 z (0, 0) _ HZ.out.2.1 Tryz.underlying136 rfl (szQ _ HZ.out.2.2.1) ?_) | (refine wpList_store_row rfl 136 (.tmp 3) (.tmp 9) rfl w.heap.size z rfl rfl 136 _ (blk_new w _) (szQ _ HZ.out.2.2.1) (HZ.out.2.2.1.symm ▸ rfl) HZ.out.2.2.2 ?_; rw [World.setRow_alloc_new]))
  have g1 : Grow w (w.alloc (Obj.cells z 136)) := (Grow.refl w).alloc _
  have hb1 := blk_new w (Obj.cells z 136)
  have hs1 := size_alloc w (Obj.cells z 136)
  obtain ⟨w1, hw1⟩ : ∃ w1, w.alloc (Obj.cells z 136) = w1 := ⟨_, rfl⟩
  rw [hw1] at g1 hb1 hs1 ⊢
  have e5' := g1.cell e5
  have H1 := Lib.hid (And.intro g1 (And.intro hb1 hs1))
  clear g1 hb1 hs1 hw1 e5
  go_wp2_with (go_at_call 121; refine (HC.out _ H1.out.1).mono ?_; rintro e w2 ⟨v2, rfl, o2, g2⟩; obtain ⟨A2, m2, c2, rfl⟩ := own_sl o2; have hb2 := g2.at_ H1.out.2.1; rw [← HZ.out.1] at hb2; have z5 := (blk_cell hb2 5).trans (rfl : _ = some (Value.slice A m c)); have f5 := blk_free hb2 5; have H2 := Lib.hid (And.intro o2 (And.intro g2 hb2)); clear o2 g2 hb2)
  have hb3 := blk_set H2.out.2.2 5 (Value.slice A2 m2 c2)
  have hf : Fr (· = w.heap.size) w2 (w2.setCell ⟨w.heap.size, 5, none⟩ (Value.slice A2 m2 c2)) := (Fr.refl _ _).setCell _ _ (.inr rfl)
  refine HR.out _ _ ⟨w.heap.size, fun k => k = w.heap.size ∨ (Value.slice A2 m2 c2).ownBlock = some k, rfl, ⟨⟨.slice A2 m2 c2, HV.out.1.kind, HV.out.1.ok, hb3, ?_, fun k => Iff.rfl⟩, HV.out.2⟩, (H1.out.1.trans H2.out.2.1).setCell _ _ (Nat.le_refl _), fun j hj => ?_⟩
  · exact own_base_le (owns_fr H2.out.1 hf (fun j hj e => by have := (H2.out.1.lt j hj).1; have := H1.out.2.2; omega)) (Nat.zero_le _)
  · rcases hj with rfl | hj
    · exact Nat.le_refl _
    · exact fresh H1.out.1 H2.out.1 j hj
set_option maxRecDepth 100000 in
set_option maxHeartbeats 2000000 in
theorem spCopy {b : Nat} {w : World} {F : FP} {s : RS} (h : SP b w F s) (hs : s.items.length ≤ 100000) : Calls Tryz.prog 91 #[.pointer (some ⟨b, 0, none⟩)] w (CpP SP w s) := by
  refine cph fun R HR => ?_
  obtain ⟨M, v, hv⟩ := h
  have HV := Lib.hid hv
  have hth := spHas hv 0
  rw [okTh0 hv.ok] at hth
  have HT := Lib.hid hth
  obtain ⟨kv, hm, hk⟩ := hv.cmap
  have HK := Lib.hid hk
  have hcm : ∀ W, Grow w W → Calls Tryz.prog 119 #[.map (some M)] W (MCloneR W kv) := fun W hg => cloneM (hm.fr hg (fun h => h))
  have HCM := Lib.hid hcm
  have hc : ∀ W, Grow w W → Calls Tryz.prog 120 #[v] W (CloneR W 147 3 s.items.length (s.items.flatMap encS)) := fun W hg => cloneS (owns_grow hv.row hg) (one_flat one_S _) (by omega)
  have HC := Lib.hid hc
  obtain ⟨A, m, c, rfl⟩ := own_sl hv.row
  have hbk := hv.blk
  have e5 := (blk_cell hv.blk 27).trans (rfl : _ = some (Value.slice A m c))
  have eM := (blk_cell hv.blk 26).trans (rfl : _ = some (Value.map (some M)))
  have hsz : (spArr s M (.slice A m c)).size = 28 := rfl
  have h1 := spArr_one s M A m c
  obtain ⟨z, hz⟩ : ∃ z, spArr s M (.slice A m c) = z := ⟨_, rfl⟩
  rw [hz] at hbk hsz h1
  have HZ := Lib.hid (And.intro hz (And.intro hbk (And.intro hsz h1)))
  clear hv hth hc hz hbk hsz h1 hm hk hcm
  go_enter Tryz.func91, Tryz.ntmps91
  go_upto_region 4 with (first | (go_at_call 109; refine HT.out.mono ?_; rintro e w9 ⟨rfl, rfl⟩) | (refine wpList_load_row rfl 130 (.tmp 8) rfl b rfl 130 z (0, 0) _ HZ.out.2.1 Tryz.underlying130 rfl (szS _ HZ.out.2.2.1) ?_) | (refine wpList_store_row rfl 130 (.tmp 3) (.tmp 9) rfl w.heap.size z rfl rfl 130 _ (blk_new w _) (szS _ HZ.out.2.2.1) (HZ.out.2.2.1.symm ▸ rfl) HZ.out.2.2.2 ?_; rw [World.setRow_alloc_new]))
  have g1 : Grow w (w.alloc (Obj.cells z 130)) := (Grow.refl w).alloc _
  have hb1 := blk_new w (Obj.cells z 130)
  have hs1 := size_alloc w (Obj.cells z 130)
  obtain ⟨w1, hw1⟩ : ∃ w1, w.alloc (Obj.cells z 130) = w1 := ⟨_, rfl⟩
  rw [hw1] at g1 hb1 hs1 ⊢
  have e5' := g1.cell e5
  have eM' := g1.cell eM
  have H1 := Lib.hid (And.intro g1 (And.intro hb1 hs1))
  have E5 := Lib.hid e5
  clear g1 hb1 hs1 hw1 e5 eM
  go_upto_region 5 with (go_at_call 119; refine (HCM.out _ H1.out.1).mono ?_; rintro e w2 ⟨rfl, o2, g2, z2⟩; have hb2 := g2.at_ H1.out.2.1; rw [← HZ.out.1] at hb2; have y2 := (blk_cell hb2 26).trans (rfl : _ = some (Value.map (some M))); have f2 := blk_free hb2 26; have H2 := Lib.hid (And.intro o2 (And.intro g2 (And.intro hb2 z2))); clear o2 g2 hb2 z2)
  have hb3 := blk_set H2.out.2.2.1 26 (Value.map (some w1.heap.size))
  have g3 : Grow w (w2.setCell ⟨w.heap.size, 26, none⟩ (Value.map (some w1.heap.size))) := (H1.out.1.trans H2.out.2.1).setCell _ _ (Nat.le_refl _)
  have hf3 : Fr (· = w.heap.size) w2 (w2.setCell ⟨w.heap.size, 26, none⟩ (Value.map (some w1.heap.size))) := (Fr.refl _ _).setCell _ _ (.inr rfl)
  have hm3 := H2.out.1.fr hf3 (fun e => by have := H1.out.2.2; omega)
  obtain ⟨w3, hw3⟩ : ∃ w3, w2.setCell ⟨w.heap.size, 26, none⟩ (Value.map (some w1.heap.size)) = w3 := ⟨_, rfl⟩
  rw [hw3] at hb3 g3 hf3 hm3 ⊢
  have e5'' := g3.cell E5.out
  have H3 := Lib.hid (And.intro g3 (And.intro hb3 (And.intro hf3 hm3)))
  clear hb3 g3 hf3 hm3 hw3
  go_wp2_with (go_at_call 120; refine (HC.out _ H3.out.1).mono ?_; rintro e w4 ⟨v2, rfl, o2, g2⟩; obtain ⟨A2, m2, c2, rfl⟩ := own_sl o2; have hb2 := g2.at_ H3.out.2.1; have y5 := (blk_cell hb2 27).trans (rfl : _ = some (Value.slice A m c)); have f5 := blk_free hb2 27; have H4 := Lib.hid (And.intro o2 (And.intro g2 hb2)); clear o2 g2 hb2)
  have hb5 := blk_set H4.out.2.2 27 (Value.slice A2 m2 c2)
  have hf : Fr (· = w.heap.size) w4 (w4.setCell ⟨w.heap.size, 27, none⟩ (Value.slice A2 m2 c2)) := (Fr.refl _ _).setCell _ _ (.inr rfl)
  have hszz := H1.out.2.2
  refine HR.out _ _ ⟨w.heap.size, fun k => k = w.heap.size ∨ k = w1.heap.size ∨ (Value.slice A2 m2 c2).ownBlock = some k, rfl, ⟨w1.heap.size, .slice A2 m2 c2, HV.out.kind, HV.out.ok, hb5, ⟨kv, ?_, HK.out⟩, ?_, fun k => Iff.rfl⟩, (H3.out.1.trans H4.out.2.1).setCell _ _ (Nat.le_refl _), fun j hj => ?_⟩
  · exact (H3.out.2.2.2.fr H4.out.2.1 (fun h => h)).fr hf (fun e => by omega)
  · exact own_base_le (owns_fr H4.out.1 hf (fun j hj e => by have := (H4.out.1.lt j hj).1; have := H3.out.1.size; have := H3.out.2.2.1.size; have := H2.out.2.2.2; omega)) (Nat.zero_le _)
  · rcases hj with rfl | rfl | hj
    · exact Nat.le_refl _
    · omega
    · exact fresh H3.out.1 H4.out.1 j hj
end Go.Proofs.YtcgcljmnnjalpaaGreat
