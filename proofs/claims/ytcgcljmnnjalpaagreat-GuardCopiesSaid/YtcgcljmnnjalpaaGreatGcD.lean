/- Copies of the guard (printed by wip/gen/mkgcd.py). -/
import Derived.Test.YtcgcljmnnjalpaaGreatGcC
set_option linter.unusedVariables false
set_option linter.unusedSimpArgs false
namespace Go.Proofs.YtcgcljmnnjalpaaGreat
open Go.RowKit Go.Kx
open Go.ChangeMaps (setBlock)
theorem ta00 (w : World) (p : Option Addr) : (Instr.typeAssert (.iface 88 (.pointer p)) 64 88 true).run Tryz.prog w = .ok (.tuple #[.pointer p, .bool true]) w := by kernel_rfl
theorem ta10 (w : World) (p : Option Addr) : (Instr.typeAssert (.iface 91 (.pointer p)) 64 88 true).run Tryz.prog w = .ok (.tuple #[.pointer none, .bool false]) w := by kernel_rfl
theorem ta11 (w : World) (p : Option Addr) : (Instr.typeAssert (.iface 91 (.pointer p)) 64 91 true).run Tryz.prog w = .ok (.tuple #[.pointer p, .bool true]) w := by kernel_rfl
theorem ta20 (w : World) (p : Option Addr) : (Instr.typeAssert (.iface 94 (.pointer p)) 64 88 true).run Tryz.prog w = .ok (.tuple #[.pointer none, .bool false]) w := by kernel_rfl
theorem ta21 (w : World) (p : Option Addr) : (Instr.typeAssert (.iface 94 (.pointer p)) 64 91 true).run Tryz.prog w = .ok (.tuple #[.pointer none, .bool false]) w := by kernel_rfl
theorem ta22 (w : World) (p : Option Addr) : (Instr.typeAssert (.iface 94 (.pointer p)) 64 94 true).run Tryz.prog w = .ok (.tuple #[.pointer p, .bool true]) w := by kernel_rfl
theorem ta30 (w : World) (p : Option Addr) : (Instr.typeAssert (.iface 97 (.pointer p)) 64 88 true).run Tryz.prog w = .ok (.tuple #[.pointer none, .bool false]) w := by kernel_rfl
theorem ta31 (w : World) (p : Option Addr) : (Instr.typeAssert (.iface 97 (.pointer p)) 64 91 true).run Tryz.prog w = .ok (.tuple #[.pointer none, .bool false]) w := by kernel_rfl
theorem ta32 (w : World) (p : Option Addr) : (Instr.typeAssert (.iface 97 (.pointer p)) 64 94 true).run Tryz.prog w = .ok (.tuple #[.pointer none, .bool false]) w := by kernel_rfl
theorem ta33 (w : World) (p : Option Addr) : (Instr.typeAssert (.iface 97 (.pointer p)) 64 97 true).run Tryz.prog w = .ok (.tuple #[.pointer p, .bool true]) w := by kernel_rfl
theorem ta40 (w : World) (p : Option Addr) : (Instr.typeAssert (.iface 100 (.pointer p)) 64 88 true).run Tryz.prog w = .ok (.tuple #[.pointer none, .bool false]) w := by kernel_rfl
theorem ta41 (w : World) (p : Option Addr) : (Instr.typeAssert (.iface 100 (.pointer p)) 64 91 true).run Tryz.prog w = .ok (.tuple #[.pointer none, .bool false]) w := by kernel_rfl
theorem ta42 (w : World) (p : Option Addr) : (Instr.typeAssert (.iface 100 (.pointer p)) 64 94 true).run Tryz.prog w = .ok (.tuple #[.pointer none, .bool false]) w := by kernel_rfl
theorem ta43 (w : World) (p : Option Addr) : (Instr.typeAssert (.iface 100 (.pointer p)) 64 97 true).run Tryz.prog w = .ok (.tuple #[.pointer none, .bool false]) w := by kernel_rfl
theorem ta44 (w : World) (p : Option Addr) : (Instr.typeAssert (.iface 100 (.pointer p)) 64 100 true).run Tryz.prog w = .ok (.tuple #[.pointer p, .bool true]) w := by kernel_rfl
theorem ta50 (w : World) (p : Option Addr) : (Instr.typeAssert (.iface 103 (.pointer p)) 64 88 true).run Tryz.prog w = .ok (.tuple #[.pointer none, .bool false]) w := by kernel_rfl
theorem ta51 (w : World) (p : Option Addr) : (Instr.typeAssert (.iface 103 (.pointer p)) 64 91 true).run Tryz.prog w = .ok (.tuple #[.pointer none, .bool false]) w := by kernel_rfl
theorem ta52 (w : World) (p : Option Addr) : (Instr.typeAssert (.iface 103 (.pointer p)) 64 94 true).run Tryz.prog w = .ok (.tuple #[.pointer none, .bool false]) w := by kernel_rfl
theorem ta53 (w : World) (p : Option Addr) : (Instr.typeAssert (.iface 103 (.pointer p)) 64 97 true).run Tryz.prog w = .ok (.tuple #[.pointer none, .bool false]) w := by kernel_rfl
theorem ta54 (w : World) (p : Option Addr) : (Instr.typeAssert (.iface 103 (.pointer p)) 64 100 true).run Tryz.prog w = .ok (.tuple #[.pointer none, .bool false]) w := by kernel_rfl
theorem ta55 (w : World) (p : Option Addr) : (Instr.typeAssert (.iface 103 (.pointer p)) 64 103 true).run Tryz.prog w = .ok (.tuple #[.pointer p, .bool true]) w := by kernel_rfl
theorem gc_fin {w w2 : World} {s : RS} {TY b : Nat} {F : FP} {o : Obj} (g1 : Grow w (w.alloc o)) (g2 : Grow (w.alloc o) w2) (hm : MK TY b w2 F s) (hF : ∀ j, F j → (w.alloc o).heap.size ≤ j) (hb : w2.heap[w.heap.size]? = some (.cells #[.int .i64 s.kind, .nilIface] 66 (0, 0))) :
    CpP GM w s (.returned (.pointer (some ⟨w.heap.size, 0, none⟩))) (w2.setCell ⟨w.heap.size, 1, none⟩ (.iface TY (.pointer (some ⟨b, 0, none⟩)))) := by
  have hs := size_alloc w o
  have hf : Fr (· = w.heap.size) w2 (w2.setCell ⟨w.heap.size, 1, none⟩ (.iface TY (.pointer (some ⟨b, 0, none⟩)))) := (Fr.refl _ _).setCell _ _ (.inr rfl)
  refine ⟨w.heap.size, fun k => k = w.heap.size ∨ F k, rfl, ⟨TY, b, F, blk_set hb 1 _, (MK.local TY b).fr hm hf (fun k hk e => by have := hF k hk; omega), fun h => by have := hF _ h; omega, fun k => Iff.rfl⟩, (g1.trans g2).setCell _ _ (Nat.le_refl _), fun j hj => ?_⟩
  rcases hj with rfl | hj
  · exact Nat.le_refl _
  · have := hF j hj; omega
set_option maxRecDepth 100000 in
set_option maxHeartbeats 2000000 in
theorem gc1 {G b : Nat} {w : World} {F : FP} {s : RS} (hg : GBlk w G s.kind 91 b) (h : HZ b w F s) (hs : Small s) : Calls Tryz.prog 39 #[.pointer (some ⟨G, 0, none⟩)] w (CpP GM w s) := by
  refine cph fun R HR => ?_
  have HT := Lib.hid (gdThere hg)
  have hcp : ∀ W, Grow w W → Calls Tryz.prog 89 #[.pointer (some ⟨b, 0, none⟩)] W (CpP HZ W s) := fun W hw => hzCopy ((HZ.local b).fr h (G := fun _ => False) hw (fun _ _ h => h)) hs.1
  have HCp := Lib.hid hcp
  have k0 := (blk_cell hg 0).trans (rfl : _ = some (Value.int .i64 s.kind))
  have k1 := (blk_cell hg 1).trans (rfl : _ = some (Value.iface 91 (.pointer (some ⟨b, 0, none⟩))))
  have g1 : Grow w (w.alloc (Obj.cells #[.int .i64 s.kind, .nilIface] 66)) := (Grow.refl w).alloc _
  have hb1 := blk_new w (Obj.cells #[.int .i64 s.kind, .nilIface] 66)
  have k1' := g1.cell k1
  have H1 := Lib.hid (And.intro g1 hb1)
  clear g1 hb1 hg h hcp
  have t0 := ta10
  have t1 := ta11
  go_enter Tryz.func39, Tryz.ntmps39
  go_wp2_with (first | (go_at_call 79; refine HT.out.mono ?_; rintro e w9 ⟨rfl, rfl⟩) | (go_at_call 89; refine (HCp.out _ H1.out.1).mono ?_; rintro e w2 ⟨b2, F2, rfl, a2, g2, f2⟩; have hb2 := g2.at_ H1.out.2; have z1 := (blk_cell hb2 1).trans (rfl : _ = some Value.nilIface); have y1 := blk_free hb2 1; have H2 := Lib.hid (And.intro a2 (And.intro g2 (And.intro f2 hb2))); clear a2 g2 f2 hb2))
  exact HR.out _ _ (gc_fin H1.out.1 H2.out.2.1 (.inr (.inl ⟨rfl, H2.out.1⟩)) H2.out.2.2.1 H2.out.2.2.2)
set_option maxRecDepth 100000 in
set_option maxHeartbeats 2000000 in
theorem gc2 {G b : Nat} {w : World} {F : FP} {s : RS} (hg : GBlk w G s.kind 94 b) (h : EM b w F s) (hs : Small s) : Calls Tryz.prog 39 #[.pointer (some ⟨G, 0, none⟩)] w (CpP GM w s) := by
  refine cph fun R HR => ?_
  have HT := Lib.hid (gdThere hg)
  have hcp : ∀ W, Grow w W → Calls Tryz.prog 90 #[.pointer (some ⟨b, 0, none⟩)] W (CpP EM W s) := fun W hw => epCopy ((EM.local b).fr h (G := fun _ => False) hw (fun _ _ h => h)) hs.1
  have HCp := Lib.hid hcp
  have k0 := (blk_cell hg 0).trans (rfl : _ = some (Value.int .i64 s.kind))
  have k1 := (blk_cell hg 1).trans (rfl : _ = some (Value.iface 94 (.pointer (some ⟨b, 0, none⟩))))
  have g1 : Grow w (w.alloc (Obj.cells #[.int .i64 s.kind, .nilIface] 66)) := (Grow.refl w).alloc _
  have hb1 := blk_new w (Obj.cells #[.int .i64 s.kind, .nilIface] 66)
  have k1' := g1.cell k1
  have H1 := Lib.hid (And.intro g1 hb1)
  clear g1 hb1 hg h hcp
  have t0 := ta20
  have t1 := ta21
  have t2 := ta22
  go_enter Tryz.func39, Tryz.ntmps39
  go_wp2_with (first | (go_at_call 79; refine HT.out.mono ?_; rintro e w9 ⟨rfl, rfl⟩) | (go_at_call 90; refine (HCp.out _ H1.out.1).mono ?_; rintro e w2 ⟨b2, F2, rfl, a2, g2, f2⟩; have hb2 := g2.at_ H1.out.2; have z1 := (blk_cell hb2 1).trans (rfl : _ = some Value.nilIface); have y1 := blk_free hb2 1; have H2 := Lib.hid (And.intro a2 (And.intro g2 (And.intro f2 hb2))); clear a2 g2 f2 hb2))
  exact HR.out _ _ (gc_fin H1.out.1 H2.out.2.1 (.inr (.inr (.inl ⟨rfl, H2.out.1⟩))) H2.out.2.2.1 H2.out.2.2.2)
set_option maxRecDepth 100000 in
set_option maxHeartbeats 2000000 in
theorem gc3 {G b : Nat} {w : World} {F : FP} {s : RS} (hg : GBlk w G s.kind 97 b) (h : SP b w F s) (hs : Small s) : Calls Tryz.prog 39 #[.pointer (some ⟨G, 0, none⟩)] w (CpP GM w s) := by
  refine cph fun R HR => ?_
  have HT := Lib.hid (gdThere hg)
  have hcp : ∀ W, Grow w W → Calls Tryz.prog 91 #[.pointer (some ⟨b, 0, none⟩)] W (CpP SP W s) := fun W hw => spCopy ((SP.local b).fr h (G := fun _ => False) hw (fun _ _ h => h)) hs.1
  have HCp := Lib.hid hcp
  have k0 := (blk_cell hg 0).trans (rfl : _ = some (Value.int .i64 s.kind))
  have k1 := (blk_cell hg 1).trans (rfl : _ = some (Value.iface 97 (.pointer (some ⟨b, 0, none⟩))))
  have g1 : Grow w (w.alloc (Obj.cells #[.int .i64 s.kind, .nilIface] 66)) := (Grow.refl w).alloc _
  have hb1 := blk_new w (Obj.cells #[.int .i64 s.kind, .nilIface] 66)
  have k1' := g1.cell k1
  have H1 := Lib.hid (And.intro g1 hb1)
  clear g1 hb1 hg h hcp
  have t0 := ta30
  have t1 := ta31
  have t2 := ta32
  have t3 := ta33
  go_enter Tryz.func39, Tryz.ntmps39
  go_wp2_with (first | (go_at_call 79; refine HT.out.mono ?_; rintro e w9 ⟨rfl, rfl⟩) | (go_at_call 91; refine (HCp.out _ H1.out.1).mono ?_; rintro e w2 ⟨b2, F2, rfl, a2, g2, f2⟩; have hb2 := g2.at_ H1.out.2; have z1 := (blk_cell hb2 1).trans (rfl : _ = some Value.nilIface); have y1 := blk_free hb2 1; have H2 := Lib.hid (And.intro a2 (And.intro g2 (And.intro f2 hb2))); clear a2 g2 f2 hb2))
  exact HR.out _ _ (gc_fin H1.out.1 H2.out.2.1 (.inr (.inr (.inr (.inl ⟨rfl, H2.out.1⟩)))) H2.out.2.2.1 H2.out.2.2.2)
set_option maxRecDepth 100000 in
set_option maxHeartbeats 2000000 in
theorem gc4 {G b : Nat} {w : World} {F : FP} {s : RS} (hg : GBlk w G s.kind 100 b) (h : CM b w F s) (hs : Small s) : Calls Tryz.prog 39 #[.pointer (some ⟨G, 0, none⟩)] w (CpP GM w s) := by
  refine cph fun R HR => ?_
  have HT := Lib.hid (gdThere hg)
  have hcp : ∀ W, Grow w W → Calls Tryz.prog 92 #[.pointer (some ⟨b, 0, none⟩)] W (CpP CM W s) := fun W hw => coCopy ((CM.local b).fr h (G := fun _ => False) hw (fun _ _ h => h)) hs.1
  have HCp := Lib.hid hcp
  have k0 := (blk_cell hg 0).trans (rfl : _ = some (Value.int .i64 s.kind))
  have k1 := (blk_cell hg 1).trans (rfl : _ = some (Value.iface 100 (.pointer (some ⟨b, 0, none⟩))))
  have g1 : Grow w (w.alloc (Obj.cells #[.int .i64 s.kind, .nilIface] 66)) := (Grow.refl w).alloc _
  have hb1 := blk_new w (Obj.cells #[.int .i64 s.kind, .nilIface] 66)
  have k1' := g1.cell k1
  have H1 := Lib.hid (And.intro g1 hb1)
  clear g1 hb1 hg h hcp
  have t0 := ta40
  have t1 := ta41
  have t2 := ta42
  have t3 := ta43
  have t4 := ta44
  go_enter Tryz.func39, Tryz.ntmps39
  go_wp2_with (first | (go_at_call 79; refine HT.out.mono ?_; rintro e w9 ⟨rfl, rfl⟩) | (go_at_call 92; refine (HCp.out _ H1.out.1).mono ?_; rintro e w2 ⟨b2, F2, rfl, a2, g2, f2⟩; have hb2 := g2.at_ H1.out.2; have z1 := (blk_cell hb2 1).trans (rfl : _ = some Value.nilIface); have y1 := blk_free hb2 1; have H2 := Lib.hid (And.intro a2 (And.intro g2 (And.intro f2 hb2))); clear a2 g2 f2 hb2))
  exact HR.out _ _ (gc_fin H1.out.1 H2.out.2.1 (.inr (.inr (.inr (.inr (.inl ⟨rfl, H2.out.1⟩))))) H2.out.2.2.1 H2.out.2.2.2)
set_option maxRecDepth 100000 in
set_option maxHeartbeats 2000000 in
theorem gc5 {G b : Nat} {w : World} {F : FP} {s : RS} (hg : GBlk w G s.kind 103 b) (h : QG b w F s) (hs : Small s) : Calls Tryz.prog 39 #[.pointer (some ⟨G, 0, none⟩)] w (CpP GM w s) := by
  refine cph fun R HR => ?_
  have HT := Lib.hid (gdThere hg)
  have hcp : ∀ W, Grow w W → Calls Tryz.prog 93 #[.pointer (some ⟨b, 0, none⟩)] W (CpP QG W s) := fun W hw => quCopy ((QG.local b).fr h (G := fun _ => False) hw (fun _ _ h => h)) hs.1
  have HCp := Lib.hid hcp
  have k0 := (blk_cell hg 0).trans (rfl : _ = some (Value.int .i64 s.kind))
  have k1 := (blk_cell hg 1).trans (rfl : _ = some (Value.iface 103 (.pointer (some ⟨b, 0, none⟩))))
  have g1 : Grow w (w.alloc (Obj.cells #[.int .i64 s.kind, .nilIface] 66)) := (Grow.refl w).alloc _
  have hb1 := blk_new w (Obj.cells #[.int .i64 s.kind, .nilIface] 66)
  have k1' := g1.cell k1
  have H1 := Lib.hid (And.intro g1 hb1)
  clear g1 hb1 hg h hcp
  have t0 := ta50
  have t1 := ta51
  have t2 := ta52
  have t3 := ta53
  have t4 := ta54
  have t5 := ta55
  go_enter Tryz.func39, Tryz.ntmps39
  go_wp2_with (first | (go_at_call 79; refine HT.out.mono ?_; rintro e w9 ⟨rfl, rfl⟩) | (go_at_call 93; refine (HCp.out _ H1.out.1).mono ?_; rintro e w2 ⟨b2, F2, rfl, a2, g2, f2⟩; have hb2 := g2.at_ H1.out.2; have z1 := (blk_cell hb2 1).trans (rfl : _ = some Value.nilIface); have y1 := blk_free hb2 1; have H2 := Lib.hid (And.intro a2 (And.intro g2 (And.intro f2 hb2))); clear a2 g2 f2 hb2))
  exact HR.out _ _ (gc_fin H1.out.1 H2.out.2.1 (.inr (.inr (.inr (.inr (.inr ⟨rfl, H2.out.1⟩))))) H2.out.2.2.1 H2.out.2.2.2)
set_option maxRecDepth 100000 in
set_option maxHeartbeats 2000000 in
theorem gc0 {G b : Nat} {w : World} {F : FP} {s : RS} (hg : GBlk w G s.kind 88 b) (h : LM b w F s) (hs : Small s) : Calls Tryz.prog 39 #[.pointer (some ⟨G, 0, none⟩)] w (CpP GM w s) := by
  refine cph fun R HR => ?_
  have HT := Lib.hid (gdThere hg)
  obtain ⟨v, hv⟩ := h
  have HV := Lib.hid hv
  have k0 := (blk_cell hg 0).trans (rfl : _ = some (Value.int .i64 s.kind))
  have k1 := (blk_cell hg 1).trans (rfl : _ = some (Value.iface 88 (.pointer (some ⟨b, 0, none⟩))))
  have g1 : Grow w (w.alloc (Obj.cells #[.int .i64 s.kind, .nilIface] 66)) := (Grow.refl w).alloc _
  have hb1 := blk_new w (Obj.cells #[.int .i64 s.kind, .nilIface] 66)
  have hs1 := size_alloc w (Obj.cells #[.int .i64 s.kind, .nilIface] 66)
  have k1' := g1.cell k1
  have e0 := g1.cell ((blk_cell hv.blk 0).trans (rfl : _ = some (Value.int .i64 s.n)))
  have e1 := g1.cell ((blk_cell hv.blk 1).trans (rfl : _ = some v))
  have hc : ∀ W, Grow w W → Calls Tryz.prog 88 #[v] W (CloneR W 3 1 (addrs s).length ((addrs s).map (Value.int .i64))) := fun W hg => cloneI (owns_grow hv.row hg) (one_ints _) (by rw [addrs_len]; have := hs.1; omega)
  have HC := Lib.hid hc
  obtain ⟨A, m, c, rfl⟩ := own_sl hv.row
  have H1 := Lib.hid (And.intro g1 (And.intro hb1 hs1))
  have t0 := ta00
  clear hg hv hc hb1
  go_enter Tryz.func39, Tryz.ntmps39
  go_upto_region 7 with (go_at_call 79; refine HT.out.mono ?_; rintro e w9 ⟨rfl, rfl⟩)
  obtain ⟨w1, hw1⟩ : ∃ w1, w.alloc (Obj.cells #[.int .i64 s.kind, .nilIface] 66) = w1 := ⟨_, rfl⟩
  rw [hw1] at g1 e0 e1 H1 ⊢
  have z1 := (blk_cell H1.out.2.1 1).trans (rfl : _ = some Value.nilIface)
  have y1 := blk_free H1.out.2.1 1
  have HE := Lib.hid (And.intro e0 e1)
  go_region_law (go_simp; go_at_call 88; refine (HC.out _ (Grow.trans H1.out.1 (by first | exact Grow.refl _ | exact (Grow.refl _).drew))).mono ?_; rintro e w2 ⟨v2, rfl, o2, g2⟩; obtain ⟨A2, m2, c2, rfl⟩ := own_sl o2; have gg : Grow w1 w2 := Grow.trans (by first | exact Grow.refl _ | exact (Grow.refl _).drew) g2; have x0 := gg.cell HE.out.1; have x1 := (gg.alloc (Obj.cells #[.int .i64 s.n, .slice A2 m2 c2] 90)).cell z1; have x2 := blk_free ((gg.alloc (Obj.cells #[.int .i64 s.n, .slice A2 m2 c2] 90)).at_ H1.out.2.1) 1; have H2 := Lib.hid (And.intro o2 gg); clear o2 gg; dsimp only)
  all_goals
    have a2 : LM w2.heap.size (w2.alloc (Obj.cells #[.int .i64 s.n, .slice A2 m2 c2] 90)) (fun k => k = w2.heap.size ∨ (Value.slice A2 m2 c2).ownBlock = some k) s := ⟨.slice A2 m2 c2, HV.out.kind, HV.out.ok, blk_new w2 _, own_base_le (owns_grow H2.out.1 ((Grow.refl w2).alloc _)) (Nat.zero_le _), fun k => Iff.rfl⟩
    have hb2 := (H2.out.2.alloc (Obj.cells #[.int .i64 s.n, .slice A2 m2 c2] 90)).at_ H1.out.2.1
    have f2 : ∀ j, (j = w2.heap.size ∨ (Value.slice A2 m2 c2).ownBlock = some j) → w1.heap.size ≤ j := fun j hj => by
      rcases hj with rfl | hj
      · exact H2.out.2.size
      · exact (H2.out.1.lt j hj).1
    have g2 := H2.out.2.alloc (Obj.cells #[.int .i64 s.n, .slice A2 m2 c2] 90)
    rw [← hw1] at g2 f2
    have hfin := gc_fin ((Grow.refl w).alloc _) g2 (.inl ⟨rfl, a2⟩) f2 hb2
    have HF := Lib.hid hfin
    clear hfin a2 f2 hb2 g2
    go_wp2_with fail
    exact HR.out _ _ HF.out
theorem gmCopy {G : Nat} {w : World} {F : FP} {s : RS} (hgm : GM G w F s) (hs : Small s) : Calls Tryz.prog 39 #[.pointer (some ⟨G, 0, none⟩)] w (CpP GM w s) := by
  obtain ⟨TY, b, Fm, hg, hm, hn, hF⟩ := hgm
  rcases hm with ⟨rfl, h⟩ | ⟨rfl, h⟩ | ⟨rfl, h⟩ | ⟨rfl, h⟩ | ⟨rfl, h⟩ | ⟨rfl, h⟩
  · exact gc0 hg h hs
  · exact gc1 hg h hs
  · exact gc2 hg h hs
  · exact gc3 hg h hs
  · exact gc4 hg h hs
  · exact gc5 hg h hs
end Go.Proofs.YtcgcljmnnjalpaaGreat
