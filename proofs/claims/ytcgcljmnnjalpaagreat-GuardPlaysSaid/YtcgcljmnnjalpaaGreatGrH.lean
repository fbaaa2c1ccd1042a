/- The reference's manager: In. -/
import Derived.Test.YtcgcljmnnjalpaaGreatGrG
set_option linter.unusedVariables false
set_option linter.unusedSimpArgs false
namespace Go.Proofs.YtcgcljmnnjalpaaGreat
open Go.RowKit Go.Kx
open Go.ChangeMaps (setBlock)
theorem RMv.put {b : Nat} {vi vb : Value} {kb : List P2} {w w' : World} {F : FP} {s : RS} (h : RMv b vi vb kb w F s) (hf : Fr (· = b) w w') {s' : RS} (hk : s'.kind = s.kind) (hok : Ok s') (hit : s'.items = s.items) (hb : s'.born = s.born) (ha : w'.heap[b]? = some (.cells (refArr s' vi vb) 87 (0, 0))) : RMv b vi vb kb w' F s' := by
  refine ⟨by rw [hk]; exact h.kind, hok, ha, ?_, ?_, by rw [hb]; exact h.born, h.fp⟩
  · rw [hit]; exact owns_fr h.row hf (fun j hj e => (h.nei j hj).1 e)
  · exact owns_fr h.brow hf (fun j hj e => (h.neb j hj).1 e)
def clrS (s : RS) (t : Nat) : RS := { s with holds := upd1 s.holds t (fun _ => 0) }
def insS (s : RS) (t : Nat) (c : Bool) : RS := { s with ins := upd1 s.ins t c }
def loS (s : RS) (t : Nat) : RS := { s with lo := upd1 s.lo t s.now }
def hiS (s : RS) (t : Nat) : RS := { s with hi := upd1 s.hi t s.now }
def putS (s : RS) (t k : Nat) (a : Int) : RS := { s with holds := upd1 s.holds t (upd1 (s.holds t) k a) }
theorem arr_clr (s : RS) (vi vb : Value) {t : Nat} (ht : t < 4) : (((refArr s vi vb).setIfInBounds (4 + t * 3) (.int .i64 0)).setIfInBounds (4 + t * 3 + 1) (.int .i64 0)).setIfInBounds (4 + t * 3 + 2) (.int .i64 0) = refArr (clrS s t) vi vb := by
  obtain rfl | rfl | rfl | rfl : t = 0 ∨ t = 1 ∨ t = 2 ∨ t = 3 := by omega
  all_goals rfl
theorem arr_ins (s : RS) (vi vb : Value) {t : Nat} (ht : t < 4) (c : Bool) : (refArr s vi vb).setIfInBounds (16 + t) (.bool c) = refArr (insS s t c) vi vb := by
  obtain rfl | rfl | rfl | rfl : t = 0 ∨ t = 1 ∨ t = 2 ∨ t = 3 := by omega
  all_goals rfl
theorem arr_lo (s : RS) (vi vb : Value) {t : Nat} (ht : t < 4) : (refArr s vi vb).setIfInBounds (20 + t) (.int .i64 s.now) = refArr (loS s t) vi vb := by
  obtain rfl | rfl | rfl | rfl : t = 0 ∨ t = 1 ∨ t = 2 ∨ t = 3 := by omega
  all_goals rfl
theorem arr_hi (s : RS) (vi vb : Value) {t : Nat} (ht : t < 4) : (refArr s vi vb).setIfInBounds (24 + t) (.int .i64 s.now) = refArr (hiS s t) vi vb := by
  obtain rfl | rfl | rfl | rfl : t = 0 ∨ t = 1 ∨ t = 2 ∨ t = 3 := by omega
  all_goals rfl
theorem arr_put (s : RS) (vi vb : Value) {t k : Nat} (ht : t < 4) (hk : k < 3) (a : Int) : (refArr s vi vb).setIfInBounds (4 + t * 3 + k) (.int .i64 a) = refArr (putS s t k a) vi vb := by
  obtain rfl | rfl | rfl | rfl : t = 0 ∨ t = 1 ∨ t = 2 ∨ t = 3 := by omega
  all_goals
    obtain rfl | rfl | rfl : k = 0 ∨ k = 1 ∨ k = 2 := by omega
    all_goals rfl
theorem clr_ok {s : RS} (h : Ok s) (t : Nat) : Ok (clrS s t) :=
  ⟨h.n1, h.n4, fun u k hu => by show upd1 s.holds t (fun _ => 0) u k = 0; unfold upd1; split; rfl; exact h.holds u k hu, fun u k => by show 0 ≤ upd1 s.holds t (fun _ => 0) u k; unfold upd1; split; exact Int.le_refl _; exact h.pos u k, h.ins, h.forI, h.addr, h.now0⟩
theorem ins_ok {s : RS} (h : Ok s) {t : Nat} (ht : t < s.n) (c : Bool) : Ok (insS s t c) :=
  ⟨h.n1, h.n4, h.holds, h.pos, fun u hu => by show upd1 s.ins t c u = false; unfold upd1; rw [if_neg (by have : s.n ≤ u := hu; omega)]; exact h.ins u hu, h.forI, h.addr, h.now0⟩
theorem lo_ok {s : RS} (h : Ok s) (t : Nat) : Ok (loS s t) := ⟨h.n1, h.n4, h.holds, h.pos, h.ins, h.forI, h.addr, h.now0⟩
theorem hi_ok {s : RS} (h : Ok s) (t : Nat) : Ok (hiS s t) := ⟨h.n1, h.n4, h.holds, h.pos, h.ins, h.forI, h.addr, h.now0⟩
theorem put_ok {s : RS} (h : Ok s) {t k : Nat} (ht : t < s.n) (hk : k < 3) {a : Int} (ha : 0 ≤ a) : Ok (putS s t k a) :=
  ⟨h.n1, h.n4, fun u j hu => by
    show upd1 s.holds t (upd1 (s.holds t) k a) u j = 0
    unfold upd1
    split
    · next e =>
      subst e
      have hj : ¬ j = k := by rcases hu with q | q; exact absurd q (by show ¬ s.n ≤ u; omega); omega
      show (if j = k then a else s.holds u j) = 0
      rw [if_neg hj]; exact h.holds u j hu
    · exact h.holds u j hu, fun u j => by
    show 0 ≤ upd1 s.holds t (upd1 (s.holds t) k a) u j
    unfold upd1
    split
    · show 0 ≤ if j = k then a else s.holds t j
      split
      · exact ha
      · exact h.pos _ _
    · exact h.pos _ _, h.ins, h.forI, h.addr, h.now0⟩
/-- The three cells of a thread's holds: what a store of all three at once meets. -/
theorem RMv.three {b : Nat} {vi vb : Value} {kb : List P2} {w : World} {F : FP} {s : RS} (h : RMv b vi vb kb w F s) {t : Nat} (ht : t < 4) (z : Value) :
    (w.cell? ⟨b, 4 + t * 3, none⟩ = some (.int .i64 (s.holds t 0)) ∧ w.frozen? ⟨b, 4 + t * 3, none⟩ = false) ∧
    ((w.setCell ⟨b, 4 + t * 3, none⟩ z).cell? ⟨b, 4 + t * 3 + 1, none⟩ = some (.int .i64 (s.holds t 1)) ∧ (w.setCell ⟨b, 4 + t * 3, none⟩ z).frozen? ⟨b, 4 + t * 3 + 1, none⟩ = false) ∧
    (((w.setCell ⟨b, 4 + t * 3, none⟩ z).setCell ⟨b, 4 + t * 3 + 1, none⟩ z).cell? ⟨b, 4 + t * 3 + 2, none⟩ = some (.int .i64 (s.holds t 2)) ∧ ((w.setCell ⟨b, 4 + t * 3, none⟩ z).setCell ⟨b, 4 + t * 3 + 1, none⟩ z).frozen? ⟨b, 4 + t * 3 + 2, none⟩ = false) := by
  have h1 := blk_set h.blk (4 + t * 3) z
  have h2 := blk_set h1 (4 + t * 3 + 1) z
  refine ⟨⟨(blk_cell h.blk _).trans (ref_hold s vi vb ht (k := 0) (by omega)), blk_free h.blk _⟩, ⟨(blk_cell h1 _).trans ?_, blk_free h1 _⟩, ⟨(blk_cell h2 _).trans ?_, blk_free h2 _⟩⟩
  · rw [Array.getElem?_setIfInBounds_ne (by omega)]
    exact ref_hold s vi vb ht (k := 1) (by omega)
  · rw [Array.getElem?_setIfInBounds_ne (by omega), Array.getElem?_setIfInBounds_ne (by omega)]
    exact ref_hold s vi vb ht (k := 2) (by omega)
theorem RMv.clr {b : Nat} {vi vb : Value} {kb : List P2} {w : World} {F : FP} {s : RS} (h : RMv b vi vb kb w F s) {t : Nat} (ht : t < 4) : RMv b vi vb kb (((w.setCell ⟨b, 4 + t * 3, none⟩ (.int .i64 0)).setCell ⟨b, 4 + t * 3 + 1, none⟩ (.int .i64 0)).setCell ⟨b, 4 + t * 3 + 2, none⟩ (.int .i64 0)) F (clrS s t) ∧ Fr (· = b) w (((w.setCell ⟨b, 4 + t * 3, none⟩ (.int .i64 0)).setCell ⟨b, 4 + t * 3 + 1, none⟩ (.int .i64 0)).setCell ⟨b, 4 + t * 3 + 2, none⟩ (.int .i64 0)) := by
  have hf : Fr (· = b) w (((w.setCell ⟨b, 4 + t * 3, none⟩ (.int .i64 0)).setCell ⟨b, 4 + t * 3 + 1, none⟩ (.int .i64 0)).setCell ⟨b, 4 + t * 3 + 2, none⟩ (.int .i64 0)) := by
    have f1 : Fr (· = b) w (w.setCell ⟨b, 4 + t * 3, none⟩ (.int .i64 0)) := (Fr.refl _ _).setCell _ _ (.inr rfl)
    have f2 := f1.setCell ⟨b, 4 + t * 3 + 1, none⟩ (.int .i64 0) (.inr rfl)
    exact f2.setCell ⟨b, 4 + t * 3 + 2, none⟩ (.int .i64 0) (.inr rfl)
  refine ⟨h.put hf rfl (clr_ok h.ok t) rfl rfl ?_, hf⟩
  rw [← arr_clr s vi vb ht]
  exact blk_set (blk_set (blk_set h.blk _ _) _ _) _ _
theorem RM.opP {b : Nat} {vi vb : Value} {kb : List P2} {w w' : World} {F : FP} {s : RS} {z : Int} (h : RMv b vi vb kb w' F s) (hk : (kb.length : Int) ≤ s.now) (hf : Fr (· = b) w w') : OpP (RM b) w F ⟨s, [], z⟩ (.returned (.tuple #[.slice none 0 0, .int .i64 z])) w' :=
  OpP.none ⟨vi, vb, kb, h, hk⟩ ⟨hf.mono fun i _ e => (h.fp i).2 (.inl e), fun k hk => .inl hk⟩
theorem rThreadNo {b : Nat} {w : World} {F : FP} {s : RS} (h : RM b w F s) : Fr (· = b) w w ∧ OpP (RM b) w F ⟨s, [], 1⟩ (.returned (.tuple #[.slice none 0 0, .int .i64 1])) w := by
  obtain ⟨vi, vb, kb, hv, hk⟩ := h
  exact ⟨Fr.refl _ _, RM.opP hv hk (Fr.refl _ _)⟩
set_option maxRecDepth 100000 in
set_option maxHeartbeats 2000000 in
theorem rIn {b : Nat} {w : World} {F : FP} {s : RS} (h : RM b w F s) (t : Int) : Calls Tryz.prog 94 #[.pointer (some ⟨b, 0, none⟩), .int .i64 t] w (OpP (RM b) w F (inS s t)) := by
  refine cph fun R HR => ?_
  have hno := (rThreadNo h).2
  obtain ⟨vi, vb, kb, hv, hkl⟩ := h
  have hth := rThread hv t
  cases hok : okTh s t
  · rw [hok] at hth
    rw [show inS s t = ⟨s, [], 1⟩ by unfold inS; rw [hok]; rfl] at HR
    have HT := Lib.hid hth
    have HN := Lib.hid hno
    clear hv hkl hth hno hok
    go_enter Tryz.func94, Tryz.ntmps94
    go_wp2_with (go_at_call 122; refine HT.out.mono ?_; rintro e w' ⟨rfl, rfl⟩)
    exact HR.out _ _ HN.out
  · obtain ⟨T, rfl, hT⟩ : ∃ T : Nat, t = (T : Int) ∧ T < s.n := by
      unfold okTh at hok
      simp at hok
      exact ⟨t.toNat, by omega, by omega⟩
    have hT4 : T < 4 := by have := hv.ok.n4; omega
    have hTI : (T : Int) < 4 := by omega
    rw [hok] at hth
    have hin : inS s (T : Int) = ⟨hiS (loS (insS (if s.kind = 3 then clrS s T else s) T true) T) T, [], 0⟩ := by
      unfold inS
      rw [hok]
      by_cases hk : s.kind = 3
      · rw [if_pos hk]; simp [hk, hiS, loS, insS, clrS]
      · rw [if_neg hk]; simp [hk, hiS, loS, insS]
    rw [hin] at HR
    have k1 := (blk_cell hv.blk 1).trans (rfl : _ = some (Value.int .i64 s.kind))
    have HT := Lib.hid hth
    have HV := Lib.hid (And.intro hv hkl)
    have hfz := fun o => blk_free hv.blk o
    have hkk := hv.kind
    clear hok hin hth hno hv hkl
    go_enter Tryz.func94, Tryz.ntmps94
    go_upto_if 14 with (go_at_call 122; refine HT.out.mono ?_; rintro e w' ⟨rfl, rfl⟩)
    go_cut [] (fun wx => Hid (RMv b vi vb kb wx F (if s.kind = 3 then clrS s T else s) ∧ Fr (· = b) w wx))
    case first =>
      by_cases hk3 : s.kind = 3
      · rw [hk3] at k1 ⊢
        obtain ⟨⟨x0, y0⟩, ⟨x1, y1⟩, ⟨x2, y2⟩⟩ := HV.out.1.three hT4 (.int .i64 0)
        have HC := Lib.hid (HV.out.1.clr hT4)
        have HK := Lib.hid hk3
        clear hk3 hkk
        go_wp2_with fail
        go_meet
        rw [if_pos HK.out]
        exact HC.out
      · have hk3' : (s.kind == 3) = false := by simp [hk3]
        have HK := Lib.hid hk3
        clear hk3 hkk
        go_wp2_with fail
        go_meet
        rw [if_neg HK.out]
        exact ⟨HV.out.1, Fr.refl _ _⟩
    case rest =>
      obtain ⟨s0, hs0⟩ : ∃ s0, (if s.kind = 3 then clrS s T else s) = s0 := ⟨_, rfl⟩
      have hn0 : s0.now = s.now ∧ s0.n = s.n := by rw [← hs0]; split <;> exact ⟨rfl, rfl⟩
      rw [hs0] at HR hcut
      clear hs0
      have hv0 := hcut.out.1
      have g1 := blk_free hv0.blk (16 + T)
      have o1 := (blk_cell hv0.blk _).trans (ref_ins s0 vi vb hT4)
      obtain ⟨hv1, hf1⟩ := hv0.poke (s' := insS s0 T true) (o := 16 + T) (v := .bool true) rfl (ins_ok hv0.ok (by omega) true) rfl rfl (arr_ins s0 vi vb hT4 true)
      obtain ⟨w1, hw1⟩ : ∃ w1, wc.setCell ⟨b, 16 + T, none⟩ (.bool true) = w1 := ⟨_, rfl⟩
      rw [hw1] at hv1 hf1
      have k3 := (blk_cell hv1.blk 3).trans (rfl : _ = some (Value.int .i64 s0.now))
      have g2 := blk_free hv1.blk (20 + T)
      have o2 := (blk_cell hv1.blk _).trans (ref_lo (insS s0 T true) vi vb hT4)
      have H1 := Lib.hid (And.intro hv1 (hcut.out.2.trans hf1))
      have HN0 := Lib.hid hn0
      clear hv0 hv1 hf1 k1 hkk hn0
      go_upto_region 6 with fail
      refine wp_region_still_tail 9 (by kernel_rfl) (by kernel_rfl) ?_
      change wpStill _ _ (w1.drewN 1) (fun a' => wpList _ _ _ _ a' (w1.drewN 1)) _ _
      obtain ⟨hd1, hd2⟩ := H1.out
      have hd3 := hd1.local_fr (G := fun _ => False) ((Grow.refl w1).drewN 1) (fun _ _ h => h)
      have hd4 := hd2.drewN 1
      have k3' := (Grow.refl w1).drewN 1 |>.cell k3
      have o2' := (Grow.refl w1).drewN 1 |>.cell o2
      have g2' := blk_free hd3.blk (20 + T)
      generalize w1.drewN 1 = w2 at hd3 hd4 k3' o2' g2' ⊢
      obtain ⟨hv3, hf3⟩ := hd3.poke (s' := loS (insS s0 T true) T) (o := 20 + T) (v := .int .i64 s0.now) rfl (lo_ok hd3.ok T) rfl rfl (arr_lo (insS s0 T true) vi vb hT4)
      obtain ⟨w3, hw3⟩ : ∃ w3, w2.setCell ⟨b, 20 + T, none⟩ (.int .i64 s0.now) = w3 := ⟨_, rfl⟩
      rw [hw3] at hv3 hf3
      have k3 := (blk_cell hv3.blk 3).trans (rfl : _ = some (Value.int .i64 s0.now))
      have g3 := blk_free hv3.blk (24 + T)
      have o3 := (blk_cell hv3.blk _).trans (ref_hi (loS (insS s0 T true) T) vi vb hT4)
      have H3 := Lib.hid (And.intro hv3 (hd4.trans hf3))
      clear hd1 hd2 hd3 hd4 hv3 hf3
      simp only [List.take_succ_cons, List.take_zero, List.drop_succ_cons, List.drop_zero]
      repeat still_step
      refine wpStill_nil ?_
      go_upto_region 7 with fail
      refine wp_region_still_tail 9 (by kernel_rfl) (by kernel_rfl) ?_
      change wpStill _ _ (w3.drewN 1) (fun a' => wpList _ _ _ _ a' (w3.drewN 1)) _ _
      obtain ⟨hd1, hd2⟩ := H3.out
      have hd3 := hd1.local_fr (G := fun _ => False) ((Grow.refl w3).drewN 1) (fun _ _ h => h)
      have hd4 := hd2.drewN 1
      have k5' := (Grow.refl w3).drewN 1 |>.cell k3
      have o5' := (Grow.refl w3).drewN 1 |>.cell o3
      have g5' := blk_free hd3.blk (24 + T)
      generalize w3.drewN 1 = w4 at hd3 hd4 k5' o5' g5' ⊢
      obtain ⟨hv5, hf5⟩ := hd3.poke (s' := hiS (loS (insS s0 T true) T) T) (o := 24 + T) (v := .int .i64 s0.now) rfl (hi_ok hd3.ok T) rfl rfl (arr_hi (loS (insS s0 T true) T) vi vb hT4)
      obtain ⟨w5, hw5⟩ : ∃ w5, w4.setCell ⟨b, 24 + T, none⟩ (.int .i64 s0.now) = w5 := ⟨_, rfl⟩
      rw [hw5] at hv5 hf5
      have H5 := Lib.hid (And.intro hv5 (hd4.trans hf5))
      clear hd1 hd2 hd3 hd4 hv5 hf5
      simp only [List.take_succ_cons, List.take_zero, List.drop_succ_cons, List.drop_zero]
      repeat still_step
      refine wpStill_nil ?_
      go_wp2_with fail
      exact HR.out _ _ (RM.opP H5.out.1 (by show _ ≤ s0.now; rw [HN0.out.1]; exact HV.out.2) H5.out.2)
end Go.Proofs.YtcgcljmnnjalpaaGreat
