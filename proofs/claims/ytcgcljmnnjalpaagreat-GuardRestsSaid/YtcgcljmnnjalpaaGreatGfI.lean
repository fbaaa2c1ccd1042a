/- The hazard manager: its form in memory; no, In, Out, Hold, Born, Waiting, New. -/
import Derived.Test.YtcgcljmnnjalpaaGreatGfH
set_option linter.unusedVariables false
set_option linter.unusedSimpArgs false
namespace Go.Proofs.YtcgcljmnnjalpaaGreat
open Go.RowKit Go.Kx
open Go.ChangeMaps (setBlock)
def hzl (s : RS) : List P2 := s.items.map fun x => (x.thr, x.addr)
theorem hzl_len (s : RS) : (hzl s).length = s.items.length := by simp [hzl]
structure HZv (b H : Nat) (v : Value) (w : World) (F : FP) (s : RS) : Prop where
  kind : s.kind = 1
  ok : Ok s
  blk : w.heap[b]? = some (.cells #[.slice (some ⟨H, 0, none⟩) s.n s.n, v] 119 (0, 0))
  hrow : w.ownsRow 0 76 3 (.slice (some ⟨H, 0, none⟩) s.n s.n) s.n ((hRows s).flatMap encH)
  row : w.ownsRow 0 140 2 v s.items.length ((hzl s).flatMap enc2)
  fp : ∀ k, F k ↔ (k = b ∨ k = H ∨ v.ownBlock = some k)
/-- The hazard manager at block b. -/
def HZ (b : Nat) (w : World) (F : FP) (s : RS) : Prop := ∃ H v, HZv b H v w F s
section
variable {b H : Nat} {v : Value} {w : World} {F : FP} {s : RS}
theorem HZv.hblk (h : HZv b H v w F s) : ∃ c, w.heap[H]? = some (.cells c 76 (0, 0)) := owns_blk h.hrow rfl
theorem HZv.neH (h : HZv b H v w F s) : H ≠ b := by
  rintro rfl; obtain ⟨c, hc⟩ := h.hblk
  exact absurd (blk_ty hc h.blk) (by decide)
theorem HZv.nev (h : HZv b H v w F s) (k : Nat) (hk : v.ownBlock = some k) : k ≠ b ∧ k ≠ H := by
  obtain ⟨c, hc⟩ := owns_blk h.row hk
  refine ⟨?_, ?_⟩
  · rintro rfl; exact absurd (blk_ty hc h.blk) (by decide)
  · rintro rfl; obtain ⟨d, hd⟩ := h.hblk; exact absurd (blk_ty hc hd) (by decide)
theorem HZv.tH (h : HZv b H v w F s) {k : Nat} (hk : (Value.slice (some ⟨H, 0, none⟩) s.n s.n).ownBlock = some k) : k = H := own_sl_eq hk
theorem HZv.local_fr {w' : World} {G : FP} (h : HZv b H v w F s) (hf : Fr G w w') (hn : ∀ k, F k → ¬ G k) : HZv b H v w' F s :=
  ⟨h.kind, h.ok, hf.at_ h.blk (hn b ((h.fp b).2 (.inl rfl))), owns_fr h.hrow hf (fun k hk => by rw [h.tH hk]; exact hn H ((h.fp H).2 (.inr (.inl rfl)))), owns_fr h.row hf (fun k hk => hn k ((h.fp k).2 (.inr (.inr hk)))), h.fp⟩
theorem HZv.lt (h : HZv b H v w F s) (k : Nat) (hk : F k) : k < w.heap.size := by
  rcases (h.fp k).1 hk with rfl | rfl | hk
  · exact blk_lt h.blk
  · obtain ⟨c, hc⟩ := h.hblk; exact blk_lt hc
  · exact (h.row.lt k hk).2
end
theorem HZ.local (b : Nat) : Local (HZ b) := ⟨fun ⟨H, v, h⟩ k hk => h.lt k hk, fun ⟨H, v, h⟩ hf hn => ⟨H, v, h.local_fr hf hn⟩⟩
theorem HZv.upd {b H : Nat} {v : Value} {w : World} {F : FP} {s s' : RS} (h : HZv b H v w F s) (hok : Ok s') (hk : s'.kind = s.kind) (hn : s'.n = s.n) (hh : s'.holds = s.holds) (hit : hzl s' = hzl s) : HZv b H v w F s' :=
  ⟨hk.trans h.kind, hok, by rw [hn]; exact h.blk, by rw [hn, show hRows s' = hRows s by unfold hRows; rw [hn, hh]]; exact h.hrow, by rw [← hzl_len, hit, hzl_len]; exact h.row, h.fp⟩
theorem hzNo {b H : Nat} {v : Value} {w : World} {F : FP} {s : RS} (h : HZv b H v w F s) (t : Int) : Calls Tryz.prog 101 #[.pointer (some ⟨b, 0, none⟩), .int .i64 t] w fun e w' => e = .returned (.bool (!okTh s t)) ∧ w = w' := by
  refine cph fun R HR => ?_
  have k0 := (blk_cell h.blk 0).trans (rfl : _ = some (Value.slice (some ⟨H, 0, none⟩) s.n s.n))
  rcases okTh_cases s t h.ok.n4 with ⟨h1, e⟩ | ⟨h1, h2, e⟩ | ⟨h1, h2, e⟩
  · rw [e] at HR
    have d1 : decide (t < 0) = true := decide_eq_true (by omega)
    clear h e
    go_enter Tryz.func101, Tryz.ntmps101
    go_wp2_with fail
    exact HR.out _ _ ⟨rfl, rfl⟩
  · rw [e] at HR
    have d1 : decide (t < 0) = false := decide_eq_false (by omega)
    have d2 : decide ((s.n : Int) ≤ t) = true := decide_eq_true (by omega)
    clear h e
    go_enter Tryz.func101, Tryz.ntmps101
    go_wp2_with fail
    exact HR.out _ _ ⟨rfl, rfl⟩
  · rw [e] at HR
    have d1 : decide (t < 0) = false := decide_eq_false (by omega)
    have d2 : decide ((s.n : Int) ≤ t) = false := decide_eq_false (by omega)
    clear h e
    go_enter Tryz.func101, Tryz.ntmps101
    go_wp2_with fail
    exact HR.out _ _ ⟨rfl, rfl⟩
theorem HZv.set1 {b H : Nat} {v : Value} {w : World} {F : FP} {s s' : RS} (h : HZv b H v w F s) {t k : Nat} (ht : t < s.n) (hk3 : k < 3) (a : Int) (hok : Ok s') (hk : s'.kind = s.kind) (hn : s'.n = s.n) (hh : s'.holds = upd1 s.holds t (upd1 (s.holds t) k a)) (hit : hzl s' = hzl s) :
    HZv b H v (w.setCell ⟨H, t * 3 + k, none⟩ (.int .i64 a)) F s' ∧ Fr F w (w.setCell ⟨H, t * 3 + k, none⟩ (.int .i64 a)) := by
  have hf : Fr (· = H) w (w.setCell ⟨H, t * 3 + k, none⟩ (.int .i64 a)) := (Fr.refl _ _).setCell _ _ (.inr rfl)
  refine ⟨⟨hk.trans h.kind, hok, ?_, ?_, ?_, h.fp⟩, hf.mono fun i _ e => (h.fp i).2 (.inr (.inl e))⟩
  · rw [hn]; exact hf.at_ h.blk (fun e => h.neH e.symm)
  · have h1 := (h.hrow.stored (t * 3 + k) (.int .i64 a)).1
    rw [flat_set encH_len _ t _ (upd1 (s.holds t) k a) k _ (hRows_at ht) hk3 (encH_set _ hk3 a), hRows_upd ht _ s' hn hh, ← hn] at h1
    exact h1
  · rw [← hzl_len, hit, hzl_len]
    exact owns_fr h.row hf (fun j hj e => (h.nev j hj).2 e)
set_option maxHeartbeats 1000000 in
theorem hzIn {b : Nat} {w : World} {F : FP} {s : RS} (h : HZ b w F s) (t : Int) : Calls Tryz.prog 53 #[.pointer (some ⟨b, 0, none⟩), .int .i64 t] w (OpP (HZ b) w F (inS s t)) := by
  refine cph fun R HR => ?_
  have HQ := Lib.hid h
  obtain ⟨H, v, hv⟩ := h
  have HH := Lib.hid (hzNo hv t)
  have HV := Lib.hid hv
  cases ht : okTh s t
  · rw [ht] at HH
    have e : inS s t = ⟨s, [], 1⟩ := by simp [inS, ht]
    rw [e] at HR
    clear hv e
    go_enter Tryz.func53, Tryz.ntmps53
    go_wp2_with (go_at_call 101; refine HH.out.mono ?_; rintro e w' ⟨rfl, rfl⟩)
    exact HR.out _ _ (OpP.none HQ.out (Step.refl _ _))
  · rw [ht] at HH
    have hok := hv.ok.in_ t
    have e : inS s t = ⟨(inS s t).st, [], 0⟩ := by simp [inS, ht]
    rw [e] at HR
    have HS := Lib.hid (hv.upd hok (by simp [inS, ht]) (by simp [inS, ht]) (by have := hv.kind; simp [inS, ht, this]) (by simp [inS, ht, hzl]))
    clear hv e hok ht
    go_enter Tryz.func53, Tryz.ntmps53
    go_wp2_with (go_at_call 101; refine HH.out.mono ?_; rintro e w' ⟨rfl, rfl⟩)
    exact HR.out _ _ (OpP.none ⟨H, v, HS.out⟩ (Step.refl _ _))
theorem hzl_out (s : RS) (t : Nat) : hzl (outS0 s t) = hzl s := by simp [hzl, outS0]
theorem upd3 {h : Nat → Nat → Int} {t : Nat} (h0 : ∀ k, 3 ≤ k → h t k = 0) : upd1 (upd1 (upd1 h t (upd1 (h t) 0 0)) t (upd1 (upd1 h t (upd1 (h t) 0 0) t) 1 0)) t (upd1 (upd1 (upd1 h t (upd1 (h t) 0 0)) t (upd1 (upd1 h t (upd1 (h t) 0 0) t) 1 0) t) 2 0) = upd1 h t (fun _ => 0) := by
  funext i k
  unfold upd1
  by_cases e : i = t
  · subst e
    simp only [if_true]
    by_cases e2 : k = 2
    · simp [e2]
    · by_cases e1 : k = 1
      · simp [e1]
      · by_cases e0 : k = 0
        · simp [e0]
        · rw [if_neg e2, if_neg e1, if_neg e0]; exact h0 k (by omega)
  · simp [e]
set_option maxHeartbeats 1000000 in
theorem hzOut {b : Nat} {w : World} {F : FP} {s : RS} (h : HZ b w F s) (t : Int) : Calls Tryz.prog 54 #[.pointer (some ⟨b, 0, none⟩), .int .i64 t] w (OpP (HZ b) w F (outS s t)) := by
  refine cph fun R HR => ?_
  have HQ := Lib.hid h
  obtain ⟨H, v, hv⟩ := h
  have HH := Lib.hid (hzNo hv t)
  have HV := Lib.hid hv
  cases ht : okTh s t
  · rw [ht] at HH
    have e : outS s t = ⟨s, [], 1⟩ := by simp [outS, ht]
    rw [e] at HR
    clear hv e
    go_enter Tryz.func54, Tryz.ntmps54
    go_wp2_with (go_at_call 101; refine HH.out.mono ?_; rintro e w' ⟨rfl, rfl⟩)
    exact HR.out _ _ (OpP.none HQ.out (Step.refl _ _))
  · rw [ht] at HH
    obtain ⟨k, rfl, hk⟩ := okTh_nat ht
    have hok := hv.ok.out0 hk
    have e : outS s (k : Int) = ⟨outS0 s k, [], 0⟩ := by simp [outS, ht, hv.kind]
    rw [e] at HR
    have hst : HZv b H v (((w.setCell ⟨H, k * 3 + 0, none⟩ (.int .i64 0)).setCell ⟨H, k * 3 + 1, none⟩ (.int .i64 0)).setCell ⟨H, k * 3 + 2, none⟩ (.int .i64 0)) F (outS0 s k) ∧ Fr F w (((w.setCell ⟨H, k * 3 + 0, none⟩ (.int .i64 0)).setCell ⟨H, k * 3 + 1, none⟩ (.int .i64 0)).setCell ⟨H, k * 3 + 2, none⟩ (.int .i64 0)) := by
      have o1 : Ok (holdS0 s k 0 0) := hv.ok.hold0 hk (by omega) (by omega)
      have p1 := hv.set1 (s' := holdS0 s k 0 0) hk (k := 0) (by omega) 0 o1 rfl rfl rfl rfl
      have o2 : Ok (holdS0 (holdS0 s k 0 0) k 1 0) := o1.hold0 hk (by omega) (by omega)
      have p2 := p1.1.set1 (s' := holdS0 (holdS0 s k 0 0) k 1 0) hk (k := 1) (by omega) 0 o2 rfl rfl rfl rfl
      have o3 : Ok (holdS0 (holdS0 (holdS0 s k 0 0) k 1 0) k 2 0) := o2.hold0 hk (by omega) (by omega)
      have p3 := p2.1.set1 (s' := holdS0 (holdS0 (holdS0 s k 0 0) k 1 0) k 2 0) hk (k := 2) (by omega) 0 o3 rfl rfl rfl rfl
      exact ⟨p3.1.upd hok rfl rfl (upd3 fun k' hk' => hv.ok.holds k k' (.inr hk')).symm (hzl_out s k), p1.2.trans (p2.2.trans p3.2)⟩
    have HS := Lib.hid hst
    have e0 := (blk_cell hv.blk 0).trans (rfl : _ = some (Value.slice (some ⟨H, 0, none⟩) s.n s.n))
    have eT : ∀ j, j < 3 → ∃ x, w.cell? ⟨H, k * 3 + j, none⟩ = some x := fun j hj => by
      rw [own_at encH_len hv.hrow (hRows_at hk) hj]
      exact ⟨_, List.getElem?_eq_getElem (by rw [encH_len]; exact hj)⟩
    obtain ⟨x0, c0⟩ := eT 0 (by omega)
    obtain ⟨x1, c1⟩ := eT 1 (by omega)
    obtain ⟨x2, c2⟩ := eT 2 (by omega)
    have f0 := hv.hrow.frozenAt (k * 3 + 0)
    have f1 := hv.hrow.frozenAt (k * 3 + 1)
    have f2 := hv.hrow.frozenAt (k * 3 + 2)
    have hki : (k : Int) < (s.n : Int) := by omega
    have hbl := blk_lt hv.blk
    have hk4 : k < 4 := by have := hv.ok.n4; omega
    clear hv e hok hst ht eT
    obtain rfl | rfl | rfl | rfl : k = 0 ∨ k = 1 ∨ k = 2 ∨ k = 3 := by omega
    all_goals
      simp only [Nat.reduceMul, Nat.reduceAdd] at HS c0 c1 c2 f0 f1 f2
      go_enter Tryz.func54, Tryz.ntmps54
      go_wp2_with (go_at_call 101; refine HH.out.mono ?_; rintro e w' ⟨rfl, rfl⟩)
      exact HR.out _ _ (OpP.none ⟨H, v, HS.out.1⟩ ⟨HS.out.2, fun j hj => .inl hj⟩)
set_option maxHeartbeats 1000000 in
theorem hzHold {b : Nat} {w : World} {F : FP} {s : RS} (h : HZ b w F s) (t k a : Int) : Calls Tryz.prog 55 #[.pointer (some ⟨b, 0, none⟩), .int .i64 t, .int .i64 k, .int .i64 a] w (OpP (HZ b) w F (holdS s t k a)) := by
  refine cph fun R HR => ?_
  have HQ := Lib.hid h
  obtain ⟨H, v, hv⟩ := h
  have HH := Lib.hid (hzNo hv t)
  have HV := Lib.hid hv
  cases ht : okTh s t
  · rw [ht] at HH
    have e : holdS s t k a = ⟨s, [], 1⟩ := by simp [holdS, ht]
    rw [e] at HR
    clear hv e
    go_enter Tryz.func55, Tryz.ntmps55
    go_wp2_with (go_at_call 101; refine HH.out.mono ?_; rintro e w' ⟨rfl, rfl⟩)
    exact HR.out _ _ (OpP.none HQ.out (Step.refl _ _))
  · rw [ht] at HH
    rcases holdOk_cases k a with ⟨h1, e⟩ | ⟨h1, h2, e⟩ | ⟨h1, h2, h3, e⟩ | ⟨h1, h2, h3, e⟩
    iterate 3
      have e2 : holdS s t k a = ⟨s, [], 1⟩ := by simp [holdS, e]
      rw [e2] at HR
      clear hv e e2 ht
      go_enter Tryz.func55, Tryz.ntmps55
      go_wp2_with (go_at_call 101; refine HH.out.mono ?_; rintro e w' ⟨rfl, rfl⟩)
      exact HR.out _ _ (OpP.none HQ.out (Step.refl _ _))
    have e2 : holdS s t k a = ⟨holdS0 s t.toNat k.toNat a, [], 0⟩ := by simp [holdS, ht, e, hv.kind]
    rw [e2] at HR
    obtain ⟨t', rfl, ht'⟩ := okTh_nat ht
    obtain ⟨k', rfl⟩ := Int.eq_ofNat_of_zero_le (a := k) (by omega)
    simp only [Int.toNat_natCast] at HR
    have hk3 : k' < 3 := by omega
    have HS := Lib.hid (hv.set1 (s' := holdS0 s t' k' a) ht' hk3 a (hv.ok.hold0 ht' hk3 h3) rfl rfl rfl rfl)
    have e0 := (blk_cell hv.blk 0).trans (rfl : _ = some (Value.slice (some ⟨H, 0, none⟩) s.n s.n))
    have c0 : ∃ x, w.cell? ⟨H, t' * 3 + k', none⟩ = some x := by
      rw [own_at encH_len hv.hrow (hRows_at ht') hk3]
      exact ⟨_, List.getElem?_eq_getElem (by rw [encH_len]; exact hk3)⟩
    obtain ⟨x0, c0⟩ := c0
    have f0 := hv.hrow.frozenAt (t' * 3 + k')
    have hki : (t' : Int) < (s.n : Int) := by omega
    have hbl := blk_lt hv.blk
    clear hv e e2 ht
    go_enter Tryz.func55, Tryz.ntmps55
    go_wp2_with (go_at_call 101; refine HH.out.mono ?_; rintro e w' ⟨rfl, rfl⟩)
    exact HR.out _ _ (OpP.none ⟨H, v, HS.out.1⟩ ⟨HS.out.2, fun j hj => .inl hj⟩)
theorem hzBorn {b : Nat} {w : World} {F : FP} {s : RS} (h : HZ b w F s) (a : Int) : Calls Tryz.prog 176 #[.pointer (some ⟨b, 0, none⟩), .int .i64 a] w (OpE (HZ b) w F (bornS s a)) := by
  refine cph fun R HR => ?_
  have HQ := Lib.hid h
  obtain ⟨H, v, hv⟩ := h
  have HH := Lib.hid (hzNo hv 0)
  rw [okTh_zero hv.ok] at HH
  by_cases ha : 0 < a
  · have e : bornS s a = ⟨s, [], 0⟩ := by simp [bornS, ha, hv.kind]
    rw [e] at HR
    have ha2 : ¬ a < 1 := by omega
    clear hv e
    go_enter Tryz.func176, Tryz.ntmps176
    go_wp2_with (go_at_call 101; refine HH.out.mono ?_; rintro e w' ⟨rfl, rfl⟩)
    exact HR.out _ _ ⟨F, rfl, HQ.out, Step.refl _ _⟩
  · have e : bornS s a = ⟨s, [], 1⟩ := by simp [bornS, ha]
    rw [e] at HR
    have ha2 : a < 1 := by omega
    clear hv e
    go_enter Tryz.func176, Tryz.ntmps176
    go_wp2_with (go_at_call 101; refine HH.out.mono ?_; rintro e w' ⟨rfl, rfl⟩)
    exact HR.out _ _ ⟨F, rfl, HQ.out, Step.refl _ _⟩
end Go.Proofs.YtcgcljmnnjalpaaGreat
