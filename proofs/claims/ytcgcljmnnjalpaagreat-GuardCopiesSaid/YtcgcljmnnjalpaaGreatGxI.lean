/- The hazard manager: its form in memory; no, In, Out, Hold, Born, Waiting, New. The hazard manager: Waiting, New. slices.IndexFunc, ContainsFunc at [3]int; the hazard manager: is an address held? The hazard manager: scan. The hazard manager: scan. The hazard manager: Retire. The hazard manager: Rest. math/bits.Mul at small numbers, slices.Repeat of [-1]; the epoch manager: New. -/
import Derived.Test.YtcgcljmnnjalpaaGreatGxH
import Derived.Deep.RegionHeld3
import Derived.Laws.CopyOwn
set_option linter.unusedVariables false
set_option linter.unusedSimpArgs false
namespace Go.Proofs.YtcgcljmnnjalpaaGreat
open Go.RowKit Go.Kx
open Go.ChangeMaps (setBlock)
def hzl (s : RS) : List P2 := s.items.map fun x => (x.thr, x.addr)
theorem hzl_len (s : RS) : (hzl s).length = s.items.length := by simp [hzl]
structure HZv (b H cH : Nat) (v : Value) (w : World) (F : FP) (s : RS) : Prop where
  kind : s.kind = 1
  ok : Ok s
  blk : w.heap[b]? = some (.cells #[.slice (some ⟨H, 0, none⟩) s.n cH, v] 119 (0, 0))
  hrow : w.ownsRow 0 76 3 (.slice (some ⟨H, 0, none⟩) s.n cH) s.n ((hRows s).flatMap encH)
  row : w.ownsRow 0 140 2 v s.items.length ((hzl s).flatMap enc2)
  fp : ∀ k, F k ↔ (k = b ∨ k = H ∨ v.ownBlock = some k)
/-- The hazard manager at block b. -/
def HZ (b : Nat) (w : World) (F : FP) (s : RS) : Prop := ∃ H cH v, HZv b H cH v w F s
section
variable {b H cH : Nat} {v : Value} {w : World} {F : FP} {s : RS}
theorem HZv.hblk (h : HZv b H cH v w F s) : ∃ c, w.heap[H]? = some (.cells c 76 (0, 0)) := owns_blk h.hrow rfl
theorem HZv.neH (h : HZv b H cH v w F s) : H ≠ b := by
  rintro rfl; obtain ⟨c, hc⟩ := h.hblk
  exact absurd (blk_ty hc h.blk) (by decide)
theorem HZv.nev (h : HZv b H cH v w F s) (k : Nat) (hk : v.ownBlock = some k) : k ≠ b ∧ k ≠ H := by
  obtain ⟨c, hc⟩ := owns_blk h.row hk
  refine ⟨?_, ?_⟩
  · rintro rfl; exact absurd (blk_ty hc h.blk) (by decide)
  · rintro rfl; obtain ⟨d, hd⟩ := h.hblk; exact absurd (blk_ty hc hd) (by decide)
theorem HZv.tH (h : HZv b H cH v w F s) {k : Nat} (hk : (Value.slice (some ⟨H, 0, none⟩) s.n cH).ownBlock = some k) : k = H := own_sl_eq hk
theorem HZv.local_fr {w' : World} {G : FP} (h : HZv b H cH v w F s) (hf : Fr G w w') (hn : ∀ k, F k → ¬ G k) : HZv b H cH v w' F s :=
  ⟨h.kind, h.ok, hf.at_ h.blk (hn b ((h.fp b).2 (.inl rfl))), owns_fr h.hrow hf (fun k hk => by rw [h.tH hk]; exact hn H ((h.fp H).2 (.inr (.inl rfl)))), owns_fr h.row hf (fun k hk => hn k ((h.fp k).2 (.inr (.inr hk)))), h.fp⟩
theorem HZv.lt (h : HZv b H cH v w F s) (k : Nat) (hk : F k) : k < w.heap.size := by
  rcases (h.fp k).1 hk with rfl | rfl | hk
  · exact blk_lt h.blk
  · obtain ⟨c, hc⟩ := h.hblk; exact blk_lt hc
  · exact (h.row.lt k hk).2
end
theorem HZ.local (b : Nat) : Local (HZ b) := ⟨fun ⟨H, cH, v, h⟩ k hk => h.lt k hk, fun ⟨H, cH, v, h⟩ hf hn => ⟨H, cH, v, h.local_fr hf hn⟩⟩
theorem HZv.upd {b H cH : Nat} {v : Value} {w : World} {F : FP} {s s' : RS} (h : HZv b H cH v w F s) (hok : Ok s') (hk : s'.kind = s.kind) (hn : s'.n = s.n) (hh : s'.holds = s.holds) (hit : hzl s' = hzl s) : HZv b H cH v w F s' :=
  ⟨hk.trans h.kind, hok, by rw [hn]; exact h.blk, by rw [hn, show hRows s' = hRows s by unfold hRows; rw [hn, hh]]; exact h.hrow, by rw [← hzl_len, hit, hzl_len]; exact h.row, h.fp⟩
theorem hzNo {b H cH : Nat} {v : Value} {w : World} {F : FP} {s : RS} (h : HZv b H cH v w F s) (t : Int) : Calls Tryz.prog 101 #[.pointer (some ⟨b, 0, none⟩), .int .i64 t] w fun e w' => e = .returned (.bool (!okTh s t)) ∧ w = w' := by
  refine cph fun R HR => ?_
  have k0 := (blk_cell h.blk 0).trans (rfl : _ = some (Value.slice (some ⟨H, 0, none⟩) s.n cH))
  rcases okTh_cases s t h.ok.n4 with ⟨h1, e⟩ | ⟨h1, h2, e⟩ | ⟨h1, h2, e⟩
  · rw [e] at HR
    have d1 : decide (t < 0) = true := decide_eq_true (by omega)
    clear h e
    go_enter Tryz.func101, Tryz.ntmps101
    go_wp2_with fail
    exact HR.out _ _ ⟨rfl, rfl⟩
  · rw [e] at HR
    have d1 : decide (t < 0) = false := decide_eq_false (by omega)
    have d2 : decide ((s.n : Int) ≤ t) = true := decide_eq_true (by omega)
    clear h e
    go_enter Tryz.func101, Tryz.ntmps101
    go_wp2_with fail
    exact HR.out _ _ ⟨rfl, rfl⟩
  · rw [e] at HR
    have d1 : decide (t < 0) = false := decide_eq_false (by omega)
    have d2 : decide ((s.n : Int) ≤ t) = false := decide_eq_false (by omega)
    clear h e
    go_enter Tryz.func101, Tryz.ntmps101
    go_wp2_with fail
    exact HR.out _ _ ⟨rfl, rfl⟩
theorem HZv.set1 {b H cH : Nat} {v : Value} {w : World} {F : FP} {s s' : RS} (h : HZv b H cH v w F s) {t k : Nat} (ht : t < s.n) (hk3 : k < 3) (a : Int) (hok : Ok s') (hk : s'.kind = s.kind) (hn : s'.n = s.n) (hh : s'.holds = upd1 s.holds t (upd1 (s.holds t) k a)) (hit : hzl s' = hzl s) :
    HZv b H cH v (w.setCell ⟨H, t * 3 + k, none⟩ (.int .i64 a)) F s' ∧ Fr F w (w.setCell ⟨H, t * 3 + k, none⟩ (.int .i64 a)) := by
  have hf : Fr (· = H) w (w.setCell ⟨H, t * 3 + k, none⟩ (.int .i64 a)) := (Fr.refl _ _).setCell _ _ (.inr rfl)
  refine ⟨⟨hk.trans h.kind, hok, ?_, ?_, ?_, h.fp⟩, hf.mono fun i _ e => (h.fp i).2 (.inr (.inl e))⟩
  · rw [hn]; exact hf.at_ h.blk (fun e => h.neH e.symm)
  · have h1 := (h.hrow.stored (t * 3 + k) (.int .i64 a)).1
    rw [flat_set encH_len _ t _ (upd1 (s.holds t) k a) k _ (hRows_at ht) hk3 (encH_set _ hk3 a), hRows_upd ht _ s' hn hh, ← hn] at h1
    exact h1
  · rw [← hzl_len, hit, hzl_len]
    exact owns_fr h.row hf (fun j hj e => (h.nev j hj).2 e)
set_option maxHeartbeats 1000000 in
theorem hzIn {b : Nat} {w : World} {F : FP} {s : RS} (h : HZ b w F s) (t : Int) : Calls Tryz.prog 53 #[.pointer (some ⟨b, 0, none⟩), .int .i64 t] w (OpP (HZ b) w F (inS s t)) := by
  refine cph fun R HR => ?_
  have HQ := Lib.hid h
  obtain ⟨H, cH, v, hv⟩ := h
  have HH := Lib.hid (hzNo hv t)
  have HV := Lib.hid hv
  cases ht : okTh s t
  · rw [ht] at HH
    have e : inS s t = ⟨s, [], 1⟩ := by simp [inS, ht]
    rw [e] at HR
    clear hv e
    go_enter Tryz.func53, Tryz.ntmps53
    go_wp2_with (go_at_call 101; refine HH.out.mono ?_; rintro e w' ⟨rfl, rfl⟩)
    exact HR.out _ _ (OpP.none HQ.out (Step.refl _ _))
  · rw [ht] at HH
    have hok := hv.ok.in_ t
    have e : inS s t = ⟨(inS s t).st, [], 0⟩ := by simp [inS, ht]
    rw [e] at HR
    have HS := Lib.hid (hv.upd hok (by simp [inS, ht]) (by simp [inS, ht]) (by have := hv.kind; simp [inS, ht, this]) (by simp [inS, ht, hzl]))
    clear hv e hok ht
    go_enter Tryz.func53, Tryz.ntmps53
    go_wp2_with (go_at_call 101; refine HH.out.mono ?_; rintro e w' ⟨rfl, rfl⟩)
    exact HR.out _ _ (OpP.none ⟨H, cH, v, HS.out⟩ (Step.refl _ _))
theorem hzl_out (s : RS) (t : Nat) : hzl (outS0 s t) = hzl s := by simp [hzl, outS0]
theorem upd3 {h : Nat → Nat → Int} {t : Nat} (h0 : ∀ k, 3 ≤ k → h t k = 0) : upd1 (upd1 (upd1 h t (upd1 (h t) 0 0)) t (upd1 (upd1 h t (upd1 (h t) 0 0) t) 1 0)) t (upd1 (upd1 (upd1 h t (upd1 (h t) 0 0)) t (upd1 (upd1 h t (upd1 (h t) 0 0) t) 1 0) t) 2 0) = upd1 h t (fun _ => 0) := by
  funext i k
  unfold upd1
  by_cases e : i = t
  · subst e
    simp only [if_true]
    by_cases e2 : k = 2
    · simp [e2]
    · by_cases e1 : k = 1
      · simp [e1]
      · by_cases e0 : k = 0
        · simp [e0]
        · rw [if_neg e2, if_neg e1, if_neg e0]; exact h0 k (by omega)
  · simp [e]
set_option maxHeartbeats 1000000 in
theorem hzOut {b : Nat} {w : World} {F : FP} {s : RS} (h : HZ b w F s) (t : Int) : Calls Tryz.prog 54 #[.pointer (some ⟨b, 0, none⟩), .int .i64 t] w (OpP (HZ b) w F (outS s t)) := by
  refine cph fun R HR => ?_
  have HQ := Lib.hid h
  obtain ⟨H, cH, v, hv⟩ := h
  have HH := Lib.hid (hzNo hv t)
  have HV := Lib.hid hv
  cases ht : okTh s t
  · rw [ht] at HH
    have e : outS s t = ⟨s, [], 1⟩ := by simp [outS, ht]
    rw [e] at HR
    clear hv e
    go_enter Tryz.func54, Tryz.ntmps54
    go_wp2_with (go_at_call 101; refine HH.out.mono ?_; rintro e w' ⟨rfl, rfl⟩)
    exact HR.out _ _ (OpP.none HQ.out (Step.refl _ _))
  · rw [ht] at HH
    obtain ⟨k, rfl, hk⟩ := okTh_nat ht
    have hok := hv.ok.out0 hk
    have e : outS s (k : Int) = ⟨outS0 s k, [], 0⟩ := by simp [outS, ht, hv.kind]
    rw [e] at HR
    have hst : HZv b H cH v (((w.setCell ⟨H, k * 3 + 0, none⟩ (.int .i64 0)).setCell ⟨H, k * 3 + 1, none⟩ (.int .i64 0)).setCell ⟨H, k * 3 + 2, none⟩ (.int .i64 0)) F (outS0 s k) ∧ Fr F w (((w.setCell ⟨H, k * 3 + 0, none⟩ (.int .i64 0)).setCell ⟨H, k * 3 + 1, none⟩ (.int .i64 0)).setCell ⟨H, k * 3 + 2, none⟩ (.int .i64 0)) := by
      have o1 : Ok (holdS0 s k 0 0) := hv.ok.hold0 hk (by omega) (by omega)
      have p1 := hv.set1 (s' := holdS0 s k 0 0) hk (k := 0) (by omega) 0 o1 rfl rfl rfl rfl
      have o2 : Ok (holdS0 (holdS0 s k 0 0) k 1 0) := o1.hold0 hk (by omega) (by omega)
      have p2 := p1.1.set1 (s' := holdS0 (holdS0 s k 0 0) k 1 0) hk (k := 1) (by omega) 0 o2 rfl rfl rfl rfl
      have o3 : Ok (holdS0 (holdS0 (holdS0 s k 0 0) k 1 0) k 2 0) := o2.hold0 hk (by omega) (by omega)
      have p3 := p2.1.set1 (s' := holdS0 (holdS0 (holdS0 s k 0 0) k 1 0) k 2 0) hk (k := 2) (by omega) 0 o3 rfl rfl rfl rfl
      exact ⟨p3.1.upd hok rfl rfl (upd3 fun k' hk' => hv.ok.holds k k' (.inr hk')).symm (hzl_out s k), p1.2.trans (p2.2.trans p3.2)⟩
    have HS := Lib.hid hst
    have e0 := (blk_cell hv.blk 0).trans (rfl : _ = some (Value.slice (some ⟨H, 0, none⟩) s.n cH))
    have eT : ∀ j, j < 3 → ∃ x, w.cell? ⟨H, k * 3 + j, none⟩ = some x := fun j hj => by
      rw [own_at encH_len hv.hrow (hRows_at hk) hj]
      exact ⟨_, List.getElem?_eq_getElem (by rw [encH_len]; exact hj)⟩
    obtain ⟨x0, c0⟩ := eT 0 (by omega)
    obtain ⟨x1, c1⟩ := eT 1 (by omega)
    obtain ⟨x2, c2⟩ := eT 2 (by omega)
    have f0 := hv.hrow.frozenAt (k * 3 + 0)
    have f1 := hv.hrow.frozenAt (k * 3 + 1)
    have f2 := hv.hrow.frozenAt (k * 3 + 2)
    have hki : (k : Int) < (s.n : Int) := by omega
    have hbl := blk_lt hv.blk
    have hk4 : k < 4 := by have := hv.ok.n4; omega
    clear hv e hok hst ht eT
    obtain rfl | rfl | rfl | rfl : k = 0 ∨ k = 1 ∨ k = 2 ∨ k = 3 := by omega
    all_goals
      simp only [Nat.reduceMul, Nat.reduceAdd] at HS c0 c1 c2 f0 f1 f2
      go_enter Tryz.func54, Tryz.ntmps54
      go_wp2_with (go_at_call 101; refine HH.out.mono ?_; rintro e w' ⟨rfl, rfl⟩)
      exact HR.out _ _ (OpP.none ⟨H, cH, v, HS.out.1⟩ ⟨HS.out.2, fun j hj => .inl hj⟩)
set_option maxHeartbeats 1000000 in
theorem hzHold {b : Nat} {w : World} {F : FP} {s : RS} (h : HZ b w F s) (t k a : Int) : Calls Tryz.prog 55 #[.pointer (some ⟨b, 0, none⟩), .int .i64 t, .int .i64 k, .int .i64 a] w (OpP (HZ b) w F (holdS s t k a)) := by
  refine cph fun R HR => ?_
  have HQ := Lib.hid h
  obtain ⟨H, cH, v, hv⟩ := h
  have HH := Lib.hid (hzNo hv t)
  have HV := Lib.hid hv
  cases ht : okTh s t
  · rw [ht] at HH
    have e : holdS s t k a = ⟨s, [], 1⟩ := by simp [holdS, ht]
    rw [e] at HR
    clear hv e
    go_enter Tryz.func55, Tryz.ntmps55
    go_wp2_with (go_at_call 101; refine HH.out.mono ?_; rintro e w' ⟨rfl, rfl⟩)
    exact HR.out _ _ (OpP.none HQ.out (Step.refl _ _))
  · rw [ht] at HH
    rcases holdOk_cases k a with ⟨h1, e⟩ | ⟨h1, h2, e⟩ | ⟨h1, h2, h3, e⟩ | ⟨h1, h2, h3, e⟩
    iterate 3
      have e2 : holdS s t k a = ⟨s, [], 1⟩ := by simp [holdS, e]
      rw [e2] at HR
      clear hv e e2 ht
      go_enter Tryz.func55, Tryz.ntmps55
      go_wp2_with (go_at_call 101; refine HH.out.mono ?_; rintro e w' ⟨rfl, rfl⟩)
      exact HR.out _ _ (OpP.none HQ.out (Step.refl _ _))
    have e2 : holdS s t k a = ⟨holdS0 s t.toNat k.toNat a, [], 0⟩ := by simp [holdS, ht, e, hv.kind]
    rw [e2] at HR
    obtain ⟨t', rfl, ht'⟩ := okTh_nat ht
    obtain ⟨k', rfl⟩ := Int.eq_ofNat_of_zero_le (a := k) (by omega)
    simp only [Int.toNat_natCast] at HR
    have hk3 : k' < 3 := by omega
    have HS := Lib.hid (hv.set1 (s' := holdS0 s t' k' a) ht' hk3 a (hv.ok.hold0 ht' hk3 h3) rfl rfl rfl rfl)
    have e0 := (blk_cell hv.blk 0).trans (rfl : _ = some (Value.slice (some ⟨H, 0, none⟩) s.n cH))
    have c0 : ∃ x, w.cell? ⟨H, t' * 3 + k', none⟩ = some x := by
      rw [own_at encH_len hv.hrow (hRows_at ht') hk3]
      exact ⟨_, List.getElem?_eq_getElem (by rw [encH_len]; exact hk3)⟩
    obtain ⟨x0, c0⟩ := c0
    have f0 := hv.hrow.frozenAt (t' * 3 + k')
    have hki : (t' : Int) < (s.n : Int) := by omega
    have hbl := blk_lt hv.blk
    clear hv e e2 ht
    go_enter Tryz.func55, Tryz.ntmps55
    go_wp2_with (go_at_call 101; refine HH.out.mono ?_; rintro e w' ⟨rfl, rfl⟩)
    exact HR.out _ _ (OpP.none ⟨H, cH, v, HS.out.1⟩ ⟨HS.out.2, fun j hj => .inl hj⟩)
theorem hzBorn {b : Nat} {w : World} {F : FP} {s : RS} (h : HZ b w F s) (a : Int) : Calls Tryz.prog 176 #[.pointer (some ⟨b, 0, none⟩), .int .i64 a] w (OpE (HZ b) w F (bornS s a)) := by
  refine cph fun R HR => ?_
  have HQ := Lib.hid h
  obtain ⟨H, cH, v, hv⟩ := h
  have HH := Lib.hid (hzNo hv 0)
  rw [okTh_zero hv.ok] at HH
  by_cases ha : 0 < a
  · have e : bornS s a = ⟨s, [], 0⟩ := by simp [bornS, ha, hv.kind]
    rw [e] at HR
    have ha2 : ¬ a < 1 := by omega
    clear hv e
    go_enter Tryz.func176, Tryz.ntmps176
    go_wp2_with (go_at_call 101; refine HH.out.mono ?_; rintro e w' ⟨rfl, rfl⟩)
    exact HR.out _ _ ⟨F, rfl, HQ.out, Step.refl _ _⟩
  · have e : bornS s a = ⟨s, [], 1⟩ := by simp [bornS, ha]
    rw [e] at HR
    have ha2 : a < 1 := by omega
    clear hv e
    go_enter Tryz.func176, Tryz.ntmps176
    go_wp2_with (go_at_call 101; refine HH.out.mono ?_; rintro e w' ⟨rfl, rfl⟩)
    exact HR.out _ _ ⟨F, rfl, HQ.out, Step.refl _ _⟩
end Go.Proofs.YtcgcljmnnjalpaaGreat
set_option linter.unusedVariables false
set_option linter.unusedSimpArgs false
namespace Go.Proofs.YtcgcljmnnjalpaaGreat
open Go.RowKit Go.Kx
open Go.ChangeMaps (setBlock)
set_option maxRecDepth 100000 in
set_option maxHeartbeats 4000000 in
theorem hzWaiting {b : Nat} {w : World} {F : FP} {s : RS} (h : HZ b w F s) (hs : s.items.length ≤ 100000) : Calls Tryz.prog 74 #[.pointer (some ⟨b, 0, none⟩)] w (WaitP w s) := by
  refine cph fun R HR => ?_
  obtain ⟨H, cH, v, hv⟩ := h
  have k5 := (blk_cell hv.blk 1).trans (rfl : _ = some v)
  have HV := Lib.hid hv
  obtain ⟨i0, hi, hz0, hz1, hz2⟩ := info_parts info3x
  have HI := Lib.hid (And.intro hi (And.intro hz0 (And.intro hz1 hz2)))
  clear hi hz0 hz1 hz2
  have hsh : ∃ A cap, v = .slice A s.items.length cap ∧ (s.items ≠ [] → ∃ g, A = some ⟨g, 0, none⟩) := by
    rcases own_val hv.row with ⟨rfl, h0⟩ | ⟨g, cap, rfl, _⟩
    · have : s.items = [] := List.eq_nil_of_length_eq_zero h0
      exact ⟨none, 0, by rw [h0], fun h => absurd this h⟩
    · exact ⟨_, cap, rfl, fun _ => ⟨g, rfl⟩⟩
  obtain ⟨A, cap, rfl, hA⟩ := hsh
  have HA := Lib.hid hA
  clear hv hA
  go_enter Tryz.func74, Tryz.ntmps74
  go_wp2_with fail
  go_loopw [3, 13] (fun u i wr => ∃ k : Nat, k ≤ s.items.length ∧ i = .int .i64 k ∧ Hid (wr.ownsRow w.heap.size 3 1 u k ((s.items.map fun x => Value.int .i64 x.addr).take k) ∧ Grow w wr)) (fun _ i _ => s.items.length - (intOf i).toNat)
  case atStart => exact ⟨0, by omega, rfl, World.ownsRow_nil _ _ _ _, Grow.refl _⟩
  case round =>
    obtain ⟨k, hk, rfl, HO⟩ := hrel
    by_cases hlt : k < s.items.length
    · obtain ⟨x, hx⟩ : ∃ x, s.items[k]? = some x := ⟨s.items[k], by simp [hlt]⟩
      have hx2 : (hzl s)[k]? = some (x.thr, x.addr) := by unfold hzl; rw [List.getElem?_map, hx]; rfl
      obtain ⟨g, rfl⟩ := HA.out (by intro e; rw [e] at hlt; simp at hlt)
      have c0 := HO.out.2.cell ((own_at enc2_len HV.out.row hx2 (o := 0) (by omega)).trans (rfl : _ = some (Value.int .i64 x.thr)))
      have c1 := HO.out.2.cell ((own_at enc2_len HV.out.row hx2 (o := 1) (by omega)).trans (rfl : _ = some (Value.int .i64 x.addr)))
      have hki : (k : Int) < (s.items.length : Int) := by omega
      have hgs := HO.out.2.size
      have HX := Lib.hid hx
      clear hx hx2
      rw [Nat.add_zero] at c0
      have hnw := cell_one_new (wr.alloc (Obj.cells #[.int .i64 x.thr, .int .i64 x.addr] 140)) (.int .i64 x.addr) 3
      rw [size_alloc] at hnw
      have HNW := Lib.hid hnw
      clear hnw
      go_wp2_with (at_builtin; refine wpList_append_own_at _ rfl (.tmp 17) (.tmp 20) 34 rfl w.heap.size 3 i0 (.int .i64 0) 1 8 Tryz.underlying34 HI.out.1 HI.out.2.1 HI.out.2.2.1 HI.out.2.2.2 rfl (by decide) _ _ _ rfl ((HO.out.1.alloc _).alloc _) ⟨wr.heap.size + 1, 0, none⟩ 1 1 [.int .i64 x.addr] rfl rfl HNW.out (by simp [Value.oneCell']) (by unfold maxLen; omega) (by omega) (by simp; omega) ?_)
      intro v' w3 hown hgrow _ hat
      have H7 : Hid (w3.ownsRow w.heap.size 3 1 v' (k + 1) ((s.items.map fun x => Value.int .i64 x.addr).take (k + 1)) ∧ Grow w w3) := ⟨by
        rw [List.take_add_one, List.getElem?_map, HX.out]; exact hown, ((HO.out.2.alloc _).alloc _).grown hgrow (fun j e => (HO.out.1.lt j e).1)⟩
      clear hown hgrow hat
      go_wp2_with fail
      go_roundw
      case rel => exact ⟨k + 1, by omega, by go_num, H7.out⟩
      case measure => simp [intOf] <;> omega
    · obtain rfl : k = s.items.length := by omega
      have hki : ¬ (s.items.length : Int) < (s.items.length : Int) := by omega
      go_wp2_with fail
      refine HR.out _ _ ⟨_, rfl, ?_, HO.out.2⟩
      have := HO.out.1
      rwa [List.take_of_length_le (by simp)] at this
set_option maxHeartbeats 1000000 in
theorem hzNew (w : World) (t : Int) : Calls Tryz.prog 48 #[.int .i64 t] w (NewP HZ 1 w t) := by
  refine cph fun R HR => ?_
  by_cases h1 : t < 1
  · go_enter Tryz.func48, Tryz.ntmps48
    go_wp2_with fail
    exact HR.out _ _ (NewP.no (by omega) (Grow.refl _))
  by_cases h4 : 4 < t
  · go_enter Tryz.func48, Tryz.ntmps48
    go_wp2_with fail
    exact HR.out _ _ (NewP.no (by omega) (Grow.refl _))
  obtain ⟨n, rfl⟩ := Int.eq_ofNat_of_zero_le (a := t) (by omega)
  have hmk := mk116 n (by omega) (by omega) w
  have hr0 := hrow_new (w := w) (k := 1) (n := n) (by omega) (by omega)
  obtain ⟨w1, hw1⟩ : ∃ w1, w.alloc (.cells (Array.replicate (n * 3) (.int .i64 0)) 76) = w1 := ⟨_, rfl⟩
  have hs1 : w1.heap.size = w.heap.size + 1 := by rw [← hw1]; exact size_alloc _ _
  have hg1 : Grow w w1 := by rw [← hw1]; exact (Grow.refl _).alloc _
  rw [hw1] at hmk hr0
  have HQ : Hid (HZ (w.heap.size + 1) (w1.alloc (.cells #[.slice (some ⟨w.heap.size, 0, none⟩) n n, .slice none 0 0] 119)) (fun k => k = w.heap.size + 1 ∨ k = w.heap.size ∨ (Value.slice none 0 0).ownBlock = some k) (newS 1 n)) := by
    refine ⟨w.heap.size, n, .slice none 0 0, rfl, ok_new 1 (by omega) (by omega), ?_, ?_, World.ownsRow_nil _ _ _ _, fun k => Iff.rfl⟩
    · have := blk_new w1 (.cells #[.slice (some ⟨w.heap.size, 0, none⟩) n n, .slice none 0 0] 119)
      rw [hs1] at this
      exact this
    · exact owns_grow hr0 ((Grow.refl _).alloc _)
  have HG := Lib.hid hg1
  have HW := Lib.hid hs1
  clear hr0 hg1 hw1
  go_enter Tryz.func48, Tryz.ntmps48
  go_wp2_with fail
  rw [HW.out] at *
  exact HR.out _ _ (NewP.yes ⟨by omega, by omega⟩ HQ.out (HG.out.alloc _) (fun j hj => by
    rcases hj with e | e | e
    · omega
    · omega
    · simp [Value.ownBlock] at e))
end Go.Proofs.YtcgcljmnnjalpaaGreat
set_option linter.unusedVariables false
set_option linter.unusedSimpArgs false
namespace Go.Proofs.YtcgcljmnnjalpaaGreat
open Go.RowKit Go.Kx
open Go.ChangeMaps (setBlock)
section
variable {α : Type}
def fstG (p : α → Bool) : List α → Int
  | [] => -1
  | x :: l => if p x then 0 else if fstG p l < 0 then -1 else fstG p l + 1
theorem fstG_ge (p : α → Bool) : ∀ l, -1 ≤ fstG p l
  | [] => by simp [fstG]
  | x :: l => by
    have := fstG_ge p l
    unfold fstG
    split
    · omega
    · split <;> omega
theorem fstG_stop {p : α → Bool} {l : List α} {k : Nat} (hk : k < l.length) (h : ∀ x ∈ l.take k, p x = false) (hp : p l[k] = true) : fstG p l = k := by
  induction l generalizing k with
  | nil => simp at hk
  | cons x l ih =>
    cases k with
    | zero => simp at hp; simp [fstG, hp]
    | succ k =>
      have h0 : p x = false := h x (by simp)
      have := ih (k := k) (by simpa using hk) (fun y hy => h y (by simp [hy])) (by simpa using hp)
      unfold fstG
      rw [if_neg (by simp [h0]), this, if_neg (by omega)]
      simp
theorem fstG_none {p : α → Bool} {l : List α} (h : ∀ x ∈ l, p x = false) : fstG p l = -1 := by
  induction l with
  | nil => rfl
  | cons x l ih =>
    unfold fstG
    rw [if_neg (by simp [h x (by simp)]), ih fun y hy => h y (by simp [hy])]
    rfl
theorem takeG {p : α → Bool} {l : List α} {k : Nat} (hk : k < l.length) (h : ∀ x ∈ l.take k, p x = false) (hp : p l[k] = false) : ∀ x ∈ l.take (k + 1), p x = false := by
  rw [List.take_succ_eq_append_getElem hk]
  intro x hx
  rcases List.mem_append.1 hx with h1 | h1
  · exact h x h1
  · rw [List.mem_singleton.1 h1]; exact hp
theorem fstG_any (p : α → Bool) (l : List α) : decide (0 ≤ fstG p l) = l.any p := by
  induction l with
  | nil => rfl
  | cons x l ih =>
    have := fstG_ge p l
    rw [List.any_cons, ← ih, show fstG p (x :: l) = if p x then 0 else if fstG p l < 0 then -1 else fstG p l + 1 from rfl]
    by_cases h : p x
    · simp [h]
    · rw [if_neg h, show p x = false by simpa using h, Bool.false_or]
      by_cases h2 : fstG p l < 0
      · rw [if_pos h2, decide_eq_false (by omega), decide_eq_false (by omega)]
      · rw [if_neg h2, decide_eq_true (by omega), decide_eq_true (by omega)]
end
/-- What a predicate on rows answers; it may lay new blocks. -/
def PredH (g : Nat) (lb : Array Value) (p : (Nat → Int) → Bool) (w : World) (l : List (Nat → Int)) : Prop :=
  ∀ r ∈ l, ∀ W, Grow w W → Calls Tryz.prog g (#[.agg #[.int .i64 (r 0), .int .i64 (r 1), .int .i64 (r 2)]] ++ lb) W fun e w' => e = .returned (.bool (p r)) ∧ Grow W w'
set_option maxHeartbeats 1000000 in
theorem indexH_any {w : World} {H cH : Nat} {l : List (Nat → Int)} {g : Nat} {lb : Array Value} {p : (Nat → Int) → Bool} (hown : w.ownsRow 0 76 3 (.slice (some ⟨H, 0, none⟩) l.length cH) l.length (l.flatMap encH)) (hp : PredH g lb p w l) (eg : ∀ args w, (callFunc g args).run Tryz.prog w = .ok (.enter g args) w) (hl : l.length ≤ 20000) :
    Calls Tryz.prog 146 #[.slice (some ⟨H, 0, none⟩) l.length cH, .func (.func g) #[] lb] w fun e w' => e = .returned (.int .i64 (fstG p l)) ∧ Grow w w' := by
  refine cph fun R HR => ?_
  have HO := Lib.hid hown
  have HP := Lib.hid hp
  clear hown hp
  go_enter Tryz.func146, Tryz.ntmps146
  go_wp2_with fail
  go_loopw [8] (fun i wr => ∃ k : Nat, k ≤ l.length ∧ i = .int .i64 k ∧ Hid ((∀ x ∈ l.take k, p x = false) ∧ Grow w wr)) (fun i _ => l.length - (intOf i).toNat)
  case atStart => exact ⟨0, Nat.zero_le _, rfl, fun x hx => by simp at hx, Grow.refl _⟩
  case round =>
    obtain ⟨k, hk, rfl, HK⟩ := hrel
    by_cases hlt : k < l.length
    · have hki : (k : Int) < (l.length : Int) := by omega
      obtain ⟨x, hx⟩ : ∃ x, x = l[k] := ⟨_, rfl⟩
      have hx2 : l[k]? = some x := by rw [hx]; simp [hlt]
      have c0 := HK.out.2.cell ((own_at encH_len HO.out hx2 (o := 0) (by omega)).trans (rfl : _ = some (Value.int .i64 (x 0))))
      have c1 := HK.out.2.cell ((own_at encH_len HO.out hx2 (o := 1) (by omega)).trans (rfl : _ = some (Value.int .i64 (x 1))))
      have c2 := HK.out.2.cell ((own_at encH_len HO.out hx2 (o := 2) (by omega)).trans (rfl : _ = some (Value.int .i64 (x 2))))
      rw [Nat.add_zero] at c0
      have hq := Lib.hid (HP.out x (List.mem_of_getElem? hx2) wr HK.out.2)
      have HX := Lib.hid hx
      clear hx hx2
      cases hpx : p x
      · rw [hpx] at hq
        have HF := Lib.hid hpx
        clear hpx
        go_wp2_with (go_at_fn g; refine hq.out.mono ?_; rintro e w' ⟨rfl, hg⟩; have H7 := Lib.hid hg; clear hg)
        go_roundw
        case rel => exact ⟨k + 1, by omega, by go_num, takeG hlt HK.out.1 (by rw [← HX.out]; exact HF.out), HK.out.2.trans H7.out⟩
        case measure => simp [intOf] <;> omega
      · rw [hpx] at hq
        have HF := Lib.hid hpx
        clear hpx
        have e := fstG_stop hlt HK.out.1 (by rw [← HX.out]; exact HF.out)
        rw [e] at HR
        clear e
        go_wp2_with (go_at_fn g; refine hq.out.mono ?_; rintro e w' ⟨rfl, hg⟩; have H7 := Lib.hid hg; clear hg)
        exact HR.out _ _ ⟨rfl, HK.out.2.trans H7.out⟩
    · have hki : ¬ (k : Int) < (l.length : Int) := by omega
      have e := fstG_none (p := p) (l := l) fun x hx => HK.out.1 x (by rw [List.take_of_length_le (by omega)]; exact hx)
      rw [e] at HR
      clear e
      go_wp2_with fail
      exact HR.out _ _ ⟨rfl, HK.out.2⟩
theorem containsH_any {w : World} {H cH : Nat} {l : List (Nat → Int)} {g : Nat} {lb : Array Value} {p : (Nat → Int) → Bool} (hown : w.ownsRow 0 76 3 (.slice (some ⟨H, 0, none⟩) l.length cH) l.length (l.flatMap encH)) (hp : PredH g lb p w l) (eg : ∀ args w, (callFunc g args).run Tryz.prog w = .ok (.enter g args) w) (hl : l.length ≤ 20000) :
    Calls Tryz.prog 131 #[.slice (some ⟨H, 0, none⟩) l.length cH, .func (.func g) #[] lb] w fun e w' => e = .returned (.bool (l.any p)) ∧ Grow w w' := by
  refine cph fun R HR => ?_
  have HI := Lib.hid (indexH_any hown hp eg hl)
  rw [← fstG_any] at HR
  generalize fstG p l = i at HI HR
  clear hown hp
  go_enter Tryz.func131, Tryz.ntmps131
  go_wp2_with (go_at_call 146; refine HI.out.mono ?_; rintro e w' ⟨rfl, hg⟩; have H7 := Lib.hid hg; clear hg)
  exact HR.out _ _ ⟨rfl, H7.out⟩
theorem eg132 (args : Array Value) (w : World) : (callFunc 132 args).run Tryz.prog w = .ok (.enter 132 args) w := by kernel_rfl
theorem eg130 (args : Array Value) (w : World) : (callFunc 130 args).run Tryz.prog w = .ok (.enter 130 args) w := by kernel_rfl
theorem eg134 (args : Array Value) (w : World) : (callFunc 134 args).run Tryz.prog w = .ok (.enter 134 args) w := by kernel_rfl
/-- Is an address among a thread's holds? -/
def rowB (a : Int) (r : Nat → Int) : Bool := decide (a ∈ [r 0, r 1, r 2])
set_option maxHeartbeats 1000000 in
theorem hzRow {w : World} {B2 : Nat} {a : Int} {l : List (Nat → Int)} (h : w.cell? ⟨B2, 0, none⟩ = some (.int .i64 a)) : PredH 132 #[.pointer (some ⟨B2, 0, none⟩)] (rowB a) w l := by
  intro r _ W hW
  refine cph fun R HR => ?_
  have hB := hW.cell h
  have hn := blk_new W (Obj.cells #[.int .i64 (r 0), .int .i64 (r 1), .int .i64 (r 2)] 76)
  have hg := (Grow.refl W).alloc (Obj.cells #[.int .i64 (r 0), .int .i64 (r 1), .int .i64 (r 2)] 76)
  obtain ⟨w2, hw2⟩ : ∃ w2, W.alloc (Obj.cells #[.int .i64 (r 0), .int .i64 (r 1), .int .i64 (r 2)] 76) = w2 := ⟨_, rfl⟩
  rw [hw2] at hn hg
  have hB2 := hg.cell hB
  have HC : Hid (∀ n, Calls Tryz.prog 106 #[.slice (some ⟨W.heap.size, 0, none⟩) 3 3, .int .i64 a] (w2.drewN n) fun e w' => e = .returned (.bool (decide (a ∈ [r 0, r 1, r 2]))) ∧ w2.drewN n = w') := Lib.hid fun n =>
    containsI_any (cap := 3) (l := [r 0, r 1, r 2]) a (.inr ⟨W.heap.size, 0, rfl, fun j y hj => by
      have hb3 : (w2.drewN n).cell? ⟨W.heap.size, 0 + j, none⟩ = _ := blk_cell (w := w2.drewN n) hn (0 + j)
      rw [hb3]
      match j, hj with
      | 0, hj => simp at hj; subst hj; rfl
      | 1, hj => simp at hj; subst hj; rfl
      | 2, hj => simp at hj; subst hj; rfl
      | j + 3, hj => simp at hj⟩) (by simp)
  have HG := Lib.hid hg
  clear hn hg hB
  generalize hm : rowB a r = m at HR
  have hm' : decide (a ∈ [r 0, r 1, r 2]) = m := hm
  have HM := Lib.hid hm'
  clear hm hm'
  go_enter Tryz.func132, Tryz.ntmps132
  go_upto_region 1 with fail
  go_quiet ((first | (go_at_call 106; exact Calls.quiet_of_same ((HC.out _).mono fun e w' h => ⟨by rw [h.1, HM.out], h.2.symm⟩))))
  go_wp2_with fail
  exact HR.out _ _ ⟨rfl, HG.out.drewN nq⟩
/-- Does any thread hold an address? -/
def heldR (s : RS) (a : Int) : Bool := (hRows s).any (rowB a)
theorem heldR_eq {s : RS} (h : Ok s) {a : Int} (ha : 0 < a) : heldR s a = heldB s a := by
  rw [Bool.eq_iff_iff]
  unfold heldR heldB
  rw [List.any_eq_true, List.any_eq_true]
  constructor
  · rintro ⟨r, hr, hp⟩
    obtain ⟨t, ht, rfl⟩ := List.mem_map.1 hr
    have ht' := List.mem_range.1 ht
    have := h.n4
    refine ⟨t, List.mem_range.2 (by omega), ?_⟩
    unfold rowB at hp
    simp at hp
    rcases hp with e | e | e
    · exact List.any_eq_true.2 ⟨0, by decide, by simp [e]⟩
    · exact List.any_eq_true.2 ⟨1, by decide, by simp [e]⟩
    · exact List.any_eq_true.2 ⟨2, by decide, by simp [e]⟩
  · rintro ⟨t, ht, hp⟩
    obtain ⟨k, hk, he⟩ := List.any_eq_true.1 hp
    have hk' := List.mem_range.1 hk
    have he' : s.holds t k = a := by simpa using he
    have htn : t < s.n := by
      rcases Nat.lt_or_ge t s.n with h1 | h1
      · exact h1
      · have := h.holds t k (.inl h1); omega
    refine ⟨s.holds t, List.mem_map.2 ⟨t, List.mem_range.2 htn, rfl⟩, ?_⟩
    unfold rowB
    obtain rfl | rfl | rfl : k = 0 ∨ k = 1 ∨ k = 2 := by omega
    all_goals simp [he']
set_option maxHeartbeats 1000000 in
theorem hzHeld {W : World} {b B H cH : Nat} {v : Value} {s : RS} {a : Int} (hn : s.n ≤ 4) (h1 : W.cell? ⟨B, 0, none⟩ = some (.pointer (some ⟨b, 0, none⟩))) (h2 : W.cell? ⟨b, 0, none⟩ = some (.slice (some ⟨H, 0, none⟩) s.n cH)) (h3 : W.ownsRow 0 76 3 (.slice (some ⟨H, 0, none⟩) s.n cH) s.n ((hRows s).flatMap encH)) :
    Calls Tryz.prog 130 #[.int .i64 a, .pointer (some ⟨B, 0, none⟩)] W fun e w' => e = .returned (.bool (heldR s a)) ∧ Grow W w' := by
  refine cph fun R HR => ?_
  have hg := (Grow.refl W).alloc (Obj.cells #[.int .i64 a] 3)
  have hn2 := (blk_cell (blk_new W (Obj.cells #[.int .i64 a] 3)) 0).trans (rfl : _ = some (Value.int .i64 a))
  obtain ⟨w2, hw2⟩ : ∃ w2, W.alloc (Obj.cells #[.int .i64 a] 3) = w2 := ⟨_, rfl⟩
  rw [hw2] at hg hn2
  have k1 := hg.cell h1
  have k2 := hg.cell h2
  have k3 := owns_grow h3 hg
  rw [← hRows_len s] at k3
  have hc := containsH_any k3 (hzRow hn2) eg132 (by rw [hRows_len]; omega)
  rw [hRows_len] at hc
  have HC := Lib.hid hc
  have HG := Lib.hid hg
  unfold heldR at HR
  generalize (hRows s).any (rowB a) = m at HR HC
  clear h1 h2 h3 hg k3 hc hn2
  go_enter Tryz.func130, Tryz.ntmps130
  go_wp2_with (go_at_call 131; refine HC.out.mono ?_; rintro e w' ⟨rfl, hg⟩; have H7 := Lib.hid hg; clear hg)
  exact HR.out _ _ ⟨rfl, HG.out.trans H7.out⟩
end Go.Proofs.YtcgcljmnnjalpaaGreat
set_option linter.unusedVariables false
set_option linter.unusedSimpArgs false
namespace Go.Proofs.YtcgcljmnnjalpaaGreat
open Go.RowKit Go.Kx
open Go.ChangeMaps (setBlock)
def goesZ (s : RS) (t : Int) (x : P2) : Bool := decide (x.1 = t) && !heldR s x.2
set_option maxRecDepth 100000 in
set_option maxHeartbeats 4000000 in
theorem hzScan2 {w0 : World} {b B H cH Tb Hd Bk : Nat} {s : RS} {t : Int} {G : Nat → Prop} {l : List P2} (hG : ∀ k, G k → k < w0.heap.size) (hBk : ¬ G Bk) (hBl : Bk < w0.heap.size) (hB : ¬ G B ∧ B ≠ Bk) (hb : ¬ G b ∧ b ≠ Bk) (hT : ¬ G Tb ∧ Tb ≠ Bk) (hH : ¬ G Hd ∧ Hd ≠ Bk) (hHH : ¬ G H ∧ H ≠ Bk)
    (h1 : w0.cell? ⟨B, 0, none⟩ = some (.pointer (some ⟨b, 0, none⟩))) (h2 : w0.cell? ⟨b, 0, none⟩ = some (.slice (some ⟨H, 0, none⟩) s.n cH)) (h3 : w0.cell? ⟨Tb, 0, none⟩ = some (.int .i64 t)) (h4 : w0.cell? ⟨Hd, 0, none⟩ = some (.func (.func 130) #[] #[.pointer (some ⟨B, 0, none⟩)]))
    (h5 : w0.ownsRow 0 76 3 (.slice (some ⟨H, 0, none⟩) s.n cH) s.n ((hRows s).flatMap encH)) (hn : s.n ≤ 4) (hl : l.length ≤ 200000) :
    PredJ 134 #[.pointer (some ⟨Tb, 0, none⟩), .pointer (some ⟨Hd, 0, none⟩), .pointer (some ⟨Bk, 0, none⟩)] G (goesZ s t) l (TJ w0 Bk G (goesZ s t) (·.2) l) := by
  intro n x W0 W hx hJ hfr
  refine cph fun R HR => ?_
  obtain ⟨u, j1, j2, j3⟩ := hJ
  have hnl : n < l.length := (List.getElem?_eq_some_iff.1 hx).1
  have hW : Fr (fun k => k = Bk ∨ G k) w0 W := Fr.then j3 hfr (fun i _ h => .inr h)
  have hkeep : ∀ {B : Nat} {u : Value}, ¬ G B ∧ B ≠ Bk → w0.cell? ⟨B, 0, none⟩ = some u → W.cell? ⟨B, 0, none⟩ = some u := fun hB h1 => (World.cell?_of_block (w := w0) (hW.blk _ (World.block_lt_of_cell? w0 _ h1) (fun h => h.elim hB.2 hB.1))).trans h1
  have hcB := hkeep hB h1
  have hcb := hkeep hb h2
  have hcT := hkeep hT h3
  have hcH := hkeep hH h4
  have hro := owns_fr h5 hW (fun k hk e => by rw [own_sl_eq hk] at e; exact e.elim hHH.2 hHH.1)
  have hbk := hfr.at_ j1 hBk
  have hkk := (blk_cell hbk 0).trans (rfl : _ = some u)
  have hru := owns_fr j2 hfr (fun k hk e => by have := (j2.lt k hk).1; have := hG k e; omega)
  have hrl := bkJ_len (goesZ s t) (·.2) l n
  have HJ := Lib.hid (And.intro j2 (And.intro hW (And.intro hbk (And.intro hru (And.intro j1 (And.intro j3.size hfr))))))
  have HX := Lib.hid hx
  obtain ⟨i0, hi, hz0, hz1, hz2⟩ := info_parts info3x
  have HI := Lib.hid (And.intro hi (And.intro hz0 (And.intro hz1 hz2)))
  obtain ⟨A, m, c, rfl⟩ := own_sl j2
  have hks := World.block_lt_of_cell? W _ hkk
  have hgs := hfr.size
  have hw0 := j3.size
  have HG := Lib.hid (And.intro hG (And.intro hBk hBl))
  have hnA := blk_new W (Obj.cells #[.int .i64 x.1, .int .i64 x.2] 140)
  have hgA := (Grow.refl W).alloc (Obj.cells #[.int .i64 x.1, .int .i64 x.2] 140)
  obtain ⟨wA, hwA⟩ : ∃ wA, W.alloc (Obj.cells #[.int .i64 x.1, .int .i64 x.2] 140) = wA := ⟨_, rfl⟩
  rw [hwA] at hnA hgA
  have a0 := (blk_cell hnA 0).trans (rfl : _ = some (Value.int .i64 x.1))
  have a1 := (blk_cell hnA 1).trans (rfl : _ = some (Value.int .i64 x.2))
  have aT := hgA.cell hcT
  have aH := hgA.cell hcH
  have HC := Lib.hid (hzHeld (a := x.2) (v := .slice A m c) hn (hgA.cell hcB) (hgA.cell hcb) (owns_grow hro hgA))
  have HA := Lib.hid (And.intro hgA hnA)
  have eg := eg130
  clear hx j1 j2 j3 hW hbk hru hi hz0 hz1 hz2 hnA hgA hfr hG hBk hBl hB hb h1 h2 h3 h4 h5 hT hH hHH hkeep hcB hcb hcT hcH hro
  by_cases hc : x.1 = t
  · have HD := Lib.hid hc
    have d1 : (x.1 == t) = true := by simp [hc]
    clear hc
    cases hh : heldR s x.2
    · rw [hh] at HC
      have hpx : goesZ s t x = true := by unfold goesZ; rw [hh, decide_eq_true HD.out]; rfl
      have HPX := Lib.hid hpx
      rw [hpx] at HR
      clear hpx hh
      go_enter Tryz.func134, Tryz.ntmps134
      go_upto_region 2 with (go_at_fn 130; refine HC.out.mono ?_; rintro e wX ⟨rfl, hgX0⟩; have hgX := HA.out.1.trans hgX0; have x1 := hgX0.cell a1; have xk := hgX.cell hkk; have HGX := Lib.hid hgX; clear hgX hgX0)
      have HNW := Lib.hid (cell_one_new wX (.int .i64 x.2) 3)
      go_wp2_with (at_builtin; refine wpList_append_own_at _ rfl (.tmp 19) (.tmp 22) 34 rfl w0.heap.size 3 i0 (.int .i64 0) 1 8 Tryz.underlying34 HI.out.1 HI.out.2.1 HI.out.2.2.1 HI.out.2.2.2 rfl (by decide) _ _ _ rfl ((owns_grow HJ.out.2.2.2.1 HGX.out).alloc _) ⟨wX.heap.size, 0, none⟩ 1 1 [.int .i64 x.2] rfl rfl HNW.out (by simp [Value.oneCell']) (by unfold maxLen; omega) (by omega) (by have := HGX.out.size; simp; omega) ?_; intro v1 w3 hown hgrow _ hat; obtain ⟨g, cap3, rfl⟩ := own_some hown; have hb3 : w3.heap[Bk]? = some (.cells #[.slice A m c] 34 (0, 0)) := (fr_grown hgrow).at_ (blk_alloc' _ (HGX.out.at_ HJ.out.2.2.1)) (fun e => by have := (HJ.out.2.2.2.1.lt Bk e).1; have := HG.out.2.2; omega); have k3 := (blk_cell hb3 0).trans (rfl : _ = some (Value.slice A m c)); have f3 := blk_free hb3 0; have H8 := Lib.hid (And.intro hown hgrow); clear hown hgrow hat hb3)
      obtain ⟨p1, p2⟩ := TJ.put (w0 := w0) (W0 := W0) (W := W) (Wx := wX.alloc (.cells #[.int .i64 x.2] 3)) (u := .slice A m c) (x := x) (f := (·.2)) HG.out.1 HG.out.2.1 HG.out.2.2 HX.out HPX.out HJ.out.1 HJ.out.2.1 (HGX.out.alloc _) HJ.out.2.2.1 HJ.out.2.2.2.2.2.1 H8.out.1 H8.out.2
      exact HR.out _ _ ⟨rfl, p1, p2⟩
    · rw [hh] at HC
      have hpx : goesZ s t x = false := by unfold goesZ; rw [hh]; simp
      have HPX := Lib.hid hpx
      rw [hpx] at HR
      clear hpx hh
      go_enter Tryz.func134, Tryz.ntmps134
      go_wp2_with (go_at_fn 130; refine HC.out.mono ?_; rintro e wX ⟨rfl, hgX0⟩; have hgX := HA.out.1.trans hgX0; have x1 := hgX0.cell a1; have xk := hgX.cell hkk; have HGX := Lib.hid hgX; clear hgX hgX0)
      refine HR.out _ _ ⟨rfl, ⟨_, HGX.out.at_ HJ.out.2.2.1, ?_, fr_grow HJ.out.2.1 HGX.out⟩, HGX.out.mono fun i _ h => h.elim⟩
      rw [bkJ_succ HX.out, HPX.out]
      exact owns_grow HJ.out.2.2.2.1 HGX.out
  · have hpx : goesZ s t x = false := by unfold goesZ; rw [decide_eq_false hc]; rfl
    have HPX := Lib.hid hpx
    rw [hpx] at HR
    clear hpx
    go_enter Tryz.func134, Tryz.ntmps134
    go_wp2_with fail
    refine HR.out _ _ ⟨rfl, ⟨_, HA.out.1.at_ HJ.out.2.2.1, ?_, fr_grow HJ.out.2.1 HA.out.1⟩, HA.out.1.mono fun i _ h => h.elim⟩
    rw [bkJ_succ HX.out, HPX.out]
    exact owns_grow HJ.out.2.2.2.1 HA.out.1
end Go.Proofs.YtcgcljmnnjalpaaGreat
set_option linter.unusedVariables false
set_option linter.unusedSimpArgs false
namespace Go.Proofs.YtcgcljmnnjalpaaGreat
open Go.RowKit Go.Kx
open Go.ChangeMaps (setBlock)
theorem goes_free {s : RS} (hk : s.kind = 1) (hok : Ok s) (t : Int) {x : Itm} (hx : x ∈ s.items) : (x.thr == t && freeB s x) = goesZ s t (x.thr, x.addr) := by
  unfold freeB goesZ
  rw [if_pos (.inl hk), heldR_eq hok (hok.addr x hx)]
  congr 1
theorem sweepZ {s : RS} (hk : s.kind = 1) (hok : Ok s) (t : Int) : (sweepS s fun x => x.thr == t).back = bkJ (goesZ s t) (·.2) (hzl s) (hzl s).length ∧ hzl (sweepS s fun x => x.thr == t).st = keepA (goesZ s t) (hzl s) := by
  have e1 : (s.items.filter fun x => x.thr == t && freeB s x) = s.items.filter fun x => goesZ s t (x.thr, x.addr) := List.filter_congr fun x hx => goes_free hk hok t hx
  have e2 : (s.items.filter fun x => !(x.thr == t && freeB s x)) = s.items.filter fun x => !goesZ s t (x.thr, x.addr) := List.filter_congr fun x hx => by rw [goes_free hk hok t hx]
  unfold bkJ keepA
  rw [List.take_length]
  unfold sweepS hzl
  dsimp only
  rw [e1, e2]
  constructor
  · rw [List.filter_map, List.map_map]; rfl
  · rw [List.filter_map]; rfl
set_option maxRecDepth 100000 in
set_option maxHeartbeats 8000000 in
theorem hzScan {b : Nat} {w : World} {F : FP} {s : RS} (h : HZ b w F s) (hs : s.items.length ≤ 200000) (t : Int) : Calls Tryz.prog 104 #[.pointer (some ⟨b, 0, none⟩), .int .i64 t] w (OpL (HZ b) w F (sweepS s fun x => x.thr == t)) := by
  refine cph fun R HR => ?_
  obtain ⟨H, cH, v, hv⟩ := h
  have HV := Lib.hid hv
  have hbl := blk_lt hv.blk
  have hHl : H < w.heap.size := hv.lt H ((hv.fp H).2 (.inr (.inl rfl)))
  have hGlt : ∀ k, v.ownBlock = some k → k < w.heap.size := fun k hk => (hv.row.lt k hk).2
  -- the boxes
  have hga := (Grow.refl w).alloc (Obj.cells #[.pointer (some ⟨b, 0, none⟩)] 91)
  have hna := blk_new w (Obj.cells #[.pointer (some ⟨b, 0, none⟩)] 91)
  have hsa := size_alloc w (Obj.cells #[.pointer (some ⟨b, 0, none⟩)] 91)
  obtain ⟨wa, hwa⟩ : ∃ wa, w.alloc (Obj.cells #[.pointer (some ⟨b, 0, none⟩)] 91) = wa := ⟨_, rfl⟩
  rw [hwa] at hga hna hsa
  have hgb := (Grow.refl wa).alloc (Obj.cells #[.int .i64 t] 3)
  have hnb := blk_new wa (Obj.cells #[.int .i64 t] 3)
  have hsb := size_alloc wa (Obj.cells #[.int .i64 t] 3)
  obtain ⟨wb, hwb⟩ : ∃ wb, wa.alloc (Obj.cells #[.int .i64 t] 3) = wb := ⟨_, rfl⟩
  rw [hwb] at hgb hnb hsb
  rw [hsa] at hnb hsb
  have hgc := (Grow.refl wb).alloc (Obj.cells #[.slice none 0 0] 34)
  have hnc := blk_new wb (Obj.cells #[.slice none 0 0] 34)
  have hsc := size_alloc wb (Obj.cells #[.slice none 0 0] 34)
  obtain ⟨wc, hwc⟩ : ∃ wc, wb.alloc (Obj.cells #[.slice none 0 0] 34) = wc := ⟨_, rfl⟩
  rw [hwc] at hgc hnc hsc
  rw [hsb] at hnc hsc
  have hgd := (Grow.refl wc).alloc (Obj.cells #[.nilFunc] 137)
  have hnd := blk_new wc (Obj.cells #[.nilFunc] 137)
  have hsd := size_alloc wc (Obj.cells #[.nilFunc] 137)
  obtain ⟨wd, hwd⟩ : ∃ wd, wc.alloc (Obj.cells #[.nilFunc] 137) = wd := ⟨_, rfl⟩
  rw [hwd] at hgd hnd hsd
  rw [hsc] at hnd hsd
  have kN := (blk_cell hnd 0).trans (rfl : _ = some Value.nilFunc)
  have fN := blk_free hnd 0
  obtain ⟨w2, hw2⟩ : ∃ w2, wd.setCell ⟨w.heap.size + 1 + 1 + 1, 0, none⟩ (.func (.func 130) #[] #[.pointer (some ⟨w.heap.size, 0, none⟩)]) = w2 := ⟨_, rfl⟩
  have hst : (store ⟨w.heap.size + 1 + 1 + 1, 0, none⟩ (.func (.func 130) #[] #[.pointer (some ⟨w.heap.size, 0, none⟩)])).run Tryz.prog wd = .ok () w2 := by
    rw [run_store _ _ _ _ _ rfl, ← hw2]
    simp [stored, kN, fN]
  have hf2 : Fr (· = w.heap.size + 1 + 1 + 1) wd w2 := by rw [← hw2]; exact (Fr.refl _ _).setCell _ _ (.inr rfl)
  have hb2 := blk_set hnd 0 (.func (.func 130) #[] #[.pointer (some ⟨w.heap.size, 0, none⟩)])
  rw [hw2] at hb2
  have hs2 : w2.heap.size = w.heap.size + 1 + 1 + 1 + 1 := by rw [← hsd, ← hw2]; exact size_set _ _ _
  have hgw : Grow w wd := ((hga.trans hgb).trans hgc).trans hgd
  have kB := (blk_cell (hf2.at_ (((hgb.trans hgc).trans hgd).at_ hna) (by omega)) 0).trans (rfl : _ = some (Value.pointer (some ⟨b, 0, none⟩)))
  have kT := (blk_cell (hf2.at_ ((hgc.trans hgd).at_ hnb) (by omega)) 0).trans (rfl : _ = some (Value.int .i64 t))
  have hk2 := hf2.at_ (hgd.at_ hnc) (by omega)
  have kH := (blk_cell hb2 0).trans (rfl : _ = some (Value.func (.func 130) #[] #[.pointer (some ⟨w.heap.size, 0, none⟩)]))
  have hbb := hf2.at_ (hgw.at_ hv.blk) (by omega)
  have m0 := (blk_cell hbb 0).trans (rfl : _ = some (Value.slice (some ⟨H, 0, none⟩) s.n cH))
  have m1 := (blk_cell hbb 1).trans (rfl : _ = some v)
  have hrow2 : w2.ownsRow 0 140 2 v (hzl s).length ((hzl s).flatMap enc2) := by
    rw [hzl_len]
    exact owns_fr (owns_grow hv.row hgw) hf2 (fun j hj e => by have := hGlt j hj; omega)
  have hro2 := owns_fr (owns_grow hv.hrow hgw) hf2 (fun j hj e => by rw [hv.tH hj] at e; omega)
  have hpj := hzScan2 (w0 := w2.drew) (b := b) (B := w.heap.size) (H := H) (Tb := w.heap.size + 1) (Hd := w.heap.size + 1 + 1 + 1) (Bk := w.heap.size + 1 + 1) (s := s) (t := t) (G := fun k => v.ownBlock = some k) (l := hzl s) (fun k hk => by have := hGlt k hk; show k < w2.heap.size; omega) (fun hk => by have := hGlt _ hk; omega) (by show _ < w2.heap.size; omega)
    ⟨fun hk => by have := hGlt _ hk; omega, by omega⟩ ⟨fun hk => (hv.nev b hk).1 rfl, by omega⟩ ⟨fun hk => by have := hGlt _ hk; omega, by omega⟩ ⟨fun hk => by have := hGlt _ hk; omega, by omega⟩ ⟨fun hk => (hv.nev H hk).2 rfl, by omega⟩ kB m0 kT kH (owns_grow hro2 (Fr.refl _ _).drew) hv.ok.n4 (by rw [hzl_len]; exact hs)
  have hj0 : TJ w2.drew (w.heap.size + 1 + 1) (fun k => v.ownBlock = some k) (goesZ s t) (·.2) (hzl s) 0 w2.drew := ⟨.slice none 0 0, hk2, World.ownsRow_nil _ _ _ _, Fr.refl _ _⟩
  have hdel := delete_Z (base := 0) (w := w2.drew) (v := v) (l := hzl s) (owns_grow hrow2 (Fr.refl _ _).drew) hpj hj0 (fun n W W' hj hf => TJ.fr (fun k hk => by have := hGlt k hk; show k < w2.heap.size; omega) (fun hk => by have := hGlt _ hk; omega) hj hf) eg134 (by rw [hzl_len]; exact hs)
  have HD := Lib.hid hdel
  have H3 := Lib.hid (And.intro hbb (And.intro hgw (And.intro hf2 hGlt)))
  obtain ⟨A, m, c, hvs⟩ := own_sl hv.row
  subst hvs
  clear hv hga hna hgb hnb hgc hnc hgd hnd hf2 hb2 hgw hk2 hbb hrow2 hro2 hpj hj0 hdel hGlt
  go_enter Tryz.func104, Tryz.ntmps104
  go_upto_region 3 with fail
  refine wp_region_held_drew (S := fun w' => w'.cell? ⟨w.heap.size, 0, none⟩ = some (.pointer (some ⟨b, 0, none⟩))) (by kernel_rfl) ?_ (fun hHeld => ?_)
  · exact kB
  refine wpAnyH_take (i := 0) (v := ?v0) rfl (by kernel_rfl) (by kernel_rfl) (by kernel_rfl) (fun _ _ _ h => h) (Or.inl ⟨by rfl, ?y0⟩) hHeld ?_
  case y0 => intro w hSw; (try dsimp only at hSw); go_simp; (try with_reducible rfl)
  try simp only [Act.put, List.setIfInBounds_toArray, List.set_cons_zero, List.set_cons_succ]
  refine wpAnyH_take (i := 1) (v := ?v1) rfl (by kernel_rfl) (by kernel_rfl) (by kernel_rfl) (fun _ _ _ h => h) (Or.inl ⟨by rfl, ?y1⟩) hHeld ?_
  case y1 => intro w hSw; (try dsimp only at hSw); go_simp; (try with_reducible rfl)
  try simp only [Act.put, List.setIfInBounds_toArray, List.set_cons_zero, List.set_cons_succ]
  refine wpAnyH_take (i := 2) (v := ?v2) rfl (by kernel_rfl) (by kernel_rfl) (by kernel_rfl) (fun _ _ _ h => h) (Or.inl ⟨by rfl, ?y2⟩) hHeld ?_
  case y2 => intro w hSw; (try dsimp only at hSw); go_simp; (try with_reducible rfl)
  try simp only [Act.put, List.setIfInBounds_toArray, List.set_cons_zero, List.set_cons_succ]
  refine wpAnyH_take (i := 3) (v := ?v3) rfl (by kernel_rfl) (by kernel_rfl) (by kernel_rfl) (fun _ _ _ h => h) (Or.inl ⟨by rfl, ?y3⟩) hHeld ?_
  case y3 => intro w hSw; (try dsimp only at hSw); go_simp; (try with_reducible rfl)
  try simp only [Act.put, List.setIfInBounds_toArray, List.set_cons_zero, List.set_cons_succ]
  refine wpAnyH_take (i := 5) (v := ?v5) rfl (by kernel_rfl) (by kernel_rfl) (by kernel_rfl) (fun _ _ _ h => h) (Or.inl ⟨by rfl, ?y5⟩) hHeld ?_
  case y5 => intro w hSw; (try dsimp only at hSw); go_simp; (try with_reducible rfl)
  try simp only [Act.put, List.setIfInBounds_toArray, List.set_cons_zero, List.set_cons_succ]
  refine wpAnyH_ready (rs := [4]) (by kernel_rfl) (by simp) ?_
  refine AllReadyH.cons rfl (fun K hK => ?_) AllReadyH.nil
  go_simp
  refine hK.out _ _ ?_ (fun hHeld => ?_)
  · exact kB
  clear hK K
  try simp only [Act.put, List.setIfInBounds_toArray, List.set_cons_zero, List.set_cons_succ]
  refine wpAnyH_ready (rs := [6]) (by kernel_rfl) (by simp) ?_
  refine AllReadyH.cons rfl (fun K hK => ?_) AllReadyH.nil
  go_simp
  go_at_call 133
  refine HD.out.mono ?_; rintro e W5 ⟨v5, rfl, hown, ⟨u5, t1, t2, t3⟩, hsub⟩; have hb5 : W5.heap[b]? = some (.cells #[.slice (some ⟨H, 0, none⟩) s.n cH, .slice A m c] 119 (0, 0)) := t3.at_ (a := w2.drew) H3.out.1 (fun e => e.elim (fun e => by omega) (fun e => (HV.out.nev b e).1 rfl)); have qB : W5.cell? ⟨w.heap.size, 0, none⟩ = some (.pointer (some ⟨b, 0, none⟩)) := (World.cell?_of_block (w := w2.drew) (t3.blk w.heap.size (by show _ < w2.heap.size; omega) (fun e => e.elim (fun e => by omega) (fun e => by have := H3.out.2.2.2 _ e; omega)))).trans kB; have q2 := (blk_cell hb5 1).trans (rfl : _ = some (Value.slice A m c)); have qf2 := blk_free hb5 1; obtain ⟨A5, m5, c5, hv5⟩ := own_sl hown; subst hv5; have qk := (blk_cell (w := W5.setCell ⟨b, 1, none⟩ (.slice A5 m5 c5)) ((blk_set_other (a := ⟨b, 1, none⟩) (by show w.heap.size + 1 + 1 ≠ b; omega) _).trans t1) 0).trans (rfl : _ = some u5); have H5 := Lib.hid (And.intro hown (And.intro t2 (And.intro t3 (And.intro hsub hb5)))); clear hown t1 t2 t3 hsub hb5
  try go_wp2_with fail
  refine hK.out _ _ ?_ (fun hHeld => ?_)
  · exact qB
  clear hK K
  try simp only [Act.put, List.setIfInBounds_toArray, List.set_cons_zero, List.set_cons_succ]
  refine wpAnyH_take (i := 7) (v := ?v7) rfl (by kernel_rfl) (by kernel_rfl) (by kernel_rfl) (fun _ _ _ h => h) (Or.inl ⟨by rfl, ?y7⟩) hHeld ?_
  case y7 => intro w hSw; (try dsimp only at hSw); go_simp; (try with_reducible rfl)
  try simp only [Act.put, List.setIfInBounds_toArray, List.set_cons_zero, List.set_cons_succ]
  refine wpAnyH_take (i := 8) (v := ?v8) rfl (by kernel_rfl) (by kernel_rfl) (by kernel_rfl) (fun _ _ _ h => h) (Or.inl ⟨by rfl, ?y8⟩) hHeld ?_
  case y8 => intro w hSw; (try dsimp only at hSw); go_simp; (try with_reducible rfl)
  try simp only [Act.put, List.setIfInBounds_toArray, List.set_cons_zero, List.set_cons_succ]
  refine wpAnyH_ready (rs := [9]) (by kernel_rfl) (by simp) ?_
  refine AllReadyH.cons rfl (fun K hK => ?_) AllReadyH.nil
  go_simp
  refine hK.out _ _ ?_ (fun hHeld => ?_)
  · rw [World.cell?_setCell_other _ _ _ _ (by intro e; injection e; omega)]; assumption
  clear hK K
  try simp only [Act.put, List.setIfInBounds_toArray, List.set_cons_zero, List.set_cons_succ]
  refine wpAnyH_done (by kernel_rfl) ?_ _
  go_wp2_with fail
  obtain ⟨e1, e2⟩ := sweepZ HV.out.kind HV.out.ok t
  have hfb : Fr (· = b) W5 (W5.setCell ⟨b, 1, none⟩ (.slice A5 m5 c5)) := (Fr.refl _ _).setCell _ _ (.inr rfl)
  have hfr : Fr (fun k => k = b ∨ (Value.slice A m c).ownBlock = some k) w W5 := by
    have h1 : Fr (fun k => k = b ∨ (Value.slice A m c).ownBlock = some k) w w2.drew := Fr.drew (Fr.then (H3.out.2.1.mono fun i _ h => h.elim) H3.out.2.2.1 (fun i hi (h : i = _) => by omega))
    refine h1.then H5.out.2.2.1 (fun i hi h => h.elim (fun e => by omega) .inr)
  refine HR.out _ _ ⟨u5, fun k => k = b ∨ k = H ∨ (Value.slice A5 m5 c5).ownBlock = some k, rfl, ?_, ⟨H, cH, .slice A5 m5 c5, HV.out.kind, Ok.sweep HV.out.ok _, blk_set H5.out.2.2.2.2 1 _, ?_, ?_, fun k => Iff.rfl⟩, ?_, ?_⟩
  · rw [e1]
    exact own_base_le (owns_fr H5.out.2.1 hfb (fun j hj e => by have := (H5.out.2.1.lt j hj).1; have : w2.drew.heap.size = w2.heap.size := rfl; omega)) (by show w.heap.size ≤ w2.heap.size; omega)
  · exact owns_fr (owns_fr HV.out.hrow hfr (fun j hj e => by
      rw [HV.out.tH hj] at e
      exact e.elim HV.out.neH (fun e => (HV.out.nev H e).2 rfl))) hfb (fun j hj e => by rw [HV.out.tH hj] at e; exact HV.out.neH e)
  · rw [← hzl_len, e2]
    exact owns_fr H5.out.1 hfb (fun j hj e => (HV.out.nev j (H5.out.2.2.2.1 j hj)).1 e)
  · refine ⟨(hfr.mono fun i _ h => (HV.out.fp i).2 (h.elim .inl (fun e => .inr (.inr e)))).trans (hfb.mono fun i _ e => (HV.out.fp i).2 (.inl e)), fun k hk => .inl ((HV.out.fp k).2 ?_)⟩
    rcases hk with e | e | e
    · exact .inl e
    · exact .inr (.inl e)
    · exact .inr (.inr (H5.out.2.2.2.1 k e))
  · intro k hk hf
    have h1 := (H5.out.2.1.lt k hk).1
    have h2 : w2.drew.heap.size = w2.heap.size := rfl
    rcases hf with e | e | e
    · omega
    · omega
    · have := H3.out.2.2.2 k (H5.out.2.2.2.1 k e); omega
end Go.Proofs.YtcgcljmnnjalpaaGreat
set_option linter.unusedVariables false
set_option linter.unusedSimpArgs false
namespace Go.Proofs.YtcgcljmnnjalpaaGreat
open Go.RowKit Go.Kx
open Go.ChangeMaps (setBlock)
set_option maxRecDepth 100000 in
set_option maxHeartbeats 4000000 in
theorem contains_Z {w : World} {v : Value} {base : Nat} {l : List P2} {f : Nat} {lb : Array Value} {p : P2 → Bool} {J : Nat → World → Prop} (hown : w.ownsRow base 140 2 v l.length (l.flatMap enc2)) (hp : PredJ f lb (fun k => v.ownBlock = some k) p l J) (h0 : J 0 w)
    (eg : ∀ args w, (callFunc f args).run Tryz.prog w = .ok (.enter f args) w) (hl : l.length ≤ 200000) :
    Calls Tryz.prog 102 #[v, .func (.func f) #[] lb] w fun e w' => e = .returned (.bool (l.any p)) ∧ (∃ n, J n w') ∧ w'.ownsRow base 140 2 v l.length (l.flatMap enc2) := by
  refine cph fun R HR => ?_
  have HI := Lib.hid (index_Z hown hp h0 eg hl)
  unfold IdxJ at HI
  rw [← fstA_any] at HR
  obtain ⟨A, m, c, rfl⟩ := own_sl hown
  generalize fstA p l = i at HI HR
  clear hown hp h0
  go_enter Tryz.func102, Tryz.ntmps102
  go_wp2_with (go_at_call 129; refine HI.out.mono ?_; rintro e w' ⟨rfl, hj, hrow, hsz⟩; have H7 := Lib.hid (And.intro hj hrow); clear hj hrow)
  exact HR.out _ _ ⟨rfl, ⟨_, H7.out.1⟩, H7.out.2⟩
theorem eg103 (args : Array Value) (w : World) : (callFunc 103 args).run Tryz.prog w = .ok (.enter 103 args) w := by kernel_rfl
def adrIs (a : Int) (x : P2) : Bool := x.2 == a
theorem adrIs_any (s : RS) (a : Int) : (hzl s).any (adrIs a) = waitsB s a := by
  unfold hzl waitsB
  rw [List.any_map]
  rfl
theorem hzRet1 {w0 : World} {B : Nat} {a : Int} {G : Nat → Prop} {l : List P2} (hB : ¬ G B) (h1 : w0.cell? ⟨B, 0, none⟩ = some (.int .i64 a)) : PredJ 103 #[.pointer (some ⟨B, 0, none⟩)] G (adrIs a) l (fun _ W => Fr G w0 W) := by
  intro n x W0 W hx hJ hfr
  refine cph fun R HR => ?_
  have hW : Fr G w0 W := hJ.trans hfr
  have hcB := (World.cell?_of_block (w := w0) (hW.blk _ (World.block_lt_of_cell? w0 _ h1) hB)).trans h1
  have hgA := (Grow.refl W).alloc (Obj.cells #[.int .i64 x.1, .int .i64 x.2] 140)
  have aB := hgA.cell hcB
  have HA := Lib.hid (And.intro hgA hW)
  unfold adrIs at HR
  clear hx hJ hfr hW hcB hgA h1
  go_enter Tryz.func103, Tryz.ntmps103
  go_wp2_with fail
  exact HR.out _ _ ⟨rfl, fr_grow HA.out.2 HA.out.1, HA.out.1.mono fun _ _ h => h.elim⟩
theorem infoZ : ((Tryz.prog.info? 140).map fun i => (i.zero, i.size, i.bytes)) = some (some (.agg #[.int .i64 0, .int .i64 0]), 2, 16) := by kernel_rfl
def cz (t : Int) (l : List P2) (k : Nat) : Nat := (l.take k).countP fun x => x.1 == t
theorem cz_succ {t : Int} {l : List P2} {k : Nat} {x : P2} (h : l[k]? = some x) : cz t l (k + 1) = if x.1 == t then cz t l k + 1 else cz t l k := by
  unfold cz
  rw [List.take_add_one, h, List.countP_append]
  cases hx : x.1 == t <;> simp [hx]
theorem cz_le (t : Int) (l : List P2) (k : Nat) : cz t l k ≤ k := Nat.le_trans List.countP_le_length (List.length_take_le _ _)
theorem cz_all (s : RS) (t : Int) : cz t (hzl s) (hzl s).length = cntS s t := by
  unfold cz cntS hzl
  rw [List.take_length, List.countP_map]
  rfl
set_option maxRecDepth 100000 in
set_option maxHeartbeats 4000000 in
theorem hzRetire {b : Nat} {w : World} {F : FP} {s : RS} (h : HZ b w F s) (hs : s.items.length ≤ 100000) (t a : Int) : Calls Tryz.prog 56 #[.pointer (some ⟨b, 0, none⟩), .int .i64 t, .int .i64 a] w (OpP (HZ b) w F (retS s t a)) := by
  refine cph fun R HR => ?_
  have hga := (Grow.refl w).alloc (Obj.cells #[.int .i64 a] 3)
  have hna := blk_new w (Obj.cells #[.int .i64 a] 3)
  have hsa := size_alloc w (Obj.cells #[.int .i64 a] 3)
  obtain ⟨wa, hwa⟩ : ∃ wa, w.alloc (Obj.cells #[.int .i64 a] 3) = wa := ⟨_, rfl⟩
  rw [hwa] at hga hna hsa
  have kA := (blk_cell hna 0).trans (rfl : _ = some (Value.int .i64 a))
  have hQa := (HZ.local b).fr h (G := fun _ => False) hga (fun _ _ h => h)
  have HQ := Lib.hid hQa
  have HGa := Lib.hid hga
  have HSa : Hid (Step F w F wa) := ⟨hga.mono fun _ _ h => h.elim, fun k hk => .inl hk⟩
  obtain ⟨H0, cH0, v0, hv0⟩ := h
  have hFlt := Lib.hid hv0.lt
  obtain ⟨H, cH, v, hv⟩ := hQa
  have HT := Lib.hid (hzNo hv t)
  have HV := Lib.hid hv
  clear hga hna hv0
  cases ht : okTh s t
  · rw [ht] at HT
    have e : retS s t a = ⟨s, [], 1⟩ := by simp [retS, ht]
    rw [e] at HR
    clear hv e
    go_enter Tryz.func56, Tryz.ntmps56
    go_wp2_with (go_at_call 101; refine HT.out.mono ?_; rintro e w' ⟨rfl, rfl⟩)
    exact HR.out _ _ (OpP.none HQ.out HSa.out)
  rw [ht] at HT
  by_cases ha : a < 1
  · have e : retS s t a = ⟨s, [], 1⟩ := by simp [retS]; omega
    rw [e] at HR
    clear hv e ht
    go_enter Tryz.func56, Tryz.ntmps56
    go_wp2_with (go_at_call 101; refine HT.out.mono ?_; rintro e w' ⟨rfl, rfl⟩)
    exact HR.out _ _ (OpP.none HQ.out HSa.out)
  have ha0 : 0 < a := by omega
  have hbl : b < w.heap.size := hFlt.out b ((hv.fp b).2 (.inl rfl))
  have hvl : ∀ k, v.ownBlock = some k → k < w.heap.size := fun k hk => hFlt.out k ((hv.fp k).2 (.inr (.inr hk)))
  have m1 := (blk_cell hv.blk 1).trans (rfl : _ = some v)
  have hcon := contains_Z (base := 0) (J := fun _ W => Fr (fun k => v.ownBlock = some k) wa W) (by rw [hzl_len]; exact hv.row) (hzRet1 (a := a) (l := hzl s) (fun hk => by have := hvl _ hk; omega) kA) (Fr.refl _ _) eg103 (by rw [hzl_len]; omega)
  rw [adrIs_any] at hcon
  have HC := Lib.hid hcon
  have HVL := Lib.hid hvl
  obtain ⟨A, m, cap, hvs⟩ := own_sl hv.row
  subst hvs
  clear hcon hvl
  cases hw : waitsB s a
  · rw [hw] at HC
    have hokr := Lib.hid (hv.ok.ret0 t a ha0)
    obtain ⟨i1, hi, hz0, hz1, hz2⟩ := info_parts infoZ
    have HJ := Lib.hid (And.intro hi (And.intro hz0 (And.intro hz1 hz2)))
    have HK := Lib.hid (And.intro ht (And.intro hw hv.kind))
    clear hi hz0 hz1 hz2 hv ht hw
    go_enter Tryz.func56, Tryz.ntmps56
    go_upto_region 5 with (first | (go_at_call 101; refine HT.out.mono ?_; rintro e w' ⟨rfl, rfl⟩) | (go_at_call 102; refine HC.out.mono ?_; rintro e w1 ⟨rfl, ⟨_, hfr⟩, hrow⟩; have HF1 := Lib.hid (And.intro hfr hrow); clear hfr hrow))
    have hb1 := HF1.out.1.at_ HV.out.blk (fun e => (HV.out.nev b e).1 rfl)
    have hrow := HF1.out.2
    have e1 := (blk_cell hb1 1).trans (rfl : _ = some (Value.slice A m cap))
    have f1 := blk_free hb1 1
    have kA1 := (World.cell?_of_block (w := wa) (HF1.out.1.blk _ (World.block_lt_of_cell? wa _ kA) (fun e => absurd (HVL.out w.heap.size e) (Nat.lt_irrefl _)))).trans kA
    have hgs := HF1.out.1.size
    have hbl1 := blk_lt hb1
    have hwl1 : w.heap.size < w1.heap.size := by omega
    rw [hzl_len] at hrow
    have H2 := Lib.hid (And.intro hb1 hrow)
    clear hb1 hrow
    go_region_law ((refine step_append_own rfl (.tmp 28) (.tmp 32) 117 rfl 0 140 i1 (.agg #[.int .i64 0, .int .i64 0]) 2 16 Tryz.underlying117 HJ.out.1 HJ.out.2.1 HJ.out.2.2.1 HJ.out.2.2.2 rfl (by decide) _ s.items.length ((hzl s).flatMap enc2) rfl (H2.out.2.alloc _) ⟨w1.heap.size, 0, none⟩ 1 1 [.int .i64 t, .int .i64 a] rfl rfl (cells_new w1.drew [.int .i64 t, .int .i64 a] 140) (by simp [Value.oneCell']) (by unfold maxLen; omega) (by omega) (by simp) ?_); intro v2 w3 hown hgrow _ hat; obtain ⟨g, cap3, rfl⟩ := own_some hown; have hb3 : w3.heap[b]? = some (.cells #[.slice (some ⟨H, 0, none⟩) s.n cH, .slice A m cap] 119 (0, 0)) := (fr_grown hgrow).at_ (blk_alloc' _ H2.out.1) (fun e => (HV.out.nev b e).1 rfl); have e1' := (blk_cell hb3 1).trans (rfl : _ = some (Value.slice A m cap)); have f1' := blk_free hb3 1; have H8 := Lib.hid (And.intro hb3 (And.intro hown (And.intro hgrow hat))); clear hb3 hown hgrow hat)
    all_goals
      have hnew : g = w1.heap.size + 1 ∨ (Value.slice A m cap).ownBlock = some g := by
        rcases H8.out.2.2.2 with e | e
        · exact .inr (e.symm.trans rfl)
        · left; simpa [Value.ownBlock] using e
      have hHl : H < w.heap.size := hFlt.out H ((HV.out.fp H).2 (.inr (.inl rfl)))
      have hgb : g ≠ b ∧ g ≠ H := by
        rcases hnew with e | e
        · exact ⟨by omega, by omega⟩
        · exact HV.out.nev _ e
      have hb4 := blk_set H8.out.1 1 (.slice (some ⟨g, 0, none⟩) (s.items.length + 1) cap3)
      have hgr : Fr (fun k => (Value.slice A m cap).ownBlock = some k) wa w3 := (HF1.out.1.drew.alloc _).grown H8.out.2.2.1 (fun k e => .inr e)
      have hfb : Fr (· = b) w3 (w3.setCell ⟨b, 1, none⟩ (.slice (some ⟨g, 0, none⟩) (s.items.length + 1) cap3)) := (Fr.refl (· = b) _).setCell _ _ (.inr rfl)
      have hq : HZv b H cH (.slice (some ⟨g, 0, none⟩) (s.items.length + 1) cap3) (w3.setCell ⟨b, 1, none⟩ (.slice (some ⟨g, 0, none⟩) (s.items.length + 1) cap3)) (fun k => k = b ∨ k = H ∨ (Value.slice (some ⟨g, 0, none⟩) (s.items.length + 1) cap3).ownBlock = some k) (retS0 s t a) := by
        refine ⟨HV.out.kind, hokr.out, hb4, ?_, ?_, fun k => Iff.rfl⟩
        · exact owns_fr (owns_fr HV.out.hrow hgr (fun k hk e => by rw [HV.out.tH hk] at e; exact (HV.out.nev H e).2 rfl)) hfb (fun k hk e => by rw [HV.out.tH hk] at e; exact HV.out.neH e)
        · have h1 := owns_fr H8.out.2.1 hfb (fun j hj e => by
            have : g = j := by simpa [Value.ownBlock] using hj
            exact hgb.1 (this.trans e))
          simpa [retS0, hzl, mkItm, enc2] using h1
      have HSt : Hid (Step F w (fun k => k = b ∨ k = H ∨ (Value.slice (some ⟨g, 0, none⟩) (s.items.length + 1) cap3).ownBlock = some k) (w3.setCell ⟨b, 1, none⟩ (.slice (some ⟨g, 0, none⟩) (s.items.length + 1) cap3))) :=
        HSa.out.trans ⟨(hgr.mono (fun i _ e => (HV.out.fp i).2 (.inr (.inr e)))).trans (hfb.mono (fun i _ e => (HV.out.fp i).2 (.inl e))), fun k hk => by
          rcases hk with e | e | e
          · exact .inl ((HV.out.fp k).2 (.inl e))
          · exact .inl ((HV.out.fp k).2 (.inr (.inl e)))
          · have hgk : g = k := by simpa [Value.ownBlock] using e
            subst hgk
            rcases hnew with e | e
            · exact .inr (by omega)
            · exact .inl ((HV.out.fp _).2 (.inr (.inr e)))⟩
      obtain ⟨W6, hW6⟩ : ∃ W6, w3.setCell ⟨b, 1, none⟩ (.slice (some ⟨g, 0, none⟩) (s.items.length + 1) cap3) = W6 := ⟨_, rfl⟩
      rw [hW6] at hq HSt
      have c61 := (blk_cell hq.blk 1).trans (rfl : _ = some (Value.slice (some ⟨g, 0, none⟩) (s.items.length + 1) cap3))
      have H6 := Lib.hid hq
      have hr6 := hq.row
      rw [show (retS0 s t a).items.length = s.items.length + 1 from by simp [retS0]] at hr6
      have HR6 := Lib.hid hr6
      clear hr6
      have hn4 : s.n ≤ 4 := HV.out.ok.n4
      have hlen : (hzl (retS0 s t a)).length = s.items.length + 1 := by simp [hzl, retS0]
      have HL := Lib.hid hlen
      have HCZ := Lib.hid (cz_le t (hzl (retS0 s t a)))
      clear hq hgr hfb hb4 hlen
      go_wp2_with fail
      go_loopw [8, 41] (fun n8 i wr => ∃ k : Nat, k ≤ s.items.length + 1 ∧ i = .int .i64 k ∧ n8 = .int .i64 (cz t (hzl (retS0 s t a)) k) ∧ Hid (Grow W6 wr)) (fun _ i _ => s.items.length + 1 - (intOf i).toNat)
      case atStart => exact ⟨0, by omega, rfl, rfl, Grow.refl _⟩
      case round =>
        obtain ⟨k, hk, rfl, rfl, HO⟩ := hrel
        have hcz := HCZ.out k
        by_cases hlt : k < s.items.length + 1
        · obtain ⟨x, hx⟩ : ∃ x, (hzl (retS0 s t a))[k]? = some x := ⟨(hzl (retS0 s t a))[k]'(by rw [HL.out]; exact hlt), List.getElem?_eq_getElem _⟩
          have c0 := HO.out.cell ((own_at enc2_len HR6.out hx (o := 0) (by omega)).trans (rfl : _ = some (Value.int .i64 x.1)))
          have c1 := HO.out.cell ((own_at enc2_len HR6.out hx (o := 1) (by omega)).trans (rfl : _ = some (Value.int .i64 x.2)))
          have hki : (k : Int) < (s.items.length : Int) + 1 := by omega
          rw [Nat.add_zero] at c0
          have hcs := cz_succ (t := t) hx
          clear hx
          cases hxt : x.1 == t
          · rw [hxt] at hcs
            have HX := Lib.hid hcs
            clear hcs
            generalize cz t (hzl (retS0 s t a)) k = n at hcz HX
            go_wp2_with fail
            go_roundw
            case rel => exact ⟨k + 1, by omega, by go_num, by rw [HX.out]; rfl, HO.out.alloc _⟩
            case measure => simp [intOf] <;> omega
          · rw [hxt] at hcs
            have HX := Lib.hid hcs
            clear hcs
            generalize cz t (hzl (retS0 s t a)) k = n at hcz HX
            go_wp2_with fail
            go_roundw
            case rel => exact ⟨k + 1, by omega, by go_num, by rw [HX.out]; simp, HO.out.alloc _⟩
            case measure => simp [intOf] <;> omega
        · obtain rfl : k = s.items.length + 1 := by omega
          have hki : ¬ (((s.items.length + 1 : Nat) : Int) < (s.items.length : Int) + 1) := by omega
          have hce : cz t (hzl (retS0 s t a)) (s.items.length + 1) = cntS (retS0 s t a) t := by rw [← HL.out, cz_all]
          rw [hce] at hcz ⊢
          have c0 := HO.out.cell ((blk_cell H6.out.blk 0).trans (rfl : _ = some (Value.slice (some ⟨H, 0, none⟩) s.n cH)))
          have hq := (HZ.local b).fr ⟨H, cH, _, H6.out⟩ (G := fun _ => False) HO.out (fun _ _ h => h)
          have HQ9 := Lib.hid hq
          have HS9 := Lib.hid (hzScan hq (by simp [retS0]; omega) t)
          have HSt9 := Lib.hid (HSt.out.trans (⟨HO.out.mono fun _ _ h => h.elim, fun k hk => .inl hk⟩ : Step _ W6 (fun k => k = b ∨ k = H ∨ (Value.slice (some ⟨g, 0, none⟩) (s.items.length + 1) cap3).ownBlock = some k) wr))
          have hre : retS s t a = if 3 * s.n < cntS (retS0 s t a) t then sweepS (retS0 s t a) (fun x => x.thr == t) else ⟨retS0 s t a, [], 0⟩ := by
            unfold retS
            rw [HK.out.1, HK.out.2.1, if_pos HK.out.2.2]
            simp [ha0]
          rw [hre] at HR
          clear hre hce hq
          generalize cntS (retS0 s t a) t = cN at hcz HR
          by_cases hle : 3 * s.n < cN
          · have hle2 : ¬ ((cN : Int) ≤ 3 * (s.n : Int)) := by omega
            rw [if_pos hle] at HR
            clear hle
            go_wp2_with (go_at_call 104; refine HS9.out.mono ?_; intro e w9 ho; obtain ⟨v9, rfl, hp9⟩ := ho.toP2 HSt9.out; have H9 := Lib.hid hp9; clear hp9 ho)
            exact HR.out _ _ H9.out
          · have hle2 : (cN : Int) ≤ 3 * (s.n : Int) := by omega
            rw [if_neg hle] at HR
            clear hle
            go_wp2_with fail
            exact HR.out _ _ (OpP.none HQ9.out HSt9.out)
  · rw [hw] at HC
    have e : retS s t a = ⟨s, [], 6⟩ := by simp [retS, ht, ha0, hw]
    rw [e] at HR
    clear hv e ht hw
    go_enter Tryz.func56, Tryz.ntmps56
    go_wp2_with (first | (go_at_call 101; refine HT.out.mono ?_; rintro e w' ⟨rfl, rfl⟩) | (go_at_call 102; refine HC.out.mono ?_; rintro e w1 ⟨rfl, ⟨_, hfr⟩, hrow⟩; have HF1 := Lib.hid (And.intro hfr hrow); clear hfr hrow))
    refine HR.out _ _ (OpP.none ⟨H, cH, .slice A m cap, HV.out.kind, HV.out.ok, HF1.out.1.at_ HV.out.blk (fun e => (HV.out.nev b e).1 rfl), owns_fr HV.out.hrow HF1.out.1 (fun k hk e => by rw [HV.out.tH hk] at e; exact (HV.out.nev H e).2 rfl), ?_, HV.out.fp⟩ (HSa.out.trans ⟨HF1.out.1.mono fun i _ e => (HV.out.fp i).2 (.inr (.inr e)), fun k hk => .inl hk⟩))
    have := HF1.out.2
    rwa [hzl_len] at this
end Go.Proofs.YtcgcljmnnjalpaaGreat
set_option linter.unusedVariables false
set_option linter.unusedSimpArgs false
namespace Go.Proofs.YtcgcljmnnjalpaaGreat
open Go.RowKit Go.Kx
open Go.ChangeMaps (setBlock)
theorem ints_nil {w : World} {A : Option Addr} {l : List Int} (h : IntsAt w A l) (e : A = none) : l.length = 0 := by
  rcases h with rfl | ⟨b, off, h1, _⟩
  · rfl
  · rw [e] at h1; cases h1
theorem seqS_snoc (f : RS → RO) : ∀ (l : List (RS → RO)) (s : RS), seqS s (l ++ [f]) = ⟨(f (seqS s l).st).st, (seqS s l).back ++ (f (seqS s l).st).back, 0⟩
  | [], s => by simp [seqS]
  | g :: l, s => by
    have := seqS_snoc f l (g s).st
    simp only [List.cons_append, seqS, this, List.append_assoc]
/-- The first k lists scanned. -/
def scanK (s : RS) (k : Nat) : RO := seqS s ((List.range k).map fun (t : Nat) (s : RS) => sweepS s (fun x => x.thr == (t : Int)))
theorem scanK_succ (s : RS) (k : Nat) : scanK s (k + 1) = ⟨(sweepS (scanK s k).st (fun x => x.thr == (k : Int))).st, (scanK s k).back ++ (sweepS (scanK s k).st (fun x => x.thr == (k : Int))).back, 0⟩ := by
  unfold scanK
  rw [List.range_succ, List.map_append]
  exact seqS_snoc _ _ _
theorem scanK_len (s : RS) (k : Nat) : (scanK s k).back.length + (scanK s k).st.items.length = s.items.length := by
  induction k with
  | zero => simp [scanK, seqS]
  | succ k ih =>
    rw [scanK_succ]
    have := sweep_len (scanK s k).st (fun x => x.thr == (k : Int))
    simp only [List.length_append]
    omega
theorem restZ {s : RS} (h : s.kind = 1) : restS s = scanK s s.n := by
  unfold restS scanK
  rw [if_pos h]
theorem scanK_err (s : RS) (k : Nat) : (scanK s k).err = 0 := by
  cases k with
  | zero => rfl
  | succ k => rw [scanK_succ]
set_option maxRecDepth 100000 in
set_option maxHeartbeats 4000000 in
theorem hzRest {b : Nat} {w : World} {F : FP} {s : RS} (h : HZ b w F s) (hs : s.items.length ≤ 100000) : Calls Tryz.prog 57 #[.pointer (some ⟨b, 0, none⟩)] w (OpL (HZ b) w F (restS s)) := by
  refine cph fun R HR => ?_
  have hQ : HZ b w F s := h
  have HQ := Lib.hid hQ
  obtain ⟨H, cH, v, hv⟩ := h
  rw [restZ hv.kind] at HR
  have e0 := (blk_cell hv.blk 0).trans (rfl : _ = some (Value.slice (some ⟨H, 0, none⟩) s.n cH))
  have hn4 : s.n ≤ 4 := hv.ok.n4
  have HLN := Lib.hid (scanK_len s)
  obtain ⟨i0, hi, hz0, hz1, hz2⟩ := info_parts info3x
  have HI := Lib.hid (And.intro hi (And.intro hz0 (And.intro hz1 hz2)))
  clear hv hQ hi hz0 hz1 hz2
  go_enter Tryz.func57, Tryz.ntmps57
  go_wp2_with fail
  go_loopw [3, 12] (fun u i wr => ∃ k : Nat, k ≤ s.n ∧ i = .int .i64 k ∧ Hid (wr.ownsRow w.heap.size 3 1 u (scanK s k).back.length ((scanK s k).back.map (Value.int .i64)) ∧ ∃ Fk, HZ b wr Fk (scanK s k).st ∧ Step F w Fk wr ∧ ∀ j, u.ownBlock = some j → ¬ Fk j)) (fun _ i _ => s.n - (intOf i).toNat)
  case atStart => exact ⟨0, by omega, rfl, World.ownsRow_nil _ _ _ _, F, HQ.out, Step.refl _ _, fun j hj => by simp [Value.ownBlock] at hj⟩
  case round =>
    obtain ⟨k, hk, rfl, HO⟩ := hrel
    by_cases hlt : k < s.n
    · have hki : (k : Int) < (s.n : Int) := by omega
      obtain ⟨ho, Fk, hz, hst, hd⟩ := HO.out
      have hl := HLN.out k
      have hl2 := HLN.out (k + 1)
      have hS := Lib.hid (hzScan hz (by omega) (k : Int))
      have hsk := scanK_succ s k
      rw [hsk] at hl2
      simp only [List.length_append] at hl2
      have HK := Lib.hid hsk
      have H1 := Lib.hid (And.intro ho (And.intro hst hd))
      have hgs := hst.fr.size
      clear ho hz hst hd hsk
      generalize hr : sweepS (scanK s k).st (fun x => x.thr == (k : Int)) = r at hS HK hl2
      clear hr
      go_wp2_with (first | (go_at_call 104; refine hS.out.mono ?_; rintro e w2 ⟨v2, F2, rfl, o2, a2, st2, n2⟩; have k1 := own_keep H1.out.1 H1.out.2.2 st2; obtain ⟨A2, c2, hv2, i2, z2, _⟩ := ints_of_own o2; subst hv2; have hsz2 := st2.fr.size; have H2 := Lib.hid (And.intro k1.1 (And.intro k1.2 (And.intro (ints_news i2) (And.intro a2 (H1.out.2.1.trans st2))))); have HZn : Hid (A2 = none → r.back.length = 0 ∧ c2 = 0) := fun e => ⟨ints_nil i2 e, z2 e⟩; clear k1 o2 i2 z2 a2 st2 n2) | (at_builtin; refine wpList_append_any _ rfl (.tmp 15) (.tmp 18) 34 rfl w.heap.size 3 i0 (.int .i64 0) 1 8 Tryz.underlying34 HI.out.1 HI.out.2.1 HI.out.2.2.1 HI.out.2.2.2 rfl (by decide) u3 (scanK s k).back.length ((scanK s k).back.map (Value.int .i64)) rfl H2.out.1 A2 r.back.length c2 (r.back.map (Value.int .i64)) rfl (by simp) HZn.out H2.out.2.2.1 (by intro u hu; obtain ⟨x, _, rfl⟩ := List.mem_map.1 hu; rfl) (by unfold maxLen; omega) (by omega) (by omega) ?_))
      intro v' w3 hown hgrow _ hat
      have H7 : Hid (w3.ownsRow w.heap.size 3 1 v' (scanK s (k + 1)).back.length ((scanK s (k + 1)).back.map (Value.int .i64)) ∧ ∃ Fk, HZ b w3 Fk (scanK s (k + 1)).st ∧ Step F w Fk w3 ∧ ∀ j, v'.ownBlock = some j → ¬ Fk j) := by
        rw [HK.out]
        refine ⟨by simpa using hown, F2, (HZ.local b).fr H2.out.2.2.2.1 (G := fun j => u3.ownBlock = some j) (fr_grown hgrow) (fun j hf e => H2.out.2.1 j e hf), ⟨Fr.grown H2.out.2.2.2.2.fr hgrow (fun j hj => .inl (H2.out.1.lt j hj).1), H2.out.2.2.2.2.sub⟩, fun j hj hf => ?_⟩
        rcases hat with e | e
        · exact H2.out.2.1 j (e ▸ hj) hf
        · rw [e] at hj
          have := (HZ.local b).lt H2.out.2.2.2.1 j hf
          simp at hj
          omega
      clear hown hgrow hat
      go_wp2_with fail
      go_roundw
      case rel => exact ⟨k + 1, by omega, by go_num, H7.out⟩
      case measure => simp [intOf] <;> omega
    · obtain rfl : k = s.n := by omega
      have hki : ¬ (s.n : Int) < (s.n : Int) := by omega
      go_wp2_with fail
      obtain ⟨ho, Fk, hz, hst, hd⟩ := HO.out
      exact HR.out _ _ ⟨_, Fk, rfl, ho, hz, hst, hd⟩
end Go.Proofs.YtcgcljmnnjalpaaGreat
set_option linter.unusedVariables false
set_option linter.unusedSimpArgs false
namespace Go.Proofs.YtcgcljmnnjalpaaGreat
open Go.RowKit Go.Kx
open Go.ChangeMaps (setBlock)
theorem mul64 (w : World) {n : Nat} (h1 : 1 ≤ n) (h4 : n ≤ 4) : Calls Tryz.prog 145 #[.int .u64 1, .int .u64 n] w fun e w' => e = .returned (.tuple #[.int .u64 0, .int .u64 n]) ∧ w = w' := by
  refine cph fun R HR => ?_
  obtain rfl | rfl | rfl | rfl : n = 1 ∨ n = 2 ∨ n = 3 ∨ n = 4 := by omega
  all_goals
    go_enter Tryz.func145, Tryz.ntmps145
    go_wp2_with fail
    exact HR.out _ _ ⟨by first | rfl | decide, rfl⟩
theorem mulU (w : World) {n : Nat} (h1 : 1 ≤ n) (h4 : n ≤ 4) : Calls Tryz.prog 128 #[.int .u64 1, .int .u64 n] w fun e w' => e = .returned (.tuple #[.int .u64 0, .int .u64 n]) ∧ w = w' := by
  refine cph fun R HR => ?_
  have HM := Lib.hid (mul64 w h1 h4)
  go_enter Tryz.func128, Tryz.ntmps128
  go_wp2_with (go_at_call 145; refine HM.out.mono ?_; rintro e w' ⟨rfl, rfl⟩)
  exact HR.out _ _ ⟨rfl, rfl⟩
def negs (k n : Nat) : List Value := List.replicate k (.int .i64 (-1)) ++ List.replicate (n - k) (.int .i64 0)
theorem mk34 (n : Nat) (h1 : 1 ≤ n) (h4 : n ≤ 4) (w : World) : (Instr.makeSlice 34 (.int .i64 n) (.int .i64 n)).run Tryz.prog w = .ok (.slice (some ⟨w.heap.size, 0, none⟩) n n) (w.alloc (.cells (negs 0 n).toArray 3)) := by
  obtain rfl | rfl | rfl | rfl : n = 1 ∨ n = 2 ∨ n = 3 ∨ n = 4 := by omega
  all_goals kernel_rfl
theorem size1 : (Tryz.prog.info? 3).map (·.size) = some 1 := by kernel_rfl
theorem below_grow {w w' : World} (h : RowKit.Below w.heap.size w w') : Grow w w' := ⟨h.os, h.tape, h.output, h.size, fun i hi _ => h.block i hi⟩
theorem one_src {w : World} {b o : Nat} {v : Value} (h : w.cell? ⟨b, o, none⟩ = some v) : ∀ j u, [v][j]? = some u → w.cell? ((⟨b, o, none⟩ : Addr).add j) = some u := fun j u hj => by
  match j, hj with
  | 0, hj => cases hj; exact h
  | j + 1, hj => simp at hj
theorem negs_src {w : World} {g k n m : Nat} (hk : m ≤ k) (hb : w.heap[g]? = some (.cells (negs k n).toArray 3 (0, 0))) : ∀ j u, (List.replicate m (Value.int .i64 (-1)))[j]? = some u → w.cell? ((⟨g, 0, none⟩ : Addr).add j) = some u := fun j u hj => by
  rw [Addr.add_lit, blk_cell hb]
  have hm : j < m := by
    have := (List.getElem?_eq_some_iff.1 hj).1
    simpa using this
  rw [List.getElem?_replicate, if_pos hm] at hj
  rw [List.getElem?_toArray, Nat.zero_add]
  unfold negs
  rw [List.getElem?_append_left (by simp; omega), List.getElem?_replicate, if_pos (by omega)]
  exact hj
theorem negs_splice {k m N : Nat} (h : k + m ≤ N) (h4 : N ≤ 4) : ((negs k N).toArray.toList.take k ++ List.replicate m (Value.int .i64 (-1)) ++ (negs k N).toArray.toList.drop (k + (List.replicate m (Value.int .i64 (-1))).length)) = negs (k + m) N := by
  unfold negs
  simp [List.take_append, List.drop_append, List.drop_replicate, List.take_replicate]
  omega
theorem copy_step {w0 W : World} {g k N m : Nat} {ad : Addr} {dLen dCap sLen sCap : Nat} (hW : Grow w0 W) (hg0 : w0.heap.size ≤ g) (hb : W.heap[g]? = some (.cells (negs k N).toArray 3 (0, 0))) (hm : m = Nat.min sLen dLen) (hkm : k + m ≤ N) (h4 : N ≤ 4) (hsrc : ∀ j u, (List.replicate m (Value.int .i64 (-1)))[j]? = some u → W.cell? (ad.add j) = some u) :
    ∃ W', (Builtin.copy_ #[34, 34] 3 #[.slice (some ⟨g, k, none⟩) dLen dCap, .slice (some ad) sLen sCap]).run Tryz.prog W = .ok (.int .i64 m) W' ∧ W'.heap[g]? = some (.cells (negs (k + m) N).toArray 3 (0, 0)) ∧ Grow w0 W' := by
  have hr := run_copy_row (P := Tryz.prog) W 34 34 3 3 g k dLen dCap ad sLen sCap (negs k N).toArray 3 (List.replicate m (.int .i64 (-1))) Tryz.underlying34 size1 hb (by simpa using hm) hsrc (by unfold negs; simp; omega) (by intro v hv; rw [List.eq_of_mem_replicate hv]; rfl)
  rw [negs_splice hkm h4, List.length_replicate] at hr
  refine ⟨_, hr, ?_, ?_⟩
  · simpa using setRow_heap W g _ (negs (k + m) N).toArray 3 _ hb
  · have hbl : RowKit.Below w0.heap.size W (W.setRow g (negs (k + m) N).toArray) := below_setRow (RowKit.Below.refl _ _) hg0 _
    exact ⟨hbl.os.trans hW.os, hbl.tape.trans hW.tape, hbl.output.trans hW.output, Nat.le_trans hW.size hbl.size, fun i hi hn => (hbl.block i hi).trans (hW.blk i hi hn)⟩
set_option maxRecDepth 100000 in
set_option maxHeartbeats 4000000 in
theorem repeat_1 (w : World) {b : Nat} (hb : w.cell? ⟨b, 0, none⟩ = some (.int .i64 (-1))) : Calls Tryz.prog 100 #[.slice (some ⟨b, 0, none⟩) 1 1, .int .i64 1] w fun e w' => e = .returned (.slice (some ⟨w.heap.size, 0, none⟩) 1 1) ∧ w'.heap[w.heap.size]? = some (.cells (negs 1 1).toArray 3 (0, 0)) ∧ Grow w w' := by
  refine cph fun R HR => ?_
  have HM : Hid (Calls Tryz.prog 128 #[.int .u64 1, .int .u64 1] w fun e w' => e = .returned (.tuple #[.int .u64 0, .int .u64 1]) ∧ w = w') := mulU w (n := 1) (by decide) (by decide)
  have hmk : (Instr.makeSlice 34 (.int .i64 1) (.int .i64 1)).run Tryz.prog w = .ok (.slice (some ⟨w.heap.size, 0, none⟩) 1 1) (w.alloc (.cells (negs 0 1).toArray 3)) := mk34 1 (by decide) (by decide) w
  have hn1 := blk_new w (Obj.cells (negs 0 1).toArray 3)
  have hg1 := (Grow.refl w).alloc (Obj.cells (negs 0 1).toArray 3)
  obtain ⟨w1, hw1⟩ : ∃ w1, w.alloc (Obj.cells (negs 0 1).toArray 3) = w1 := ⟨_, rfl⟩
  rw [hw1] at hmk hn1 hg1
  have hb1 := hg1.cell hb
  obtain ⟨w2, hr, hb2, hg2⟩ := copy_step (dLen := 1) (dCap := 1) (sLen := 1) (sCap := 1) (ad := ⟨b, 0, none⟩) (m := 1) hg1 (Nat.le_refl _) hn1 (by decide) (by decide) (by decide) (one_src hb1)
  have H2 := Lib.hid (And.intro hb2 hg2)
  clear hn1 hg1 hb hb2 hg2 hw1 hb1
  go_enter Tryz.func100, Tryz.ntmps100
  go_wp2_with (go_at_call 128; refine HM.out.mono ?_; rintro e w' ⟨rfl, rfl⟩)
  go_loopw [8] (fun i wr => ∃ k : Nat, 1 ≤ k ∧ k ≤ 1 ∧ i = .int .i64 k ∧ Hid (wr.heap[w.heap.size]? = some (.cells (negs k 1).toArray 3 (0, 0)) ∧ Grow w wr)) (fun i _ => 5 - (intOf i).toNat)
  case atStart => exact ⟨1, by decide, by decide, rfl, H2.out⟩
  case round =>
    obtain ⟨k, hk1, hk2, rfl, HO⟩ := hrel
    have hks : k = 1 := by omega
    rcases hks with rfl
    · go_wp2_with fail
      exact HR.out _ _ ⟨rfl, HO.out.1, HO.out.2⟩
set_option maxRecDepth 100000 in
set_option maxHeartbeats 4000000 in
theorem repeat_2 (w : World) {b : Nat} (hb : w.cell? ⟨b, 0, none⟩ = some (.int .i64 (-1))) : Calls Tryz.prog 100 #[.slice (some ⟨b, 0, none⟩) 1 1, .int .i64 2] w fun e w' => e = .returned (.slice (some ⟨w.heap.size, 0, none⟩) 2 2) ∧ w'.heap[w.heap.size]? = some (.cells (negs 2 2).toArray 3 (0, 0)) ∧ Grow w w' := by
  refine cph fun R HR => ?_
  have HM : Hid (Calls Tryz.prog 128 #[.int .u64 1, .int .u64 2] w fun e w' => e = .returned (.tuple #[.int .u64 0, .int .u64 2]) ∧ w = w') := mulU w (n := 2) (by decide) (by decide)
  have hmk : (Instr.makeSlice 34 (.int .i64 2) (.int .i64 2)).run Tryz.prog w = .ok (.slice (some ⟨w.heap.size, 0, none⟩) 2 2) (w.alloc (.cells (negs 0 2).toArray 3)) := mk34 2 (by decide) (by decide) w
  have hn1 := blk_new w (Obj.cells (negs 0 2).toArray 3)
  have hg1 := (Grow.refl w).alloc (Obj.cells (negs 0 2).toArray 3)
  obtain ⟨w1, hw1⟩ : ∃ w1, w.alloc (Obj.cells (negs 0 2).toArray 3) = w1 := ⟨_, rfl⟩
  rw [hw1] at hmk hn1 hg1
  have hb1 := hg1.cell hb
  obtain ⟨w2, hr, hb2, hg2⟩ := copy_step (dLen := 2) (dCap := 2) (sLen := 1) (sCap := 1) (ad := ⟨b, 0, none⟩) (m := 1) hg1 (Nat.le_refl _) hn1 (by decide) (by decide) (by decide) (one_src hb1)
  have H2 := Lib.hid (And.intro hb2 hg2)
  clear hn1 hg1 hb hb2 hg2 hw1 hb1
  go_enter Tryz.func100, Tryz.ntmps100
  go_wp2_with (go_at_call 128; refine HM.out.mono ?_; rintro e w' ⟨rfl, rfl⟩)
  go_loopw [8] (fun i wr => ∃ k : Nat, 1 ≤ k ∧ k ≤ 2 ∧ i = .int .i64 k ∧ Hid (wr.heap[w.heap.size]? = some (.cells (negs k 2).toArray 3 (0, 0)) ∧ Grow w wr)) (fun i _ => 5 - (intOf i).toNat)
  case atStart => exact ⟨1, by decide, by decide, rfl, H2.out⟩
  case round =>
    obtain ⟨k, hk1, hk2, rfl, HO⟩ := hrel
    have hks : k = 1 ∨ k = 2 := by omega
    rcases hks with rfl | rfl
    · obtain ⟨W', hr, hb', hg'⟩ := copy_step (dLen := 1) (dCap := 1) (sLen := 1) (sCap := 2) (W := wr.drew) (m := 1) HO.out.2.drew (Nat.le_refl _) HO.out.1 (by decide) (by decide) (by decide) (negs_src (k := 1) (by decide) HO.out.1)
      have H8 := Lib.hid (And.intro hb' hg')
      clear hb' hg'
      go_upto_region 9 with fail
      go_region_law fail
      all_goals
        simp only [Act.put, List.getElem_toArray, List.getElem_cons_zero, List.getElem_cons_succ, List.setIfInBounds_toArray, List.set_cons_zero, List.set_cons_succ]
        go_wp2_with fail
        go_roundw
        case rel => exact ⟨2, by decide, by decide, rfl, H8.out⟩
        case measure => (simp [intOf]; decide)
    · go_wp2_with fail
      exact HR.out _ _ ⟨rfl, HO.out.1, HO.out.2⟩
set_option maxRecDepth 100000 in
set_option maxHeartbeats 4000000 in
theorem repeat_3 (w : World) {b : Nat} (hb : w.cell? ⟨b, 0, none⟩ = some (.int .i64 (-1))) : Calls Tryz.prog 100 #[.slice (some ⟨b, 0, none⟩) 1 1, .int .i64 3] w fun e w' => e = .returned (.slice (some ⟨w.heap.size, 0, none⟩) 3 3) ∧ w'.heap[w.heap.size]? = some (.cells (negs 3 3).toArray 3 (0, 0)) ∧ Grow w w' := by
  refine cph fun R HR => ?_
  have HM : Hid (Calls Tryz.prog 128 #[.int .u64 1, .int .u64 3] w fun e w' => e = .returned (.tuple #[.int .u64 0, .int .u64 3]) ∧ w = w') := mulU w (n := 3) (by decide) (by decide)
  have hmk : (Instr.makeSlice 34 (.int .i64 3) (.int .i64 3)).run Tryz.prog w = .ok (.slice (some ⟨w.heap.size, 0, none⟩) 3 3) (w.alloc (.cells (negs 0 3).toArray 3)) := mk34 3 (by decide) (by decide) w
  have hn1 := blk_new w (Obj.cells (negs 0 3).toArray 3)
  have hg1 := (Grow.refl w).alloc (Obj.cells (negs 0 3).toArray 3)
  obtain ⟨w1, hw1⟩ : ∃ w1, w.alloc (Obj.cells (negs 0 3).toArray 3) = w1 := ⟨_, rfl⟩
  rw [hw1] at hmk hn1 hg1
  have hb1 := hg1.cell hb
  obtain ⟨w2, hr, hb2, hg2⟩ := copy_step (dLen := 3) (dCap := 3) (sLen := 1) (sCap := 1) (ad := ⟨b, 0, none⟩) (m := 1) hg1 (Nat.le_refl _) hn1 (by decide) (by decide) (by decide) (one_src hb1)
  have H2 := Lib.hid (And.intro hb2 hg2)
  clear hn1 hg1 hb hb2 hg2 hw1 hb1
  go_enter Tryz.func100, Tryz.ntmps100
  go_wp2_with (go_at_call 128; refine HM.out.mono ?_; rintro e w' ⟨rfl, rfl⟩)
  go_loopw [8] (fun i wr => ∃ k : Nat, 1 ≤ k ∧ k ≤ 3 ∧ i = .int .i64 k ∧ Hid (wr.heap[w.heap.size]? = some (.cells (negs k 3).toArray 3 (0, 0)) ∧ Grow w wr)) (fun i _ => 5 - (intOf i).toNat)
  case atStart => exact ⟨1, by decide, by decide, rfl, H2.out⟩
  case round =>
    obtain ⟨k, hk1, hk2, rfl, HO⟩ := hrel
    have hks : k = 1 ∨ k = 2 ∨ k = 3 := by omega
    rcases hks with rfl | rfl | rfl
    · obtain ⟨W', hr, hb', hg'⟩ := copy_step (dLen := 2) (dCap := 2) (sLen := 1) (sCap := 3) (W := wr.drew) (m := 1) HO.out.2.drew (Nat.le_refl _) HO.out.1 (by decide) (by decide) (by decide) (negs_src (k := 1) (by decide) HO.out.1)
      have H8 := Lib.hid (And.intro hb' hg')
      clear hb' hg'
      go_upto_region 9 with fail
      go_region_law fail
      all_goals
        simp only [Act.put, List.getElem_toArray, List.getElem_cons_zero, List.getElem_cons_succ, List.setIfInBounds_toArray, List.set_cons_zero, List.set_cons_succ]
        go_wp2_with fail
        go_roundw
        case rel => exact ⟨2, by decide, by decide, rfl, H8.out⟩
        case measure => (simp [intOf]; decide)
    · obtain ⟨W', hr, hb', hg'⟩ := copy_step (dLen := 1) (dCap := 1) (sLen := 2) (sCap := 3) (W := wr.drew) (m := 1) HO.out.2.drew (Nat.le_refl _) HO.out.1 (by decide) (by decide) (by decide) (negs_src (k := 2) (by decide) HO.out.1)
      have H8 := Lib.hid (And.intro hb' hg')
      clear hb' hg'
      go_upto_region 9 with fail
      go_region_law fail
      all_goals
        simp only [Act.put, List.getElem_toArray, List.getElem_cons_zero, List.getElem_cons_succ, List.setIfInBounds_toArray, List.set_cons_zero, List.set_cons_succ]
        go_wp2_with fail
        go_roundw
        case rel => exact ⟨3, by decide, by decide, rfl, H8.out⟩
        case measure => (simp [intOf]; decide)
    · go_wp2_with fail
      exact HR.out _ _ ⟨rfl, HO.out.1, HO.out.2⟩
set_option maxRecDepth 100000 in
set_option maxHeartbeats 4000000 in
theorem repeat_4 (w : World) {b : Nat} (hb : w.cell? ⟨b, 0, none⟩ = some (.int .i64 (-1))) : Calls Tryz.prog 100 #[.slice (some ⟨b, 0, none⟩) 1 1, .int .i64 4] w fun e w' => e = .returned (.slice (some ⟨w.heap.size, 0, none⟩) 4 4) ∧ w'.heap[w.heap.size]? = some (.cells (negs 4 4).toArray 3 (0, 0)) ∧ Grow w w' := by
  refine cph fun R HR => ?_
  have HM : Hid (Calls Tryz.prog 128 #[.int .u64 1, .int .u64 4] w fun e w' => e = .returned (.tuple #[.int .u64 0, .int .u64 4]) ∧ w = w') := mulU w (n := 4) (by decide) (by decide)
  have hmk : (Instr.makeSlice 34 (.int .i64 4) (.int .i64 4)).run Tryz.prog w = .ok (.slice (some ⟨w.heap.size, 0, none⟩) 4 4) (w.alloc (.cells (negs 0 4).toArray 3)) := mk34 4 (by decide) (by decide) w
  have hn1 := blk_new w (Obj.cells (negs 0 4).toArray 3)
  have hg1 := (Grow.refl w).alloc (Obj.cells (negs 0 4).toArray 3)
  obtain ⟨w1, hw1⟩ : ∃ w1, w.alloc (Obj.cells (negs 0 4).toArray 3) = w1 := ⟨_, rfl⟩
  rw [hw1] at hmk hn1 hg1
  have hb1 := hg1.cell hb
  obtain ⟨w2, hr, hb2, hg2⟩ := copy_step (dLen := 4) (dCap := 4) (sLen := 1) (sCap := 1) (ad := ⟨b, 0, none⟩) (m := 1) hg1 (Nat.le_refl _) hn1 (by decide) (by decide) (by decide) (one_src hb1)
  have H2 := Lib.hid (And.intro hb2 hg2)
  clear hn1 hg1 hb hb2 hg2 hw1 hb1
  go_enter Tryz.func100, Tryz.ntmps100
  go_wp2_with (go_at_call 128; refine HM.out.mono ?_; rintro e w' ⟨rfl, rfl⟩)
  go_loopw [8] (fun i wr => ∃ k : Nat, 1 ≤ k ∧ k ≤ 4 ∧ i = .int .i64 k ∧ Hid (wr.heap[w.heap.size]? = some (.cells (negs k 4).toArray 3 (0, 0)) ∧ Grow w wr)) (fun i _ => 5 - (intOf i).toNat)
  case atStart => exact ⟨1, by decide, by decide, rfl, H2.out⟩
  case round =>
    obtain ⟨k, hk1, hk2, rfl, HO⟩ := hrel
    have hks : k = 1 ∨ k = 2 ∨ k = 3 ∨ k = 4 := by omega
    rcases hks with rfl | rfl | rfl | rfl
    · obtain ⟨W', hr, hb', hg'⟩ := copy_step (dLen := 3) (dCap := 3) (sLen := 1) (sCap := 4) (W := wr.drew) (m := 1) HO.out.2.drew (Nat.le_refl _) HO.out.1 (by decide) (by decide) (by decide) (negs_src (k := 1) (by decide) HO.out.1)
      have H8 := Lib.hid (And.intro hb' hg')
      clear hb' hg'
      go_upto_region 9 with fail
      go_region_law fail
      all_goals
        simp only [Act.put, List.getElem_toArray, List.getElem_cons_zero, List.getElem_cons_succ, List.setIfInBounds_toArray, List.set_cons_zero, List.set_cons_succ]
        go_wp2_with fail
        go_roundw
        case rel => exact ⟨2, by decide, by decide, rfl, H8.out⟩
        case measure => (simp [intOf]; decide)
    · obtain ⟨W', hr, hb', hg'⟩ := copy_step (dLen := 2) (dCap := 2) (sLen := 2) (sCap := 4) (W := wr.drew) (m := 2) HO.out.2.drew (Nat.le_refl _) HO.out.1 (by decide) (by decide) (by decide) (negs_src (k := 2) (by decide) HO.out.1)
      have H8 := Lib.hid (And.intro hb' hg')
      clear hb' hg'
      go_upto_region 9 with fail
      go_region_law fail
      all_goals
        simp only [Act.put, List.getElem_toArray, List.getElem_cons_zero, List.getElem_cons_succ, List.setIfInBounds_toArray, List.set_cons_zero, List.set_cons_succ]
        go_wp2_with fail
        go_roundw
        case rel => exact ⟨4, by decide, by decide, rfl, H8.out⟩
        case measure => (simp [intOf]; decide)
    · obtain ⟨W', hr, hb', hg'⟩ := copy_step (dLen := 1) (dCap := 1) (sLen := 3) (sCap := 4) (W := wr.drew) (m := 1) HO.out.2.drew (Nat.le_refl _) HO.out.1 (by decide) (by decide) (by decide) (negs_src (k := 3) (by decide) HO.out.1)
      have H8 := Lib.hid (And.intro hb' hg')
      clear hb' hg'
      go_upto_region 9 with fail
      go_region_law fail
      all_goals
        simp only [Act.put, List.getElem_toArray, List.getElem_cons_zero, List.getElem_cons_succ, List.setIfInBounds_toArray, List.set_cons_zero, List.set_cons_succ]
        go_wp2_with fail
        go_roundw
        case rel => exact ⟨4, by decide, by decide, rfl, H8.out⟩
        case measure => (simp [intOf]; decide)
    · go_wp2_with fail
      exact HR.out _ _ ⟨rfl, HO.out.1, HO.out.2⟩
theorem repeat_any (w : World) {b n : Nat} (h1 : 1 ≤ n) (h4 : n ≤ 4) (hb : w.cell? ⟨b, 0, none⟩ = some (.int .i64 (-1))) : Calls Tryz.prog 100 #[.slice (some ⟨b, 0, none⟩) 1 1, .int .i64 n] w fun e w' => e = .returned (.slice (some ⟨w.heap.size, 0, none⟩) n n) ∧ w'.heap[w.heap.size]? = some (.cells (negs n n).toArray 3 (0, 0)) ∧ Grow w w' := by
  obtain rfl | rfl | rfl | rfl : n = 1 ∨ n = 2 ∨ n = 3 ∨ n = 4 := by omega
  · exact repeat_1 w hb
  · exact repeat_2 w hb
  · exact repeat_3 w hb
  · exact repeat_4 w hb
theorem thr_new {n : Nat} : (thr (newS 2 n)).map (Value.int .i64) = negs n n := by
  unfold thr negs
  rw [List.map_map, Nat.sub_self, List.replicate_zero, List.append_nil]
  apply List.ext_getElem
  · simp [newS]
  · intro i h1 h2
    simp [newS]
set_option maxHeartbeats 1000000 in
theorem epNew (w : World) (t : Int) : Calls Tryz.prog 49 #[.int .i64 t] w (NewP EM 2 w t) := by
  refine cph fun R HR => ?_
  by_cases h1 : t < 1
  · go_enter Tryz.func49, Tryz.ntmps49
    go_wp2_with fail
    exact HR.out _ _ (NewP.no (by omega) (Grow.refl _))
  by_cases h4 : 4 < t
  · go_enter Tryz.func49, Tryz.ntmps49
    go_wp2_with fail
    exact HR.out _ _ (NewP.no (by omega) (Grow.refl _))
  obtain ⟨n, rfl⟩ := Int.eq_ofNat_of_zero_le (a := t) (by omega)
  have hga := (Grow.refl w).alloc (Obj.cells #[.int .i64 (-1)] 3)
  have hna := blk_new w (Obj.cells #[.int .i64 (-1)] 3)
  have hsa := size_alloc w (Obj.cells #[.int .i64 (-1)] 3)
  obtain ⟨wa, hwa⟩ : ∃ wa, w.alloc (Obj.cells #[.int .i64 (-1)] 3) = wa := ⟨_, rfl⟩
  rw [hwa] at hga hna hsa
  have HP := Lib.hid (repeat_any wa (n := n) (by omega) (by omega) ((blk_cell hna 0).trans (rfl : _ = some (Value.int .i64 (-1)))))
  have HG := Lib.hid hga
  have HS := Lib.hid hsa
  clear hga hna hsa
  go_enter Tryz.func49, Tryz.ntmps49
  go_wp2_with (go_at_call 100; refine HP.out.mono ?_; rintro e w1 ⟨rfl, hb, hg⟩; have H1 := Lib.hid (And.intro hb hg); clear hb hg)
  refine HR.out _ _ (NewP.yes (F := fun k => k = w1.heap.size ∨ k = wa.heap.size ∨ (Value.slice none 0 0).ownBlock = some k) ⟨by omega, by omega⟩ ?_ ((HG.out.trans H1.out.2).alloc _) (fun j hj => by
    have h1 := HS.out
    have h2 := H1.out.2.size
    rcases hj with e | e | e
    · omega
    · omega
    · simp [Value.ownBlock] at e))
  have hl : (negs n n).length = n := by simp [negs]
  refine ⟨wa.heap.size, n, .slice none 0 0, rfl, ok_new 2 (by omega) (by omega), fun t ht => by simp [newS] at ht, blk_new w1 _, ?_, World.ownsRow_nil _ _ _ _, fun k => Iff.rfl⟩
  show World.ownsRow _ 0 3 1 (.slice (some ⟨wa.heap.size, 0, none⟩) n n) n ((thr (newS 2 n)).map (Value.int .i64))
  rw [thr_new]
  exact ⟨by rw [hl]; omega, .inr ⟨wa.heap.size, n, _, rfl, Nat.zero_le _, ((Grow.refl w1).alloc _).at_ H1.out.1, Nat.le_refl _, by unfold maxLen; omega, by simp [negs], by simp; exact List.take_of_length_le (by omega)⟩⟩
end Go.Proofs.YtcgcljmnnjalpaaGreat
