/- The reference's manager: Try, In. -/
import Derived.Test.YtcgcljmnnjalpaaGreatGrF
set_option linter.unusedVariables false
set_option linter.unusedSimpArgs false
namespace Go.Proofs.YtcgcljmnnjalpaaGreat
open Go.RowKit Go.Kx
open Go.ChangeMaps (setBlock)
theorem rSweepAll {b : Nat} {w : World} {F : FP} {s : RS} (h : RM b w F s) (hs : s.items.length ≤ 200000) (hs2 : s.now ≤ 2000000) : Calls Tryz.prog 123 #[.pointer (some ⟨b, 0, none⟩), .int .i64 (-1)] w (OpL (RM b) w F (sweepS s fun _ => true)) := by
  have := rSweep h hs hs2 (-1)
  rwa [show (fun x : Itm => decide ((-1 : Int) < 0) || (x.thr == -1)) = fun _ => true from by funext x; simp] at this
theorem rSweepOf {b : Nat} {w : World} {F : FP} {s : RS} (h : RM b w F s) (hs : s.items.length ≤ 200000) (hs2 : s.now ≤ 2000000) (t : Int) (ht : 0 ≤ t) : Calls Tryz.prog 123 #[.pointer (some ⟨b, 0, none⟩), .int .i64 t] w (OpL (RM b) w F (sweepS s fun x => x.thr == t)) := by
  have := rSweep h hs hs2 t
  rwa [show (fun x : Itm => decide (t < 0) || (x.thr == t)) = fun x => x.thr == t from by funext x; simp [show ¬ t < 0 by omega]] at this
/-- A cell of the manager is turned. -/
theorem RMv.poke {b : Nat} {vi vb : Value} {kb : List P2} {w : World} {F : FP} {s : RS} (h : RMv b vi vb kb w F s) {s' : RS} {o : Nat} {v : Value} (hk : s'.kind = s.kind) (hok : Ok s') (hit : s'.items = s.items) (hb : s'.born = s.born) (ha : (refArr s vi vb).setIfInBounds o v = refArr s' vi vb) : RMv b vi vb kb (w.setCell ⟨b, o, none⟩ v) F s' ∧ Fr (· = b) w (w.setCell ⟨b, o, none⟩ v) := by
  have hf : Fr (· = b) w (w.setCell ⟨b, o, none⟩ v) := (Fr.refl _ _).setCell _ _ (.inr rfl)
  refine ⟨⟨by rw [hk]; exact h.kind, hok, by rw [← ha]; exact blk_set h.blk o v, ?_, ?_, by rw [hb]; exact h.born, h.fp⟩, hf⟩
  · rw [hit]; exact owns_fr h.row hf (fun j hj e => (h.nei j hj).1 e)
  · exact owns_fr h.brow hf (fun j hj e => (h.neb j hj).1 e)
theorem RMv.upF {b : Nat} {vi vb : Value} {kb : List P2} {w w' : World} {F : FP} {s : RS} (h : RMv b vi vb kb w F s) (hf : Fr (· = b) w w') : Step F w F w' := ⟨hf.mono fun i _ e => (h.fp i).2 (.inl e), fun k hk => .inl hk⟩
/-- The manager as it was, a frame ahead. -/
theorem OpL.ahead {At : World → FP → RS → Prop} {w w1 : World} {F : FP} {r : RO} {e : Ending} {w' : World} (h : OpL At w1 F r e w') (hs : Step F w F w1) : OpL At w F r e w' := by
  obtain ⟨v, F', rfl, o, a, s, d⟩ := h
  exact ⟨v, F', rfl, own_base_le o hs.fr.size, a, hs.trans s, d⟩
theorem now_ok {s : RS} (h : Ok s) : Ok { s with now := s.now + 1 } := h.sub rfl rfl rfl (fun _ h => h) (by show s.now ≤ s.now + 1; omega)
set_option maxHeartbeats 2000000 in
theorem rTry {b : Nat} {w : World} {F : FP} {s : RS} (h : RM b w F s) (hs : s.items.length ≤ 200000) (hs2 : s.now ≤ 1900000) : Calls Tryz.prog 127 #[.pointer (some ⟨b, 0, none⟩)] w (OpL (RM b) w F (tryS s)) := by
  refine cph fun R HR => ?_
  obtain ⟨vi, vb, kb, hv, hkl⟩ := h
  have HV := Lib.hid hv
  have k2 := (blk_cell hv.blk 2).trans (rfl : _ = some (Value.int .i64 s.n))
  have k3 := (blk_cell hv.blk 3).trans (rfl : _ = some (Value.int .i64 s.now))
  have hi : ∀ t : Nat, t < 4 → w.cell? ⟨b, 16 + t, none⟩ = some (.bool (s.ins t)) ∧ w.cell? ⟨b, 20 + t, none⟩ = some (.int .i64 (s.lo t)) := fun t ht => ⟨(blk_cell hv.blk _).trans (ref_ins s vi vb ht), (blk_cell hv.blk _).trans (ref_lo s vi vb ht)⟩
  have HI := Lib.hid hi
  have hn4 := hv.ok.n4
  have hnow := hv.ok.now0
  have HKL := Lib.hid hkl
  clear hv hi hkl
  go_enter Tryz.func127, Tryz.ntmps127
  go_wp2_with fail
  go_loopw [3] (fun i wr => ∃ t : Nat, t ≤ s.n ∧ i = .int .i64 t ∧ Hid (Grow w wr ∧ ∀ u, u < t → (s.ins u && !(s.lo u == s.now)) = false)) (fun i _ => s.n - (intOf i).toNat)
  case atStart => exact ⟨0, by omega, rfl, Grow.refl _, fun u h => by omega⟩
  case round =>
    obtain ⟨t, ht, rfl, HO⟩ := hrel
    have k2' := HO.out.1.cell k2
    have k3' := HO.out.1.cell k3
    by_cases hlt : t < s.n
    · have hki : (t : Int) < (s.n : Int) := by omega
      have ht4 : t < 4 := by omega
      have i0 := HO.out.1.cell (HI.out t ht4).1
      have i1 := HO.out.1.cell (HI.out t ht4).2
      cases q0 : s.ins t
      · rw [q0] at i0
        have Hq0 := Lib.hid q0
        clear q0
        go_upto_region 4 with fail
        go_quiet (fail)
        go_wp2_with fail
        go_roundw
        case rel => exact ⟨t + 1, by omega, by go_num, HO.out.1.drewN nq, fun u hu => (Nat.lt_succ_iff_lt_or_eq.1 hu).elim (HO.out.2 u) (fun e => by rw [e, Hq0.out]; rfl)⟩
        case measure => simp [intOf] <;> omega
      · rw [q0] at i0
        cases q1 : s.lo t == s.now
        · have hw : behindB s = true := List.any_eq_true.2 ⟨t, List.mem_range.2 ht4, by rw [q0, q1]; rfl⟩
          have hT : tryS s = ⟨s, [], 0⟩ := by unfold tryS; rw [if_pos hw]
          rw [hT] at HR
          have e1 : (s.lo t != s.now) = true := by simp [bne, q1]
          clear hw hT q0
          go_upto_region 4 with fail
          go_quiet (fail)
          go_wp2_with fail
          refine HR.out _ _ ⟨_, F, rfl, World.ownsRow_nil _ _ _ _, (RM.local b).fr (G := fun _ => False) ⟨_, _, _, HV.out, HKL.out⟩ (HO.out.1.drewN nq) (fun _ _ h => h), ⟨(HO.out.1.drewN nq).mono fun _ _ h => h.elim, fun k hk => .inl hk⟩, fun k hk => by simp [Value.ownBlock] at hk⟩
        · have e1 : (s.lo t != s.now) = false := by simp [bne, q1]
          have Hq1 := Lib.hid q1
          clear q0
          go_upto_region 4 with fail
          go_quiet (fail)
          go_wp2_with fail
          go_roundw
          case rel => exact ⟨t + 1, by omega, by go_num, HO.out.1.drewN nq, fun u hu => (Nat.lt_succ_iff_lt_or_eq.1 hu).elim (HO.out.2 u) (fun e => by rw [e, Hq1.out]; simp)⟩
          case measure => simp [intOf] <;> omega
    · have hki : ¬ (t : Int) < (s.n : Int) := by omega
      have hw : behindB s = false := any4 hn4 (fun u hu => by rw [HV.out.ok.ins u hu]; rfl) (fun u hu => HO.out.2 u (by omega))
      have hT : tryS s = sweepS { s with now := s.now + 1 } (fun _ => true) := by unfold tryS; rw [if_neg (by rw [hw]; simp)]
      rw [hT] at HR
      have hv1 := HV.out.local_fr (G := fun _ => False) HO.out.1 (fun _ _ h => h)
      have f3 := blk_free hv1.blk 3
      obtain ⟨hv2, hf2⟩ := hv1.poke (s' := { s with now := s.now + 1 }) (o := 3) (v := .int .i64 (s.now + 1)) rfl (now_ok hv1.ok) rfl rfl rfl
      have HS2 := Lib.hid (hv1.upF hf2)
      have hc := rSweepAll ⟨vi, vb, kb, hv2, by have := HKL.out; show _ ≤ s.now + 1; omega⟩ hs (by show s.now + 1 ≤ _; omega)
      have HC := Lib.hid hc
      clear hw hT hv1 hv2 hf2 hc
      obtain ⟨w2, hw2⟩ : ∃ w2, wr.setCell ⟨b, 3, none⟩ (.int .i64 (s.now + 1)) = w2 := ⟨_, rfl⟩
      rw [hw2] at HC HS2
      go_wp2_with (go_at_call 123; refine HC.out.mono ?_; intro e w' ho; obtain ⟨v, F', rfl, ho⟩ := ho; have HO2 := Lib.hid ho; clear ho)
      exact HR.out _ _ (OpL.ahead (w1 := w2) ⟨v, F', rfl, HO2.out⟩ ⟨Fr.then (HO.out.1.mono fun _ _ h => h.elim) HS2.out.fr (fun i _ h => h), fun k hk => .inl hk⟩)
end Go.Proofs.YtcgcljmnnjalpaaGreat
