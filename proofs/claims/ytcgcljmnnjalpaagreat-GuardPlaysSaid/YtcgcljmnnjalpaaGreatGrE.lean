/- The reference's manager: Free. -/
import Derived.Test.YtcgcljmnnjalpaaGreatGrD
set_option linter.unusedVariables false
set_option linter.unusedSimpArgs false
namespace Go.Proofs.YtcgcljmnnjalpaaGreat
open Go.RowKit Go.Kx
open Go.ChangeMaps (setBlock)
theorem infoR : ((Tryz.prog.info? 153).map fun i => (i.zero, i.size, i.bytes)) = some (some (.agg #[.int .i64 0, .int .i64 0, .int .i64 0, .int .i64 0, .bool false, .bool false, .bool false, .bool false]), 8, 40) := by kernel_rfl
/-- The item as a value. -/
def valR (x : Itm) : Value := .agg (encR x).toArray
theorem freeK {s : RS} {x : Itm} (h0 : 0 ≤ s.kind) (h5 : s.kind ≤ 5) : (s.kind = 0 ∧ freeB s x = false) ∨ (s.kind = 1 ∧ freeB s x = decide (cnH s.holds x.addr = 0)) ∨ (s.kind = 2 ∧ freeB s x = decide (x.at_ ≤ s.now - 2)) ∨ (s.kind = 3 ∧ freeB s x = !((List.range 4).any (spanB s x))) ∨ (s.kind = 4 ∧ freeB s x = decide (cnH s.holds x.addr = 0)) ∨ (s.kind = 5 ∧ freeB s x = !((List.range 4).any x.for_)) := by
  have hc : (!(heldB s x.addr)) = decide (cnH s.holds x.addr = 0) := by
    rw [held_cn]
    by_cases e : cnH s.holds x.addr = 0 <;> simp [e]
  unfold freeB
  rw [hc]
  obtain h | h | h | h | h | h : s.kind = 0 ∨ s.kind = 1 ∨ s.kind = 2 ∨ s.kind = 3 ∨ s.kind = 4 ∨ s.kind = 5 := by omega
  all_goals simp [h]
theorem nzB (n : Nat) : ((n : Int) == 0) = decide (n = 0) := by by_cases h : n = 0 <;> simp [h]
theorem any4 {f : Nat → Bool} {n : Nat} (hn : n ≤ 4) (hz : ∀ t, n ≤ t → f t = false) (h : ∀ t, t < n → f t = false) : (List.range 4).any f = false := by
  rw [List.any_eq_false]
  intro t _
  by_cases ht : t < n
  · rw [h t ht]; simp
  · rw [hz t (by omega)]; simp
theorem spanB_eq (s : RS) (x : Itm) (t : Nat) : spanB s x t = ((s.ins t && (decide (x.birth ≤ s.hi t) && decide (s.lo t ≤ x.at_))) || (List.range 3).any fun k => s.ins t && (s.holds t k == x.addr)) := by
  unfold spanB
  cases s.ins t
  · simp
  · simp
set_option maxHeartbeats 4000000 in
theorem rFree {b : Nat} {vi vb : Value} {kb : List P2} {w : World} {F : FP} {s : RS} (h : RMv b vi vb kb w F s) (hs : s.now ≤ 2000000) (x : Itm) (hx : 0 < x.addr) (hfi : ∀ t, s.n ≤ t → x.for_ t = false) : Calls Tryz.prog 143 #[.pointer (some ⟨b, 0, none⟩), valR x] w fun e w' => e = .returned (.bool (freeB s x)) ∧ Grow w w' := by
  refine cph fun R HR => ?_
  have hnb := blk_new w (Obj.cells (encR x).toArray 153)
  have hgb := (Grow.refl w).alloc (Obj.cells (encR x).toArray 153)
  have e0 := freeK (s := s) (x := x) h.kind.1 h.kind.2
  have hok := h.ok
  have h1 : RMv b vi vb kb (w.alloc (Obj.cells (encR x).toArray 153)) F s := h.local_fr (G := fun _ => False) hgb (fun _ _ e => e)
  have hcnt := rCount h1 x.addr hx
  obtain ⟨w1, hw1⟩ : ∃ w1, w.alloc (Obj.cells (encR x).toArray 153) = w1 := ⟨_, rfl⟩
  have hw1' : w.alloc (Obj.cells #[.int .i64 x.addr, .int .i64 x.thr, .int .i64 x.at_, .int .i64 x.birth, .bool (x.for_ 0), .bool (x.for_ 1), .bool (x.for_ 2), .bool (x.for_ 3)] 153) = w1 := hw1
  rw [hw1] at hnb hgb h1 hcnt
  have HC := Lib.hid hcnt
  have HG := Lib.hid hgb
  have j0 := (blk_cell hnb 0).trans (rfl : _ = some (Value.int .i64 x.addr))
  have j2 := (blk_cell hnb 2).trans (rfl : _ = some (Value.int .i64 x.at_))
  have j3 := (blk_cell hnb 3).trans (rfl : _ = some (Value.int .i64 x.birth))
  have hfor : ∀ t : Nat, t < 4 → w1.cell? ⟨w.heap.size, 4 + t, none⟩ = some (.bool (x.for_ t)) := fun t ht => (blk_cell hnb (4 + t)).trans (by
    obtain rfl | rfl | rfl | rfl : t = 0 ∨ t = 1 ∨ t = 2 ∨ t = 3 := by omega
    all_goals rfl)
  have k1 := (blk_cell h1.blk 1).trans (rfl : _ = some (Value.int .i64 s.kind))
  have k2 := (blk_cell h1.blk 2).trans (rfl : _ = some (Value.int .i64 s.n))
  have k3 := (blk_cell h1.blk 3).trans (rfl : _ = some (Value.int .i64 s.now))
  have hh : ∀ t k : Nat, t < 4 → k < 3 → w1.cell? ⟨b, 4 + t * 3 + k, none⟩ = some (.int .i64 (s.holds t k)) := fun t k ht hk => (blk_cell h1.blk _).trans (ref_hold s vi vb ht hk)
  have hi : ∀ t : Nat, t < 4 → w1.cell? ⟨b, 16 + t, none⟩ = some (.bool (s.ins t)) ∧ w1.cell? ⟨b, 20 + t, none⟩ = some (.int .i64 (s.lo t)) ∧ w1.cell? ⟨b, 24 + t, none⟩ = some (.int .i64 (s.hi t)) := fun t ht => ⟨(blk_cell h1.blk _).trans (ref_ins s vi vb ht), (blk_cell h1.blk _).trans (ref_lo s vi vb ht), (blk_cell h1.blk _).trans (ref_hi s vi vb ht)⟩
  have HF := Lib.hid hfor
  have HH := Lib.hid hh
  have HI := Lib.hid hi
  have HOk := Lib.hid hok
  have hn4 := hok.n4
  have hn1 := hok.n1
  have hnow := hok.now0
  have hcl := cnH_le s.holds x.addr
  clear hcnt hgb hfor hh hi h1 hok h hnb hw1
  unfold valR encR
  rcases e0 with ⟨hk, e⟩ | ⟨hk, e⟩ | ⟨hk, e⟩ | ⟨hk, e⟩ | ⟨hk, e⟩ | ⟨hk, e⟩
  all_goals
    rw [e] at HR
    rw [hk] at k1
    clear e hk
    go_enter Tryz.func143, Tryz.ntmps143
  · go_wp2_with fail
    exact HR.out _ _ ⟨rfl, HG.out⟩
  · go_wp2_with (go_at_call 149; refine HC.out.mono ?_; rintro e w' ⟨rfl, rfl⟩)
    exact HR.out _ _ ⟨by simp [nzB], HG.out⟩
  · go_upto_region 6 with fail
    go_quiet (fail)
    go_wp2_with fail
    exact HR.out _ _ ⟨rfl, HG.out.drewN _⟩
  · go_wp2_with fail
    go_loopw [5] (fun i wr => ∃ t : Nat, t ≤ s.n ∧ i = .int .i64 t ∧ Hid (Grow w1 wr ∧ ∀ u, u < t → spanB s x u = false)) (fun i _ => s.n - (intOf i).toNat)
    case atStart => exact ⟨0, by omega, rfl, Grow.refl _, fun u h => by omega⟩
    case round =>
      obtain ⟨t, ht, rfl, HO⟩ := hrel
      have j0' := HO.out.1.cell j0
      have j2' := HO.out.1.cell j2
      have j3' := HO.out.1.cell j3
      have k2' := HO.out.1.cell k2
      by_cases hlt : t < s.n
      · have hki : (t : Int) < (s.n : Int) := by omega
        have ht4 : t < 4 := by omega
        have i0 := HO.out.1.cell (HI.out t ht4).1
        have i1 := HO.out.1.cell (HI.out t ht4).2.1
        have i2 := HO.out.1.cell (HI.out t ht4).2.2
        have hsp := spanB_eq s x t
        obtain ⟨c, hc⟩ : ∃ c, (s.ins t && (decide (x.birth ≤ s.hi t) && decide (s.lo t ≤ x.at_))) = c := ⟨_, rfl⟩
        rw [hc] at hsp
        have HC1 := Lib.hid hc
        have HSP := Lib.hid hsp
        clear hc hsp
        go_upto_region 11 with fail
        go_cut [67] (fun v wx => v = .bool c ∧ Hid (Grow wr wx))
        case first =>
          rename_i J K hJ hK
          cases q0 : s.ins t
          · rw [q0] at i0
            go_quiet (fail)
            refine hK _ _ (Met.intro (hJ _ _ ?_))
            (repeat apply Exists.intro)
            refine ⟨?_, rfl⟩
            exact ⟨by rw [← HC1.out, q0]; rfl, (Grow.refl _).drewN nq⟩
          · rw [q0] at i0
            by_cases q1 : x.birth ≤ s.hi t
            · go_quiet (fail)
              refine hK _ _ (Met.intro (hJ _ _ ?_))
              (repeat apply Exists.intro)
              refine ⟨?_, rfl⟩
              exact ⟨by rw [← HC1.out, q0]; simp [q1], (Grow.refl _).drewN nq⟩
            · go_quiet (fail)
              refine hK _ _ (Met.intro (hJ _ _ ?_))
              (repeat apply Exists.intro)
              refine ⟨?_, rfl⟩
              exact ⟨by rw [← HC1.out, q0]; simp [q1], (Grow.refl _).drewN nq⟩
        case rest =>
          obtain ⟨rfl, HX⟩ := hcut
          cases c
          · go_wp2_with fail
            go_loopw [6] (fun i wq => ∃ k : Nat, k ≤ 3 ∧ i = .int .i64 k ∧ Hid (Grow wr wq ∧ ∀ u, u < k → (s.ins t && (s.holds t u == x.addr)) = false)) (fun i _ => 3 - (intOf i).toNat)
            case atStart => exact ⟨0, by omega, rfl, HX.out, fun u h => by omega⟩
            case round =>
              obtain ⟨k, hk, rfl, HQ⟩ := hrel
              have hgq := HO.out.1.trans HQ.out.1
              have j0' := hgq.cell j0
              have k2' := hgq.cell k2
              have i0' := HQ.out.1.cell i0
              by_cases hl2 : k < 3
              · have hki2 : (k : Int) < 3 := by omega
                have c0 := hgq.cell (HH.out t k ht4 hl2)
                have HGQ := Lib.hid hgq
                clear hgq
                cases q0 : s.ins t
                · rw [q0] at i0' i0
                  have Hq0 := Lib.hid q0
                  clear q0
                  go_upto_region 16 with fail
                  go_quiet (fail)
                  go_wp2_with fail
                  go_roundw
                  case rel => exact ⟨k + 1, by omega, by go_num, HQ.out.1.drewN nq, fun u hu => rfl⟩
                  case measure => simp [intOf] <;> omega
                · rw [q0] at i0' i0
                  cases q1 : s.holds t k == x.addr
                  · have Hq1 := Lib.hid q1
                    have Hq0 := Lib.hid q0
                    clear q0
                    go_upto_region 16 with fail
                    go_quiet (fail)
                    go_wp2_with fail
                    go_roundw
                    case rel => exact ⟨k + 1, by omega, by go_num, HQ.out.1.drewN nq, fun u hu => (Nat.lt_succ_iff_lt_or_eq.1 hu).elim (fun h => by have q := HQ.out.2 u h; rw [Hq0.out] at q; exact q) (fun e => by rw [e, Hq1.out, Bool.and_false])⟩
                    case measure => simp [intOf] <;> omega
                  · have hw : (List.range 4).any (spanB s x) = true := List.any_eq_true.2 ⟨t, List.mem_range.2 ht4, by
                      rw [HSP.out, Bool.false_or]
                      exact List.any_eq_true.2 ⟨k, List.mem_range.2 hl2, by rw [q0, q1]; rfl⟩⟩
                    rw [hw] at HR
                    clear hw q0
                    go_upto_region 16 with fail
                    go_quiet (fail)
                    go_wp2_with fail
                    exact HR.out _ _ ⟨rfl, HG.out.trans (HGQ.out.drewN nq)⟩
              · have hki2 : ¬ (k : Int) < 3 := by omega
                have hsf : spanB s x t = false := by
                  rw [HSP.out, Bool.false_or, List.any_eq_false]
                  intro u hu
                  rw [HQ.out.2 u (by have := List.mem_range.1 hu; omega)]
                  simp
                have HSF := Lib.hid hsf
                have HGQ := Lib.hid hgq
                clear hsf hgq
                go_wp2_with fail
                go_roundw
                case rel => exact ⟨t + 1, by omega, by go_num, HGQ.out, fun u hu => (Nat.lt_succ_iff_lt_or_eq.1 hu).elim (HO.out.2 u) (fun e => e ▸ HSF.out)⟩
                case measure => simp [intOf] <;> omega
          · have hw : (List.range 4).any (spanB s x) = true := List.any_eq_true.2 ⟨t, List.mem_range.2 ht4, by rw [HSP.out]; rfl⟩
            rw [hw] at HR
            clear hw
            go_wp2_with fail
            exact HR.out _ _ ⟨rfl, HG.out.trans (HO.out.1.trans HX.out)⟩
      · have hki : ¬ (t : Int) < (s.n : Int) := by omega
        have hw : (List.range 4).any (spanB s x) = false := any4 hn4 (fun u hu => by unfold spanB; rw [HOk.out.ins u hu]; rfl) (fun u hu => HO.out.2 u (by omega))
        rw [hw] at HR
        clear hw
        go_wp2_with fail
        exact HR.out _ _ ⟨rfl, HG.out.trans HO.out.1⟩
  · go_wp2_with (go_at_call 149; refine HC.out.mono ?_; rintro e w' ⟨rfl, rfl⟩)
    exact HR.out _ _ ⟨by simp [nzB], HG.out⟩
  · go_wp2_with fail
    go_loop [7] (fun i => ∃ t : Nat, t ≤ s.n ∧ i = .int .i64 t ∧ Hid (∀ u, u < t → x.for_ u = false)) (fun i => s.n - (intOf i).toNat)
    case atStart => exact ⟨0, by omega, rfl, fun u h => by omega⟩
    case round =>
      obtain ⟨t, ht, rfl, HO⟩ := hrel
      by_cases hlt : t < s.n
      · have hki : (t : Int) < (s.n : Int) := by omega
        have ht4 : t < 4 := by omega
        have i0 := HF.out t ht4
        cases q0 : x.for_ t
        · rw [q0] at i0
          have Hq0 := Lib.hid q0
          clear q0
          go_wp2_with fail
          go_round
          case rel => exact ⟨t + 1, by omega, by go_num, fun u hu => (Nat.lt_succ_iff_lt_or_eq.1 hu).elim (HO.out u) (fun e => e ▸ Hq0.out)⟩
          case measure => simp [intOf] <;> omega
        · rw [q0] at i0
          have hw : (List.range 4).any x.for_ = true := List.any_eq_true.2 ⟨t, List.mem_range.2 ht4, q0⟩
          rw [hw] at HR
          clear hw q0
          go_wp2_with fail
          exact HR.out _ _ ⟨rfl, HG.out⟩
      · have hki : ¬ (t : Int) < (s.n : Int) := by omega
        have hw : (List.range 4).any x.for_ = false := any4 hn4 hfi (fun u hu => HO.out u (by omega))
        rw [hw] at HR
        clear hw
        go_wp2_with fail
        exact HR.out _ _ ⟨rfl, HG.out⟩
end Go.Proofs.YtcgcljmnnjalpaaGreat
