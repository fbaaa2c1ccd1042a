/- The span manager: meets, sweep. -/
import Derived.Test.YtcgcljmnnjalpaaGreatGeG
import Derived.Deep.MidRow
set_option linter.unusedVariables false
set_option linter.unusedSimpArgs false
namespace Go.Proofs.YtcgcljmnnjalpaaGreat
open Go.RowKit Go.Kx
open Go.ChangeMaps (setBlock)
theorem spIdx0 (x0 x1 x2 x3 x4 x5 x6 x7 x8 x9 x10 x11 x12 x13 x14 x15 x16 x17 x18 x19 x20 x21 x22 x23 : Value) (W : World) : (Instr.index 127 (.agg #[x0, x1, x2, x3, x4, x5, x6, x7, x8, x9, x10, x11, x12, x13, x14, x15, x16, x17, x18, x19, x20, x21, x22, x23]) (.int .i64 0)).run Tryz.prog W = .ok (.agg #[x0, x1, x2, x3, x4, x5]) W := by kernel_rfl
theorem spIdx1 (x0 x1 x2 x3 x4 x5 x6 x7 x8 x9 x10 x11 x12 x13 x14 x15 x16 x17 x18 x19 x20 x21 x22 x23 : Value) (W : World) : (Instr.index 127 (.agg #[x0, x1, x2, x3, x4, x5, x6, x7, x8, x9, x10, x11, x12, x13, x14, x15, x16, x17, x18, x19, x20, x21, x22, x23]) (.int .i64 1)).run Tryz.prog W = .ok (.agg #[x6, x7, x8, x9, x10, x11]) W := by kernel_rfl
theorem spIdx2 (x0 x1 x2 x3 x4 x5 x6 x7 x8 x9 x10 x11 x12 x13 x14 x15 x16 x17 x18 x19 x20 x21 x22 x23 : Value) (W : World) : (Instr.index 127 (.agg #[x0, x1, x2, x3, x4, x5, x6, x7, x8, x9, x10, x11, x12, x13, x14, x15, x16, x17, x18, x19, x20, x21, x22, x23]) (.int .i64 2)).run Tryz.prog W = .ok (.agg #[x12, x13, x14, x15, x16, x17]) W := by kernel_rfl
theorem spIdx3 (x0 x1 x2 x3 x4 x5 x6 x7 x8 x9 x10 x11 x12 x13 x14 x15 x16 x17 x18 x19 x20 x21 x22 x23 : Value) (W : World) : (Instr.index 127 (.agg #[x0, x1, x2, x3, x4, x5, x6, x7, x8, x9, x10, x11, x12, x13, x14, x15, x16, x17, x18, x19, x20, x21, x22, x23]) (.int .i64 3)).run Tryz.prog W = .ok (.agg #[x18, x19, x20, x21, x22, x23]) W := by kernel_rfl
def spRow (s : RS) (t : Nat) : Array Value := #[.bool (s.ins t), .int .i64 (spL s t), .int .i64 (spH s t), .int .i64 (s.holds t 0), .int .i64 (s.holds t 1), .int .i64 (s.holds t 2)]
def spSeen (s : RS) : Array Value := #[.bool (s.ins 0), .int .i64 (spL s 0), .int .i64 (spH s 0), .int .i64 (s.holds 0 0), .int .i64 (s.holds 0 1), .int .i64 (s.holds 0 2), .bool (s.ins 1), .int .i64 (spL s 1), .int .i64 (spH s 1), .int .i64 (s.holds 1 0), .int .i64 (s.holds 1 1), .int .i64 (s.holds 1 2), .bool (s.ins 2), .int .i64 (spL s 2), .int .i64 (spH s 2), .int .i64 (s.holds 2 0), .int .i64 (s.holds 2 1), .int .i64 (s.holds 2 2), .bool (s.ins 3), .int .i64 (spL s 3), .int .i64 (spH s 3), .int .i64 (s.holds 3 0), .int .i64 (s.holds 3 1), .int .i64 (s.holds 3 2)]
def spanC (s : RS) (x : Itm) (t : Nat) : Bool := s.ins t && ((decide (x.birth ≤ spH s t) && decide (spL s t ≤ x.at_)) || decide (x.addr ∈ [s.holds t 0, s.holds t 1, s.holds t 2]))
theorem spanB_C (s : RS) (x : Itm) (t : Nat) : spanB s x t = spanC s x t := by
  unfold spanB spanC spL spH
  cases s.ins t
  · rfl
  · simp only [Bool.true_and, if_true, List.range, List.range.loop, List.any_cons, List.any_nil, Bool.or_false, List.mem_cons, List.not_mem_nil, or_false, Bool.decide_or]
    congr 1
    have e : ∀ i, (s.holds t i == x.addr) = decide (x.addr = s.holds t i) := fun i => by
      rw [Bool.eq_iff_iff]; simp; exact eq_comm
    rw [e, e, e]
theorem spIdx (s : RS) {t : Nat} (ht : t < 4) (W : World) : (Instr.index 127 (.agg (spSeen s)) (.int .i64 t)).run Tryz.prog W = .ok (.agg (spRow s t)) W := by
  obtain rfl | rfl | rfl | rfl : t = 0 ∨ t = 1 ∨ t = 2 ∨ t = 3 := by omega
  · exact spIdx0 _ _ _ _ _ _ _ _ _ _ _ _ _ _ _ _ _ _ _ _ _ _ _ _ W
  · exact spIdx1 _ _ _ _ _ _ _ _ _ _ _ _ _ _ _ _ _ _ _ _ _ _ _ _ W
  · exact spIdx2 _ _ _ _ _ _ _ _ _ _ _ _ _ _ _ _ _ _ _ _ _ _ _ _ W
  · exact spIdx3 _ _ _ _ _ _ _ _ _ _ _ _ _ _ _ _ _ _ _ _ _ _ _ _ W
theorem size127 : (Tryz.prog.info? 127).map (·.size) = some 24 := by kernel_rfl
theorem sp_range {w : World} {b M : Nat} {v : Value} {s : RS} (h : w.heap[b]? = some (.cells (spArr s M v) 130 (0, 0))) : w.rangeAt b 2 (spSeen s).toList := by
  intro j u hj
  have e : (spArr s M v).toList = [Value.int .i64 s.now, Value.int .i64 s.n] ++ ((spSeen s).toList ++ [.map (some M), v]) := rfl
  have hl : j < (spSeen s).toList.length := (List.getElem?_eq_some_iff.1 hj).1
  rw [blk_cell h, ← Array.getElem?_toList, e, List.getElem?_append_right (by simp), List.getElem?_append_left (by simp only [List.length_cons, List.length_nil]; omega)]
  rw [show 2 + j - [Value.int .i64 s.now, Value.int .i64 s.n].length = j by simp only [List.length_cons, List.length_nil]; omega]
  exact hj
set_option maxRecDepth 100000 in
set_option maxHeartbeats 4000000 in
theorem spMeets {b M : Nat} {v : Value} {w : World} {s : RS} (hb : w.heap[b]? = some (.cells (spArr s M v) 130 (0, 0))) (x : Itm) : Calls Tryz.prog 141 #[.pointer (some ⟨b, 0, none⟩), .agg #[.int .i64 x.addr, .int .i64 x.birth, .int .i64 x.at_]] w fun e w' => e = .returned (.bool ((List.range 4).any (spanB s x))) ∧ Grow w w' := by
  refine cph fun R HR => ?_
  have hload := sp_range (blk_alloc' (Obj.cells #[.int .i64 x.addr, .int .i64 x.birth, .int .i64 x.at_] 147) hb)
  have hbl := blk_lt hb
  have hcb := blk_cell hb
  have k2 : ∃ u, w.cell? ⟨b, 2, none⟩ = some u := ⟨_, hcb 2⟩
  obtain ⟨u2, k2⟩ := k2
  have HID : Hid (∀ t : Nat, t < 4 → ∀ W, (Instr.index 127 (.agg (spSeen s).toList.toArray) (.int .i64 t)).run Tryz.prog W = .ok (.agg (spRow s t)) W) := Lib.hid fun t ht W => by rw [Array.toArray_toList]; exact spIdx s ht W
  have hlen : (Tryz.prog.info? 127).map (·.size) = some (spSeen s).toList.length := size127
  generalize (spSeen s).toList = AV at HID hload hlen
  have hnw := cells_new w [.int .i64 x.addr, .int .i64 x.birth, .int .i64 x.at_] 147
  have hbx := blk_new w (Obj.cells #[.int .i64 x.addr, .int .i64 x.birth, .int .i64 x.at_] 147)
  have hg1 := (Grow.refl w).alloc (Obj.cells #[.int .i64 x.addr, .int .i64 x.birth, .int .i64 x.at_] 147)
  have hs1 := size_alloc w (Obj.cells #[.int .i64 x.addr, .int .i64 x.birth, .int .i64 x.at_] 147)
  obtain ⟨w1, hw1⟩ : ∃ w1, w.alloc (Obj.cells #[.int .i64 x.addr, .int .i64 x.birth, .int .i64 x.at_] 147) = w1 := ⟨_, rfl⟩
  rw [hw1] at hload hbx hg1 hs1
  have H1 := Lib.hid (And.intro hbx (And.intro hg1 (And.intro hs1 (And.intro hload hlen))))
  clear hb hcb hbx hg1 hs1 hnw hload hlen
  go_enter Tryz.func141, Tryz.ntmps141
  go_wp2_with (refine wpList_load_mid rfl 127 (.tmp 9) rfl b 2 rfl AV _ H1.out.2.2.2.1 Tryz.underlying127 rfl H1.out.2.2.2.2 ?_)
  go_loopw [11] (fun i wr => ∃ k : Nat, k ≤ 4 ∧ i = .int .i64 k ∧ Hid (Grow w1 wr ∧ ∀ t, t < k → spanB s x t = false)) (fun i _ => 4 - (intOf i).toNat)
  case atStart => exact ⟨0, by omega, rfl, Grow.refl _, fun t h => by omega⟩
  case round =>
    obtain ⟨k, hk, rfl, HO⟩ := hrel
    by_cases hlt : k < 4
    · have hidx := HID.out k hlt
      unfold spRow at hidx
      have hCC := spanB_C s x k
      unfold spanC at hCC
      have hni := blk_new wr (Obj.cells #[.bool (s.ins k), .int .i64 (spL s k), .int .i64 (spH s k), .int .i64 (s.holds k 0), .int .i64 (s.holds k 1), .int .i64 (s.holds k 2)] 126)
      have hgi := HO.out.1.alloc (Obj.cells #[.bool (s.ins k), .int .i64 (spL s k), .int .i64 (spH s k), .int .i64 (s.holds k 0), .int .i64 (s.holds k 1), .int .i64 (s.holds k 2)] 126)
      generalize s.ins k = ins at hidx hCC hni hgi
      generalize spL s k = lo at hidx hCC hni hgi
      generalize spH s k = hi at hidx hCC hni hgi
      generalize s.holds k 0 = h0 at hidx hCC hni hgi
      generalize s.holds k 1 = h1 at hidx hCC hni hgi
      generalize s.holds k 2 = h2 at hidx hCC hni hgi
      have HCC := Lib.hid hCC
      obtain ⟨w2, hw2⟩ : ∃ w2, wr.alloc (Obj.cells #[.bool ins, .int .i64 lo, .int .i64 hi, .int .i64 h0, .int .i64 h1, .int .i64 h2] 126) = w2 := ⟨_, rfl⟩
      rw [hw2] at hni hgi
      have hbr := blk_cell (hgi.at_ H1.out.1)
      have d0 := (hbr 0).trans (rfl : _ = some (Value.int .i64 x.addr))
      have d1 := (hbr 1).trans (rfl : _ = some (Value.int .i64 x.birth))
      have d2 := (hbr 2).trans (rfl : _ = some (Value.int .i64 x.at_))
      have hbi := blk_cell hni
      have g0 := (hbi 0).trans (rfl : _ = some (Value.bool ins))
      have g1 := (hbi 1).trans (rfl : _ = some (Value.int .i64 lo))
      have g2 := (hbi 2).trans (rfl : _ = some (Value.int .i64 hi))
      have HC : Hid (∀ n, Calls Tryz.prog 106 #[.slice (some ⟨wr.heap.size, 3, none⟩) 3 3, .int .i64 x.addr] (w2.drewN n) fun e w' => e = .returned (.bool (decide (x.addr ∈ [h0, h1, h2]))) ∧ w2.drewN n = w') := Lib.hid fun n =>
        containsI_any (cap := 3) (l := [h0, h1, h2]) x.addr (.inr ⟨wr.heap.size, 3, rfl, fun j y hj => by
          have hb3 : (w2.drewN n).cell? ⟨wr.heap.size, 3 + j, none⟩ = _ := blk_cell (w := w2.drewN n) hni (3 + j)
          rw [hb3]
          match j, hj with
          | 0, hj => simp at hj; subst hj; rfl
          | 1, hj => simp at hj; subst hj; rfl
          | 2, hj => simp at hj; subst hj; rfl
          | j + 3, hj => simp at hj⟩) (by simp)
      have hki : (k : Int) < 4 := by omega
      have HG := Lib.hid hgi
      clear hbr hbi hni hgi hCC
      go_upto_region 4 with fail
      cases hj : ins
      · subst hj
        have hsp : spanB s x k = false := HCC.out
        have HSP := Lib.hid hsp
        clear hsp
        go_quiet (fail)
        go_wp2_with fail
        go_roundw
        case rel => exact ⟨k + 1, by omega, by go_num, HG.out.drewN nq, fun t ht => (Nat.lt_succ_iff_lt_or_eq.1 ht).elim (HO.out.2 t) (fun e => e ▸ HSP.out)⟩
        case measure => simp [intOf] <;> omega
      · subst hj
        by_cases c12 : x.birth ≤ hi ∧ lo ≤ x.at_
        · obtain ⟨c1, c2⟩ := c12
          have hsp : spanB s x k = true := by rw [HCC.out]; simp [c1, c2]
          have HSP := Lib.hid hsp
          clear hsp
          go_quiet (fail)
          go_wp2_with fail
          refine HR.out _ _ ⟨?_, (H1.out.2.1.trans HG.out).drewN nq⟩
          rw [List.any_eq_true.2 ⟨k, List.mem_range.2 hlt, HSP.out⟩]; try rfl
        · cases hmem : decide (x.addr ∈ [h0, h1, h2])
          · have hsp : spanB s x k = false := by
              rw [HCC.out, hmem]
              by_cases c1 : x.birth ≤ hi
              · have c2 : ¬ lo ≤ x.at_ := fun c2 => c12 ⟨c1, c2⟩
                simp [c2]
              · simp [c1]
            have HSP := Lib.hid hsp
            clear hsp
            by_cases c1 : x.birth ≤ hi
            · have c2 : ¬ lo ≤ x.at_ := fun c2 => c12 ⟨c1, c2⟩
              clear c12
              go_quiet ((first | (go_at_call 106; exact Calls.quiet_of_same ((HC.out _).mono fun e w' h => ⟨by rw [h.1, hmem], h.2.symm⟩))))
              go_wp2_with fail
              go_roundw
              case rel => exact ⟨k + 1, by omega, by go_num, HG.out.drewN nq, fun t ht => (Nat.lt_succ_iff_lt_or_eq.1 ht).elim (HO.out.2 t) (fun e => e ▸ HSP.out)⟩
              case measure => simp [intOf] <;> omega
            · clear c12
              go_quiet ((first | (go_at_call 106; exact Calls.quiet_of_same ((HC.out _).mono fun e w' h => ⟨by rw [h.1, hmem], h.2.symm⟩))))
              go_wp2_with fail
              go_roundw
              case rel => exact ⟨k + 1, by omega, by go_num, HG.out.drewN nq, fun t ht => (Nat.lt_succ_iff_lt_or_eq.1 ht).elim (HO.out.2 t) (fun e => e ▸ HSP.out)⟩
              case measure => simp [intOf] <;> omega
          · have hsp : spanB s x k = true := by rw [HCC.out, hmem]; simp
            have HSP := Lib.hid hsp
            clear hsp
            by_cases c1 : x.birth ≤ hi
            · have c2 : ¬ lo ≤ x.at_ := fun c2 => c12 ⟨c1, c2⟩
              clear c12
              go_quiet ((first | (go_at_call 106; exact Calls.quiet_of_same ((HC.out _).mono fun e w' h => ⟨by rw [h.1, hmem], h.2.symm⟩))))
              go_wp2_with fail
              refine HR.out _ _ ⟨?_, (H1.out.2.1.trans HG.out).drewN nq⟩
              rw [List.any_eq_true.2 ⟨k, List.mem_range.2 hlt, HSP.out⟩]; try rfl
            · clear c12
              go_quiet ((first | (go_at_call 106; exact Calls.quiet_of_same ((HC.out _).mono fun e w' h => ⟨by rw [h.1, hmem], h.2.symm⟩))))
              go_wp2_with fail
              refine HR.out _ _ ⟨?_, (H1.out.2.1.trans HG.out).drewN nq⟩
              rw [List.any_eq_true.2 ⟨k, List.mem_range.2 hlt, HSP.out⟩]; try rfl
    · obtain rfl : k = 4 := by omega
      have hsp : (List.range 4).any (spanB s x) = false := by
        rw [List.any_eq_false]
        intro t ht
        rw [HO.out.2 t (List.mem_range.1 ht)]
        simp
      rw [hsp] at HR
      clear hsp
      go_wp2_with fail
      exact HR.out _ _ ⟨rfl, H1.out.2.1.trans HO.out.1⟩
end Go.Proofs.YtcgcljmnnjalpaaGreat
