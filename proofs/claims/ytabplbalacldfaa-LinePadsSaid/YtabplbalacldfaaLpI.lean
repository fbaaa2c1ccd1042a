/- The contract of the reference's Pad, for every size and every list of accesses that memory holds. -/
import Derived.Test.YtabplbalacldfaaLpF
import Derived.Test.YtabplbalacldfaaLpH
import Derived.Test.YtabplbalacldfaaKxD
set_option linter.unusedVariables false
set_option linter.unusedSimpArgs false
namespace Go.Proofs.Ytabplbalacldfaa
open Go.RowKit Go.Kx Go.Maps Go.Sort Go.Shelf
theorem idx_ok {D : List Int} (hs : D.Pairwise (· < ·)) {y : Int} (h : y ∈ D) : ∃ hi : D.countP (fun x => decide (x < y)) < D.length, D[D.countP (fun x => decide (x < y))] = y := by
  obtain ⟨i, hi, rfl⟩ := List.getElem_of_mem h
  have e := asc_count hs hi
  exact ⟨by rw [e]; exact hi, by simp only [e]⟩
def outQ (O : List A3) (p : A3) (idx q : Nat) : List A3 := if idx < q then O ++ [p] else O
theorem outQ_same {O : List A3} {p : A3} {idx q : Nat} (h : q ≠ idx) : outQ O p idx (q + 1) = outQ O p idx q := by
  unfold outQ
  by_cases e : idx < q
  · rw [if_pos e, if_pos (by omega)]
  · rw [if_neg e, if_neg (by omega)]
theorem outQ_hit (O : List A3) (p : A3) (idx : Nat) : outQ O p idx idx = O ∧ outQ O p idx (idx + 1) = O ++ [p] := by
  unfold outQ
  rw [if_neg (by omega), if_pos (by omega)]
  exact ⟨rfl, rfl⟩
theorem outQ_len {O : List A3} {p : A3} {idx q : Nat} : (outQ O p idx q).length ≤ O.length + 1 := by
  unfold outQ
  split <;> simp
set_option maxRecDepth 100000 in
set_option maxHeartbeats 4000000 in
theorem refPad_any (w : World) (A : Option Addr) (l : List A3) (cap : Nat) (size : Int) (hA : Acc w A l) (hn : l.length ≤ 300) :
    Calls Try.prog 19 #[.int .i64 size, .slice A l.length cap] w (PadP w (padB size l) (padOf size l)) := by
  refine cph fun R HR => ?_
  have HV := Lib.hid (right_any w A l cap size hA (by unfold maxLen; omega))
  have HL := Lib.hid hA
  clear hA
  cases hgood : goodB size l
  · have e : padB size l = false := by simp [padB, hgood]
    rw [e] at HR
    rw [hgood] at HV
    clear e
    go_enter Try.func19, Try.ntmps19
    go_wp2_with (go_at_call 30; refine HV.out.mono ?_)
    rintro e w1 ⟨rfl, hg⟩
    have HG := Lib.hid hg
    clear hg
    go_wp2_with fail
    exact HR.out _ _ (PadP.no HG.out)
  · obtain ⟨p1, p2, p3, p4⟩ := good_parts hgood
    have HOK := Lib.hid p4
    have HGD := Lib.hid hgood
    clear p3 p4
    rw [hgood] at HV
    clear hgood
    obtain ⟨i0, hi, hz0, hz1, hz2⟩ := info_parts info24
    have HI := Lib.hid (And.intro hi (And.intro hz0 (And.intro hz1 hz2)))
    clear hi hz0 hz1 hz2
    go_enter Try.func19, Try.ntmps19
    go_wp2_with (go_at_call 30; refine HV.out.mono ?_)
    rintro e w1 ⟨rfl, hg⟩
    have hln := lines_any w1 A l cap 1 (HL.out.grow hg) hn (by omega) (by omega) HOK.out
    rw [lnsL_one] at hln
    have HLN := Lib.hid hln
    have HG := Lib.hid hg
    clear hg hln HV
    go_wp2_with (go_at_call 38; refine HLN.out.mono ?_)
    rintro e w2 ⟨v, rfl, hown, hg2⟩
    have hd := dist_len (cellsL l)
    rw [cellsL_len] at hd
    have hmem : ∀ (k : Nat) (x : A3), l[k]? = some x → x.2.1 ∈ dist (cellsL l) := fun k x hx => dist_mem.2 (List.mem_map.2 ⟨x, List.mem_of_getElem? hx, rfl⟩)
    have HPB : Hid (padB size l = decide ((((dist (cellsL l)).length : Int) - 1) * size ≤ 2000)) := by show _ = _; unfold padB; rw [HGD.out]; rfl
    have HPO : Hid (l.map (padE size (dist (cellsL l))) = padOf size l) := rfl
    obtain ⟨A2, cap2, he, hints, _⟩ := ints_of_own hown
    subst he
    have H2 := Lib.hid (And.intro hints (And.intro (HG.out.trans hg2) (And.intro (dist_asc (cellsL l)) hmem)))
    clear hown hg2 HLN hints hmem HG HGD
    generalize dist (cellsL l) = D at H2 HPB HPO hd ⊢
    have hmb := sub_bd (d := D.length) (size := size) (by omega) p1 p2
    by_cases hbig : 2000 < ((D.length : Int) - 1) * size
    · have e : padB size l = false := by rw [HPB.out]; exact decide_eq_false (by omega)
      rw [e] at HR
      clear e
      go_wp2_with fail
      exact HR.out _ _ (PadP.no H2.out.2.1)
    · have e : padB size l = true := by rw [HPB.out]; exact decide_eq_true (by omega)
      rw [e] at HR
      clear e HPB
      go_wp2_with fail
      go_loopw [7, 8] (fun v i wr => ∃ k : Nat, k ≤ l.length ∧ i = .int .i64 k ∧ Hid (wr.ownsRow w2.heap.size 24 3 v k (accCells ((l.take k).map (padE size D))) ∧ Grow w2 wr)) (fun _ i _ => l.length - (intOf i).toNat)
      case atStart => exact ⟨0, by omega, rfl, World.ownsRow_nil _ _ _ _, Grow.refl _⟩
      case round =>
        obtain ⟨k, hk, rfl, HO⟩ := hrel
        by_cases hlt : k < l.length
        · obtain ⟨⟨x, y, z⟩, hx⟩ : ∃ x, l[k]? = some x := ⟨l[k], by simp [hlt]⟩
          have hki : (k : Int) < (l.length : Int) := by omega
          obtain ⟨hix, hiy⟩ := idx_ok H2.out.2.2.1 (H2.out.2.2.2 k _ hx)
          dsimp only at hix hiy
          have hO : ((l.take k).map (padE size D)).length = k := by simp; omega
          have hnx : (l.take (k + 1)).map (padE size D) = (l.take k).map (padE size D) ++ [(x, ((D.countP (fun a => decide (a < y)) : Nat) : Int) * size, z)] := by
            rw [take_snoc hx]; simp [padE]
          have HO1 := Lib.hid (show wr.ownsRow w2.heap.size 24 3 u7 ((l.take k).map (padE size D)).length (accCells ((l.take k).map (padE size D))) ∧ Grow w2 wr by rw [hO]; exact HO.out)
          have HX := Lib.hid (And.intro hx hnx)
          clear hx hnx HO
          generalize D.countP (fun a => decide (a < y)) = idx at hix hiy HX
          generalize (l.take k).map (padE size D) = O at HO1 HX hO
          have HIY := Lib.hid hiy
          clear hiy
          go_wp2_with fail
          go_loopw [7, 9] (fun v j wr => ∃ q : Nat, q ≤ D.length ∧ j = .int .i64 q ∧ Hid (wr.ownsRow w2.heap.size 24 3 v (outQ O (x, (idx : Int) * size, z) idx q).length (accCells (outQ O (x, (idx : Int) * size, z) idx q)) ∧ Grow w2 wr)) (fun _ j _ => D.length - (intOf j).toNat)
          case atStart => exact ⟨0, by omega, rfl, by unfold outQ; rw [if_neg (by omega)]; exact HO1.out⟩
          case round =>
            obtain ⟨q, hq, rfl, HQ⟩ := hrel
            by_cases hlq : q < D.length
            · have hqi : (q : Int) < (D.length : Int) := by omega
              obtain ⟨b, off, hAe, hacc⟩ := HL.out.resolve_left (by rintro rfl; simp at hlt)
              obtain ⟨c0, c1, c2⟩ := (hacc.grow (H2.out.2.1.trans HQ.out.2)) k _ HX.out.1
              subst hAe
              dsimp only at c0 c1 c2
              obtain ⟨b2, off2, hA2, hc⟩ := (H2.out.1.grow HQ.out.2).at_ hlq
              subst hA2
              have hit : (D[q] = y) ↔ q = idx := by
                constructor
                · intro h; exact asc_inj H2.out.2.2.1 hlq hix (h.trans HIY.out.symm)
                · intro h; subst h; exact HIY.out
              have HIT := Lib.hid hit
              clear hit hacc
              generalize D[q] = t at hc HIT
              by_cases hty : t = y
              · subst hty
                have hqx : q = idx := HIT.out.1 rfl
                subst hqx
                have e1 : (t == t) = true := by simp
                have hoh := outQ_hit O (x, (q : Int) * size, z) q
                have HQ1 : Hid (∀ n : Nat, ((wr.drewN n).drew).ownsRow w2.heap.size 24 3 u7 O.length (accCells O) ∧ Grow w2 wr) := by
                  show ∀ _, _
                  intro n
                  have := HQ.out
                  rw [hoh.1] at this
                  exact this
                have HOH := Lib.hid hoh.2
                have hmc := mul_bd (k := q) (size := size) (by omega) p1 p2
                have hw : Hid (IntKind.i64.wrap ((q : Int) * size) = (q : Int) * size) := by show _ = _; rw [IntKind.wrap_i64]; omega
                have hn63 : Hid (O.length + 1 ≤ maxLen) := by show _ ≤ _; unfold maxLen; omega
                have hO300 : O.length ≤ 300 := by omega
                have hbs : w2.heap.size ≤ wr.heap.size := HQ.out.2.size
                clear hoh HQ
                go_wp2_with fail
                go_quiet (fail)
                go_wp2_with fail
                go_region_law (refine step_append_own rfl (.tmp 44) (.tmp 59) 22 rfl w2.heap.size 24 i0 (.agg #[.int .i64 0, .int .i64 0, .int .i64 0]) 3 24 Try.underlying22 HI.out.1 HI.out.2.1 HI.out.2.2.1 HI.out.2.2.2 rfl (by decide) u7 O.length (accCells O) rfl ((HQ1.out _).1.alloc _) ⟨wr.heap.size, 0, none⟩ 1 1 [.int .i64 x, .int .i64 (IntKind.i64.wrap ((q : Int) * size)), .int .i64 z] rfl rfl (cells_new (wr.drewN _) [.int .i64 x, .int .i64 (IntKind.i64.wrap ((q : Int) * size)), .int .i64 z] 24) (by simp [Value.oneCell']) hn63.out (by omega) (by simp; omega) ?_; intro v1 w3 hown1 hgrow1 _ hat1)
                all_goals
                  have H7 : Hid (w3.ownsRow w2.heap.size 24 3 v1 (O ++ [(x, (q : Int) * size, z)]).length (accCells (O ++ [(x, (q : Int) * size, z)])) ∧ Grow w2 w3) := by
                    refine ⟨?_, (((HQ1.out 0).2.drewN _).drew.alloc _).grown hgrow1 (fun j hj => ((HQ1.out 0).1.lt j hj).1)⟩
                    rw [hw.out] at hown1
                    rw [accCells_append, List.length_append]
                    exact hown1
                  clear hown1 hgrow1 hat1
                all_goals go_wp2_with fail
                all_goals go_roundw
                all_goals first
                  | exact ⟨q + 1, by omega, by go_num, by rw [HOH.out]; exact H7.out⟩
                  | (simp [intOf] <;> omega)
              · have hne : q ≠ idx := fun h => hty (HIT.out.2 h)
                have e1 : (t == y) = false := by simp [hty]
                have hos := outQ_same (O := O) (p := (x, (idx : Int) * size, z)) hne
                have HQ1 := HQ
                rw [← hos] at HQ1
                clear hos HQ
                go_wp2_with fail
                go_quiet (fail)
                go_wp2_with fail
                go_roundw
                case rel => exact ⟨q + 1, by omega, by go_num, HQ1.out.1, HQ1.out.2.drewN _⟩
                case measure => simp [intOf] <;> omega
            · have hqe : q = D.length := by omega
              have hqi : ¬ (q : Int) < (D.length : Int) := by omega
              have HQ1 := HQ.out
              unfold outQ at HQ1
              rw [if_pos (by omega)] at HQ1
              have HQ2 := Lib.hid HQ1
              clear HQ HQ1 hqe
              go_wp2_with fail
              go_roundw
              case rel => exact ⟨k + 1, by omega, by go_num, by rw [HX.out.2, ← hO]; simpa using HQ2.out.1, HQ2.out.2⟩
              case measure => simp [intOf] <;> omega
        · obtain rfl : k = l.length := by omega
          have HO1 := HO.out
          rw [List.take_length, HPO.out] at HO1
          have hpl := padOf_len size l
          obtain ⟨A7, c7, he, ha7, _⟩ := acc_owns (by rw [hpl]; exact HO1.1)
          rw [hpl] at he
          subst he
          have HE := Lib.hid (And.intro ha7 (And.intro HO1.2 hpl))
          clear HO HO1 ha7 hpl
          go_wp2_with fail
          exact HR.out _ _ ⟨A7, c7, by simp [HE.out.2.2], HE.out.1, H2.out.2.1.trans HE.out.2.1⟩
end Go.Proofs.Ytabplbalacldfaa
