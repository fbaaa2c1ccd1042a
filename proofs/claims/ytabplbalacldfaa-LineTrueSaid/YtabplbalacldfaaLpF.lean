/- The contract of Pad, for every size and every list of accesses that memory holds: the walk. -/
import Derived.Test.YtabplbalacldfaaLpE
set_option linter.unusedVariables false
set_option linter.unusedSimpArgs false
namespace Go.Proofs.Ytabplbalacldfaa
open Go.RowKit Go.Kx Go.Maps Go.Sort Go.Shelf
theorem cellsL_len (l : List A3) : (cellsL l).length = l.length := by simp [cellsL]
theorem padOf_len (size : Int) (l : List A3) : (padOf size l).length = l.length := by simp [padOf]
theorem sub_bd {d : Nat} {size : Int} (hd : d ≤ 2000) (h1 : 1 ≤ size) (h16 : size ≤ 16) : -16 ≤ ((d : Int) - 1) * size ∧ ((d : Int) - 1) * size ≤ 32000 := by
  by_cases h : d = 0
  · subst h; simp; omega
  · have a : 0 ≤ ((d : Int) - 1) * size := Int.mul_nonneg (by omega) (by omega)
    have b : ((d : Int) - 1) * size ≤ 2000 * 16 := Int.mul_le_mul (by omega) h16 (by omega) (by omega)
    omega
theorem acc_row {w : World} {base g cap n : Nat} {l : List A3} (h : w.ownsRow base 24 3 (.slice (some ⟨g, 0, none⟩) n cap) n (accCells l)) (hn : n = l.length) : Acc w (some ⟨g, 0, none⟩) l := by
  subst hn
  obtain ⟨A, c, he, ha, _⟩ := acc_owns h
  cases he
  exact ha
theorem acc_y {w : World} {g : Nat} {l : List A3} (h : Acc w (some ⟨g, 0, none⟩) l) {k : Nat} {x : A3} (hx : l[k]? = some x) : w.cell? ⟨g, k * 3 + 1, none⟩ = some (.int .i64 x.2.1) := by
  rcases h with rfl | ⟨b, off, he, h⟩
  · simp at hx
  · cases he
    have := (h k x hx).2.1
    simpa using this
def FoundP (w : World) (D : List Int) (y : Int) (e : Ending) (w' : World) : Prop := ∃ bq q, e = .returned (.tuple #[.int .i64 (D.countP (fun x => decide (x < y)) : Nat), .bool bq]) ∧ w' = w.drewN q
theorem found_any {w : World} {g c : Nat} {D : List Int} (y : Int) (h : IntsAt w (some ⟨g, 0, none⟩) D) (hs : D.Pairwise (· < ·)) (hn : D.length ≤ 2000) :
    Calls Try.prog 37 #[.slice (some ⟨g, 0, none⟩) D.length c, .int .i64 y] w (FoundP w D y) := by
  refine (Try.slices_BinarySearch_int g 0 D.length c D y w (Nat.le_refl _) (by omega) (fun j hj => ?_) (by rw [List.take_length]; exact hs.imp fun h => by omega)).mono ?_
  · rcases h with rfl | ⟨b, off, he, h⟩
    · simp at hj
    · cases he
      have := h j (D[j]) (by simp)
      rw [this]
      simp [List.getD, hj]
  · rintro e w' ⟨rfl, q, rfl⟩
    exact ⟨_, q, by rw [List.take_length], rfl⟩
set_option maxRecDepth 100000 in
set_option maxHeartbeats 4000000 in
theorem pad_any (w : World) (A : Option Addr) (l : List A3) (cap : Nat) (size : Int) (hA : Arg w A l cap) (hn : l.length ≤ 300) :
    Calls Try.prog 18 #[.int .i64 size, .slice A l.length cap] w (PadP w (padB size l) (padOf size l)) := by
  refine cph fun R HR => ?_
  have HV := fun wx (g : Grow w wx) => Lib.hid (valid_any wx A l cap (hA.acc.grow g) (by unfold maxLen; omega))
  have HL := Lib.hid hA
  clear hA
  cases hs : (decide (1 ≤ size) && decide (size ≤ 16))
  · have e : padB size l = false := by simp [padB, goodB, hs]
    rw [e] at HR
    clear e
    go_enter Try.func18, Try.ntmps18
    go_wp2_with (go_at_call 27; refine (isSize_any _ _).mono ?_; rintro e w' ⟨rfl, rfl⟩)
    exact HR.out _ _ (PadP.no (Grow.refl _))
  · cases hv : okL l
    · have e : padB size l = false := by simp [padB, goodB, hv]
      rw [e] at HR
      clear e
      go_enter Try.func18, Try.ntmps18
      go_wp2_with (first | (go_at_call 27; refine (isSize_any _ _).mono ?_; rintro e w' ⟨rfl, rfl⟩) | (go_at_call 15; refine (HV _ (Grow.refl _)).out.mono ?_; rintro e w1 ⟨rfl, hg⟩))
      exact HR.out _ _ (PadP.no hg)
    · have hg0 : goodB size l = true := by simp [goodB, hs, hv]
      have HG := Lib.hid hg0
      clear hg0
      obtain ⟨i0, hi, hz0, hz1, hz2⟩ := info_parts info3x
      have HI := Lib.hid (And.intro hi (And.intro hz0 (And.intro hz1 hz2)))
      clear hi hz0 hz1 hz2
      go_enter Try.func18, Try.ntmps18
      go_wp2_with (first | (go_at_call 27; refine (isSize_any _ _).mono ?_; rintro e w' ⟨rfl, rfl⟩) | (go_at_call 15; refine (HV _ (Grow.refl _)).out.mono ?_))
      rintro e w1 ⟨rfl, hg⟩
      have H1 := Lib.hid hg
      clear hg HV hs
      obtain ⟨p1, p2, p3, p4⟩ := good_parts HG.out
      clear p3 p4
      by_cases h0 : l = []
      · subst h0
        have hpb : padB size [] = true := by
          unfold padB; rw [HG.out]
          simp [cellsL, dist, srt, Lib.compact, Lib.compactUpTo]
          omega
        rw [hpb] at HR
        have HCL : Hid (∀ W : World, Grow w W → Calls Try.prog 36 #[.slice A 0 cap] W (CloneP W [])) := fun W g => clone3_any W A [] cap (HL.out.grow g) (by simp)
        have hz : ((0 : Nat) : Int) = 0 := rfl
        clear hpb
        simp only [List.length_nil]
        go_wp2_with fail
        refine wp_loop_once ?_
        go_wp2_with (first | (go_at_call 34; refine (Try.slices_Sort_int_none none 0 _).mono ?_; rintro e w' ⟨rfl, rfl⟩) | (go_at_call 35; refine (Try.slices_Compact_int_empty none 0 _).mono ?_; rintro e w' ⟨rfl, rfl⟩) | (go_at_call 36; refine (HCL.out _ H1.out).mono ?_))
        rintro e w5 ⟨v, rfl, hown, hg5⟩
        obtain ⟨A5, c5, rfl, ha5, _⟩ := acc_owns hown
        have H5 := Lib.hid (H1.out.trans hg5)
        clear hown ha5 hg5
        simp only [List.length_nil]
        go_wp2_with fail
        refine wp_loop_once ?_
        go_wp2_with fail
        exact HR.out _ _ ⟨A5, c5, rfl, .inl rfl, H5.out⟩
      · have hpos : 0 < l.length := by cases l with | nil => exact absurd rfl h0 | cons a l => simp
        obtain ⟨b, off, rfl, hacc⟩ := HL.out.acc.resolve_left h0
        have HA := Lib.hid hacc
        clear hacc h0
        go_wp2_with fail
        go_loopw [6, 23] (fun v i wr => ∃ k : Nat, k ≤ l.length ∧ i = .int .i64 k ∧ Hid (wr.ownsRow w.heap.size 3 1 v k ((cellsL (l.take k)).map (Value.int .i64)) ∧ Grow w wr)) (fun _ i _ => l.length - (intOf i).toNat)
        case atStart => exact ⟨0, by omega, rfl, World.ownsRow_nil _ _ _ _, H1.out⟩
        case round =>
          obtain ⟨k, hk, rfl, HO⟩ := hrel
          by_cases hlt : k < l.length
          · obtain ⟨⟨x, y, z⟩, hx⟩ : ∃ x, l[k]? = some x := ⟨l[k], by simp [hlt]⟩
            obtain ⟨c0, c1, c2⟩ := (HA.out.grow HO.out.2) k _ hx
            dsimp only at c0 c1 c2
            have hki : (k : Int) < (l.length : Int) := by omega
            have hgs := HO.out.2.size
            have HX := Lib.hid hx
            clear hx
            go_wp2_with (at_builtin; refine wpList_append_own_at _ rfl (.tmp 27) (.tmp 30) 44 rfl w.heap.size 3 i0 (.int .i64 0) 1 8 Try.underlying44 HI.out.1 HI.out.2.1 HI.out.2.2.1 HI.out.2.2.2 rfl (by decide) _ _ _ rfl ((HO.out.1.alloc _).alloc _) ⟨wr.heap.size + 1, 0, none⟩ 1 1 [.int .i64 y] rfl rfl ?c2 (by simp [Value.oneCell']) (by unfold maxLen; omega) (by omega) (by simp; omega) ?_)
            case c2 =>
              have := cell_one_new (wr.alloc (Obj.cells #[Value.int IntKind.i64 x, Value.int IntKind.i64 y, Value.int IntKind.i64 z] 24)) (.int .i64 y) 3
              rw [size_alloc] at this
              exact this
            intro v' w3 hown hgrow _ hat
            have H7 : Hid (w3.ownsRow w.heap.size 3 1 v' (k + 1) ((cellsL (l.take (k + 1))).map (Value.int .i64)) ∧ Grow w w3) := by
              refine ⟨?_, ((HO.out.2.alloc _).alloc _).grown hgrow (fun j e => (HO.out.1.lt j e).1)⟩
              have e : cellsL (l.take (k + 1)) = cellsL (l.take k) ++ [y] := by
                rw [take_snoc HX.out]; simp [cellsL]
              rw [e]
              simpa using hown
            clear hown hgrow hat
            go_wp2_with fail
            go_roundw
            case rel => exact ⟨k + 1, by omega, by go_num, H7.out⟩
            case measure => simp [intOf]; omega
          · obtain rfl : k = l.length := by omega
            have hrow := HO.out.1
            have hgr := HO.out.2
            rw [List.take_length] at hrow
            rcases hrow.2 with ⟨rfl, hz⟩ | ⟨gb, cap2, cur, rfl, hbase, hgb, r1, r2, r3, r4⟩
            · omega
            · have hcl := cellsL_len l
              have hH : Holds (Value.int .i64) wr gb 0 (cellsL l).toArray := holds_of_block_i hgb (by rw [hcl]; simpa using r4)
              have hgl : gb < wr.heap.size := (Array.getElem?_eq_some_iff.1 hgb).1
              have cS := Try.slices_Sort_int gb 0 cap2 (cellsL l) wr hH hgl (by omega)
              rw [hcl] at cS
              have CS := Lib.hid cS
              have HB := Lib.hid (And.intro hbase (And.intro hgb (And.intro r1 (And.intro r2 (And.intro r3 (And.intro hgr hcl))))))
              clear cS hrow hH hbase hgb r1 r2 r3 r4 hgr hcl HO hgl
              go_wp2_with (go_at_call 34; refine CS.out.mono ?_)
              rintro e w2 ⟨rfl, nn, os, hw2⟩
              obtain ⟨hbase, hgb, r1, r2, r3, hgr, hcl⟩ := HB.out
              have hrow2 : w2.ownsRow w.heap.size 3 1 (.slice (some ⟨gb, 0, none⟩) l.length cap2) l.length ((srt (cellsL l)).map (Value.int .i64)) := by
                rw [hw2]
                have := ownsRow_sorted_i (w := wr) (base := w.heap.size) (n := nn) (os := os) (ss := cellsL l) (ts := srt (cellsL l)) (by rw [srt_len]) hbase hgb (by omega) r2 r3
                rw [hcl] at this
                exact this
              have hg2 : Grow w w2 := by rw [hw2]; exact hgr.grown (grownBy_sorted_i _) (fun j hj => by cases hj; exact hbase)
              clear hbase hgb r1 r2 r3 hgr hw2 HB CS
              rcases hrow2.2 with ⟨h, _⟩ | ⟨gb', cap', cur2, he, hbase, hgb, r1, r2, r3, r4⟩
              · cases h
              cases he
              have hsl : (srt (cellsL l)).length = l.length := by rw [srt_len, hcl]
              have hH2 : Holds (Value.int .i64) w2 gb 0 (srt (cellsL l)).toArray := holds_of_block_i hgb (by rw [hsl]; simpa using r4)
              have cC := Try.slices_Compact_int gb 0 cap2 (srt (cellsL l)) w2 hH2 (by omega) (by omega)
              rw [hsl] at cC
              have CC := Lib.hid cC
              have HB := Lib.hid (And.intro hbase (And.intro hgb (And.intro r1 (And.intro r2 (And.intro r3 (And.intro hg2 hsl))))))
              clear cC hrow2 hH2 hbase hgb r1 r2 r3 r4 hg2 hsl hcl
              go_wp2_with (go_at_call 35; refine CC.out.mono ?_)
              rintro e w3 ⟨rfl, q, hw3⟩
              obtain ⟨hbase, hgb, r1, r2, r3, hg2, hsl⟩ := HB.out
              have hcr := compact_row (w := w2) (base := w.heap.size) (n := q) (ss := srt (cellsL l)) hbase hgb (by omega) r2 r3
              rw [hsl, ← hw3] at hcr
              have hg3 : Grow w w3 := hg2.then hcr.2 (fun i hi hs => by omega)
              have hd := dist_len (cellsL l)
              rw [cellsL_len] at hd
              have H3 := Lib.hid (And.intro hcr.1 (And.intro hg3 (dist_asc (cellsL l))))
              have HPB : Hid (padB size l = decide ((((dist (cellsL l)).length : Int) - 1) * size ≤ 2000)) := by show _ = _; unfold padB; rw [HG.out]; rfl
              have HPK : Hid (padK size (dist (cellsL l)) l l.length = padOf size l) := padK_all size l
              clear hbase hgb r1 r2 r3 hg2 hsl hcr hg3 hw3 HB CC
              have hDe : Lib.compact (srt (cellsL l)) = dist (cellsL l) := rfl
              rw [hDe] at H3 ⊢
              generalize dist (cellsL l) = D at H3 HPB HPK hd ⊢
              clear hDe
              have hmb := sub_bd (d := D.length) (size := size) (by omega) p1 p2
              by_cases hbig : 2000 < ((D.length : Int) - 1) * size
              · have e : padB size l = false := by rw [HPB.out]; exact decide_eq_false (by omega)
                rw [e] at HR
                clear e
                go_wp2_with fail
                exact HR.out _ _ (PadP.no H3.out.2.1)
              · have e : padB size l = true := by rw [HPB.out]; exact decide_eq_true (by omega)
                rw [e] at HR
                clear e HPB
                have HCL := Lib.hid (clone3_any w3 (some ⟨b, off, none⟩) l cap (HL.out.grow H3.out.2.1) (by omega))
                go_wp2_with (go_at_call 36; refine HCL.out.mono ?_)
                rintro e w4 ⟨v4, rfl, hown4, hg4⟩
                rcases hown4.2 with ⟨_, hz⟩ | ⟨g4, cap4, cur4, rfl, _⟩
                · omega
                have H4 := Lib.hid (And.intro hown4 hg4)
                clear hown4 hg4 HCL
                go_wp2_with fail
                go_loopw [47] (fun i wr => ∃ k : Nat, k ≤ l.length ∧ i = .int .i64 k ∧ Hid (wr.ownsRow w3.heap.size 24 3 (.slice (some ⟨g4, 0, none⟩) l.length cap4) l.length (accCells (padK size D l k)) ∧ Grow w3 wr)) (fun i _ => l.length - (intOf i).toNat)
                case atStart => exact ⟨0, by omega, rfl, by rw [padK_zero]; exact H4.out.1, H4.out.2⟩
                case round =>
                  obtain ⟨k, hk, rfl, HO⟩ := hrel
                  by_cases hlt : k < l.length
                  · have hki : (k : Int) < (l.length : Int) := by omega
                    have hset := padK_set (size := size) (D := D) hlt
                    have hat := padK_at (size := size) (D := D) hlt
                    generalize l[k] = x at hset hat
                    have hac := acc_y (acc_row HO.out.1 (padK_len size D l k).symm) hat
                    have hfz := HO.out.1.frozenAt (k * 3 + 1)
                    have HF := Lib.hid (found_any (w := wr) (c := cap2) x.2.1 (H3.out.1.grow HO.out.2) H3.out.2.2 (by omega))
                    have hcb := count_bd D x.2.1
                    unfold FoundP at HF
                    generalize x.2.1 = y at hset hac HF hcb
                    generalize D.countP (fun x => decide (x < y)) = c at hset HF hcb
                    have hmc := mul_bd (k := c) (size := size) (by omega) p1 p2
                    have HZ := Lib.hid hset
                    clear hset hat
                    go_wp2_with (go_at_call 37; refine HF.out.mono ?_; rintro e w' ⟨bq, q, rfl, rfl⟩)
                    go_roundw
                    case rel => exact ⟨k + 1, by omega, by go_num, by rw [← HZ.out]; exact (World.ownsRow.stored (w := wr.drewN _) HO.out.1 (k * 3 + 1) _).1, (HO.out.2.drewN _).setCell _ _ (H4.out.1.lt g4 (by simp [Value.ownBlock])).1⟩
                    case measure => simp [intOf]; omega
                  · obtain rfl : k = l.length := by omega
                    go_wp2_with fail
                    refine HR.out _ _ ⟨some ⟨g4, 0, none⟩, cap4, ?_, ?_, H3.out.2.1.trans HO.out.2⟩
                    · simp [padOf_len]
                    · have := acc_row HO.out.1 (padK_len size D l l.length).symm
                      rw [HPK.out] at this
                      simpa using this
end Go.Proofs.Ytabplbalacldfaa
