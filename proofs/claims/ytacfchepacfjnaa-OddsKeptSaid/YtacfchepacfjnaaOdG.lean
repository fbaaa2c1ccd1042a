/- The schedule, as the program makes it. -/
import Derived.Test.YtacfchepacfjnaaOdF
import Derived.StillTailTactics
import Derived.Deep.RegionLaw
set_option linter.unusedVariables false
set_option linter.unusedSimpArgs false
namespace Go.Proofs.Ytacfchepacfjnaa
open Go.RowKit Go.Kx Go.Maps Go.Sort Go.Shelf
def Cloned (w : World) (l : List Int) (e : Ending) (w' : World) : Prop := ∃ g cap, e = .returned (.slice (some ⟨g, 0, none⟩) l.length cap) ∧ w'.ownsRow w.heap.size 3 1 (.slice (some ⟨g, 0, none⟩) l.length cap) l.length (l.map (Value.int .i64)) ∧ Grow w w'
theorem clone_any {w : World} {A : Option Addr} {c : Nat} {l : List Int} (h : IntsAt w A l) (hn : 0 < l.length) (hl : l.length ≤ 1000000) : Calls Try.prog 45 #[.slice A l.length c] w (Cloned w l) := by
  obtain ⟨b, o, rfl, hc⟩ := h.resolve_left (by rintro rfl; simp at hn)
  refine (Try.slices_Clone_int b o l.length c l w (Nat.le_refl _) (by omega) (fun j hj => hc j _ (getD_of hj))).mono ?_
  rintro e w' ⟨v, rfl, hown, hne, hb⟩
  rw [List.take_length] at hown
  rcases hown.2 with ⟨h1, _⟩ | ⟨g, cap, cur, rfl, _⟩
  · exact absurd h1 hne
  · exact ⟨g, cap, rfl, hown, Grow.of_below hb⟩
def BoxOf (wr : World) (B7 B8 gL gN cL cN m : Nat) : Prop := Boxed wr B7 22 (.slice (some ⟨gL, 0, none⟩) m cL) ∧ Boxed wr B8 22 (.slice (some ⟨gN, 0, none⟩) m cN)
theorem BoxOf.setN {w wr : World} {B7 B8 gL gN cL cN m : Nat} {v : Value} {left now out : List Int} (h : BoxOf wr B7 B8 gL gN cL cN m) (hs : SchS w wr m gL gN cL cN v left now out) (j : Nat) (u : Value) : BoxOf (wr.setCell ⟨gN, j, none⟩ u) B7 B8 gL gN cL cN m := by
  have h1 := h.1.not_row (by decide) hs.rn
  have h2 := h.2.not_row (by decide) hs.rn
  simp only [Value.ownBlock, ne_eq, Option.some.injEq] at h1 h2
  exact ⟨(blk_set_other (a := ⟨gN, j, none⟩) h1 u).trans h.1, (blk_set_other (a := ⟨gN, j, none⟩) h2 u).trans h.2⟩
theorem BoxOf.setL {w wr : World} {B7 B8 gL gN cL cN m : Nat} {v : Value} {left now out : List Int} (h : BoxOf wr B7 B8 gL gN cL cN m) (hs : SchS w wr m gL gN cL cN v left now out) (j : Nat) (u : Value) : BoxOf (wr.setCell ⟨gL, j, none⟩ u) B7 B8 gL gN cL cN m := by
  have h1 := h.1.not_row (by decide) hs.rl
  have h2 := h.2.not_row (by decide) hs.rl
  simp only [Value.ownBlock, ne_eq, Option.some.injEq] at h1 h2
  exact ⟨(blk_set_other (a := ⟨gL, j, none⟩) h1 u).trans h.1, (blk_set_other (a := ⟨gL, j, none⟩) h2 u).trans h.2⟩
theorem BoxOf.app {w wr w1 : World} {B7 B8 gL gN cL cN m : Nat} {v : Value} {left now out : List Int} {tmp : Obj} (h : BoxOf wr B7 B8 gL gN cL cN m) (hs : SchS w wr m gL gN cL cN v left now out) (hgrow : (wr.alloc tmp).grownBy w1 v.ownBlock) : BoxOf w1 B7 B8 gL gN cL cN m :=
  ⟨(h.1.alloc tmp).kept hgrow (h.1.not_row (by decide) hs.ro), (h.2.alloc tmp).kept hgrow (h.2.not_row (by decide) hs.ro)⟩
set_option maxRecDepth 100000 in
set_option maxHeartbeats 4000000 in
theorem schedule_any {w : World} {A B C : Option Addr} {ca cb cc m : Nat} {cs ps chs : List Int} (h1 : IntsAt w A cs) (h2 : IntsAt w B ps) (h3 : IntsAt w C chs) (hv : ∀ x ∈ cs, 0 ≤ x ∧ x ≤ 6) (hn : 1 ≤ m) (hn4 : m ≤ 4) (hm1 : cs.length = m) (hm2 : ps.length = m) (hc : chs.length ≤ 2) :
    Calls Try.prog 38 #[.slice A m ca, .slice B m cb, .slice C chs.length cc] w (Made w (sched cs ps chs)) := by
  refine cph fun R HR => ?_
  have hsb := sum_bd hv
  have HC1 := Lib.hid (clone_any (c := ca) h1 (by omega) (by omega))
  have HC2f := Lib.hid (fun (w1 : World) (hg : Grow w w1) => clone_any (w := w1) (c := cb) (h2.grow hg) (by omega) (by omega))
  have HSf := Lib.hid (fun (w1 : World) (hg : Grow w w1) => sum_any (w := w1) (cap := ca) (h1.grow hg) hv (by omega))
  unfold Cloned at HC1 HC2f
  rw [hm1] at HC1 HSf hsb
  rw [hm2] at HC2f
  have HA := Lib.hid (And.intro h1 (And.intro h2 (And.intro h3 (And.intro hv (And.intro hm1 hm2)))))
  clear h1 h2 h3 hv hm1 hm2
  obtain ⟨i0, hi, hz0, hz1, hz2⟩ := info_parts info3x
  have HI := Lib.hid (And.intro hi (And.intro hz0 (And.intro hz1 hz2)))
  clear hi hz0 hz1 hz2
  go_enter Try.func38, Try.ntmps38
  go_wp2_with (go_at_call 45; (with_reducible refine HC1.out.mono ?_))
  rintro e w1 ⟨gL, cL, rfl, hr1, hg1⟩
  have HC2 := Lib.hid (HC2f.out w1 hg1)
  have H1 := Lib.hid (And.intro hr1 hg1)
  clear hr1 hg1 HC1 HC2f
  go_wp2_with (go_at_call 45; (with_reducible refine HC2.out.mono ?_))
  rintro e w2 ⟨gN, cN, rfl, hr2, hg2⟩
  have H2 := Lib.hid (And.intro hr2 hg2)
  clear hr2 hg2 HC2
  have HS := Lib.hid (HSf.out ((w2.alloc (.cells #[.slice (some ⟨gL, 0, none⟩) m cL] 22)).alloc (.cells #[.slice (some ⟨gN, 0, none⟩) m cN] 22)) (((H1.out.2.trans H2.out.2).alloc _).alloc _))
  go_wp2_with (go_at_call 35; (with_reducible refine HS.out.mono ?_); rintro e w' ⟨rfl, rfl⟩)
  have hgLN : gL ≠ gN := by
    have a := (H1.out.1.lt gL (by simp [Value.ownBlock])).2
    have b := (H2.out.1.lt gN (by simp [Value.ownBlock])).1
    omega
  have hs0 : SchS w ((w2.alloc (.cells #[.slice (some ⟨gL, 0, none⟩) m cL] 22)).alloc (.cells #[.slice (some ⟨gN, 0, none⟩) m cN] 22)) m gL gN cL cN (.slice none 0 0) cs ps [] :=
    ((⟨owns_grow H1.out.1 H2.out.2, own_base_le H2.out.1 H1.out.2.size, World.ownsRow_nil _ _ _ _, hgLN, by simp [Value.ownBlock], by simp [Value.ownBlock], H1.out.2.trans H2.out.2⟩ : SchS w w2 m gL gN cL cN (.slice none 0 0) cs ps []).alloc _).alloc _
  have hb0 : BoxOf ((w2.alloc (.cells #[.slice (some ⟨gL, 0, none⟩) m cL] 22)).alloc (.cells #[.slice (some ⟨gN, 0, none⟩) m cN] 22)) w2.heap.size (w2.heap.size + 1) gL gN cL cN m := by
    refine ⟨(Boxed.new w2 22 _).alloc _, ?_⟩
    have := Boxed.new (w2.alloc (.cells #[.slice (some ⟨gL, 0, none⟩) m cL] 22)) 22 (.slice (some ⟨gN, 0, none⟩) m cN)
    rwa [World.size_alloc] at this
  have H0 := Lib.hid (And.intro hs0 hb0)
  clear hs0 hb0 hgLN HS
  generalize w2.heap.size = B7 at H0 ⊢
  generalize ((w2.alloc (.cells #[.slice (some ⟨gL, 0, none⟩) m cL] 22)).alloc (.cells #[.slice (some ⟨gN, 0, none⟩) m cN] 22)) = W0 at H0 ⊢
  go_loopw [10, 22] (fun v i wr => ∃ k : Nat, (k : Int) ≤ cs.sum ∧ i = .int .i64 k ∧ Hid (SchS w wr m gL gN cL cN v (schK cs ps chs k).1 (schK cs ps chs k).2.1 (schK cs ps chs k).2.2 ∧ BoxOf wr B7 (B7 + 1) gL gN cL cN m)) (fun _ i _ => 100 - (intOf i).toNat)
  case atStart => exact ⟨0, by omega, rfl, H0.out⟩
  case round =>
    obtain ⟨k, hk, rfl, HX⟩ := hrel
    by_cases hlt : (k : Int) < cs.sum
    · have hI := schI_at (ps := ps) (chs := chs) HA.out.2.2.2.1 k (by omega)
      obtain ⟨L, N, O, hs⟩ : ∃ L N O, schK cs ps chs k = (L, N, O) := ⟨_, _, _, rfl⟩
      have hnext : schK cs ps chs (k + 1) = schStep chs k (L, N, O) := by rw [← hs]; rfl
      have HX1 := HX.out
      rw [hs] at HX1 hI
      have HX2 := Lib.hid (And.intro HX1 (And.intro hI hnext))
      have hkk : k ≤ 24 := by omega
      clear HX HX1 hI hnext hs
      go_wp2_with fail
      obtain ⟨wo, rfl⟩ : ∃ wo : World, wo = wr := ⟨_, rfl⟩
      go_loopw [27] (fun i wr => ∃ c : Nat, c ≤ chs.length ∧ i = .int .i64 c ∧ Hid (SchS w wr m gL gN cL cN u10 L (chgK k L chs N c) O ∧ BoxOf wr B7 (B7 + 1) gL gN cL cN m)) (fun i _ => chs.length - (intOf i).toNat)
      case atStart => exact ⟨0, by omega, rfl, HX2.out.1⟩
      case round =>
        obtain ⟨c, hcl, rfl, HY⟩ := hrel
        by_cases hltc : c < chs.length
        · have hci : (c : Int) < (chs.length : Int) := by omega
          obtain ⟨b3, o3, rfl, hcz⟩ := (HA.out.2.2.1.grow HY.out.1.gr).at_ hltc
          obtain ⟨z, hz⟩ : ∃ z, z = chs[c] := ⟨_, rfl⟩
          rw [← hz] at hcz
          have hc1 : c ≤ 2 := by omega
          obtain ⟨n1, hn1⟩ : ∃ n1, n1 = chgK k L chs N c := ⟨_, rfl⟩
          have hstep : chgK k L chs N (c + 1) = if z = k then n1.set (bst L n1).toNat (-(c : Int)) else n1 := by
            rw [hn1, hz]
            show (if chs[c]?.getD 0 = (k : Int) then _ else _) = _
            rw [List.getElem?_eq_getElem hltc, Option.getD_some]
          have HY1 := HY.out
          rw [← hn1] at HY1
          have hl1 : n1.length = m := by rw [hn1, chgK_len]; exact HX2.out.2.1.l2.trans HA.out.2.2.2.2.2
          have hl0 : L.length = m := HX2.out.2.1.l1.trans HA.out.2.2.2.2.1
          have hbo := bst_ok (l := L) n1 (fun x hx => (HX2.out.2.1.v x hx).1) (by rw [HX2.out.2.1.s]; omega)
          clear HY hz hn1
          by_cases hzk : z = (k : Int)
          · subst hzk
            rw [if_pos rfl] at hstep
            have HCH := Lib.hid (fun (q : Nat) => chosen_any (w := wr.drewN q) (c := cL) (d := cN) (A := some ⟨gL, 0, none⟩) (B := some ⟨gN, 0, none⟩) (l := L) (p := n1) (Bl := B7) (Bn := B7 + 1) (by rw [hl0]; exact HY1.2.1) (by rw [hl1]; exact HY1.2.2) (own_ints HY1.1.rl) (own_ints HY1.1.rn) (by omega) (by omega))
            have hbx := HY1.2.2.cell
            obtain ⟨t, ht⟩ := Int.eq_ofNat_of_zero_le hbo.1
            have htm : t < m := by omega
            rw [ht] at HCH hstep
            rw [Int.toNat_natCast] at hstep
            obtain ⟨y, htc⟩ : ∃ y, wr.cell? ⟨gN, t, none⟩ = some (.int .i64 y) := ⟨_, own_cell HY1.1.rn (j := t) (by omega)⟩
            have htf := HY1.1.rn.frozenAt t
            have HZ := Lib.hid (And.intro HY1 hstep)
            have htmi : (t : Int) < (m : Int) := by omega
            clear HY1 hstep hbo hl1 hl0 ht
            go_wp2_with fail
            go_region_with (go_at_call 58; refine (HCH.out _).mono ?_; rintro e w' ⟨rfl, q, rfl⟩)
            have hw : IntKind.i64.wrap (-(c : Int)) = -(c : Int) := by rw [IntKind.wrap_i64]; omega
            all_goals
              first | rw [hw] | skip
              go_wp2_with fail
              go_roundw
              case rel => exact ⟨c + 1, by omega, by go_num, by rw [HZ.out.2]; exact ⟨(HZ.out.1.1.drewN _).setN t _, BoxOf.setN HZ.out.1.2 HZ.out.1.1 t _⟩⟩
              case measure => simp [intOf]; omega
          · rw [if_neg hzk] at hstep
            have HZ := Lib.hid (And.intro HY1 hstep)
            have hzk' : (z == (k : Int)) = false := by simp [hzk]
            clear HY1 hstep hbo hl1 hl0
            go_wp2_with fail
            go_roundw
            case rel => exact ⟨c + 1, by omega, by go_num, by rw [HZ.out.2]; exact HZ.out.1⟩
            case measure => simp [intOf]; omega
        · have hce : c = chs.length := by omega
          rw [hce] at HY
          have hci : ¬ (c : Int) < (chs.length : Int) := by omega
          obtain ⟨n1, hn1⟩ : ∃ n1, n1 = chgK k L chs N chs.length := ⟨_, rfl⟩
          have HY1 := HY.out
          rw [← hn1] at HY1
          have hl1 : n1.length = m := by rw [hn1, chgK_len]; exact HX2.out.2.1.l2.trans HA.out.2.2.2.2.2
          have hl0 : L.length = m := HX2.out.2.1.l1.trans HA.out.2.2.2.2.1
          have hbo := bst_ok (l := L) n1 (fun x hx => (HX2.out.2.1.v x hx).1) (by rw [HX2.out.2.1.s]; omega)
          have hhas : 0 < L[(bst L n1).toNat]?.getD 0 := bstK_has (l := L) (p := n1) L.length hbo.1
          have hnx : schStep chs k (L, N, O) = (L.set (bst L n1).toNat (L[(bst L n1).toNat]?.getD 0 - 1), n1, O ++ [bst L n1]) := by
            show (L.set (bst L (chgK k L chs N chs.length)).toNat _, chgK k L chs N chs.length, _) = _
            rw [← hn1]
          have hnx2 := HX2.out.2.2.trans hnx
          clear HY hn1 hnx
          have HCH := Lib.hid (chosen_any (w := wr) (c := cL) (d := cN) (A := some ⟨gL, 0, none⟩) (B := some ⟨gN, 0, none⟩) (l := L) (p := n1) (Bl := B7) (Bn := B7 + 1) (by rw [hl0]; exact HY1.2.1) (by rw [hl1]; exact HY1.2.2) (own_ints HY1.1.rl) (own_ints HY1.1.rn) (by omega) (by omega))
          have hbx := HY1.2.1.cell
          obtain ⟨t, ht⟩ := Int.eq_ofNat_of_zero_le hbo.1
          have htm : t < m := by omega
          have htL : t < L.length := by omega
          rw [ht] at HCH hnx2 hhas
          rw [Int.toNat_natCast, List.getElem?_eq_getElem htL, Option.getD_some] at hnx2 hhas
          have hxb := HX2.out.2.1.v L[t] (List.getElem_mem htL)
          have htc := own_cell HY1.1.rl (j := t) htL
          obtain ⟨x, hx⟩ : ∃ x, x = L[t] := ⟨_, rfl⟩
          rw [← hx] at htc hnx2 hxb hhas
          have htf := HY1.1.rl.frozenAt t
          have HZ := Lib.hid (And.intro HY1 (And.intro hnx2 HX2.out.2.1.l3))
          have htmi : (t : Int) < (m : Int) := by omega
          have hx0 := hxb.2
          clear HY1 hnx2 hbo hl1 hl0 ht hxb hx htL hce
          have hOl := HX2.out.2.1.l3
          have HO := Lib.hid hOl
          have hgs := HZ.out.1.1.gr.size
          clear hOl
          go_wp2_with (first | (go_at_call 58; refine HCH.out.mono ?_; rintro e w' ⟨rfl, q, rfl⟩) | (at_builtin; refine wpList_append_own_at _ rfl (.tmp 50) (.tmp 52) 22 rfl w.heap.size 3 i0 (.int .i64 0) 1 8 Try.underlying22 HI.out.1 HI.out.2.1 HI.out.2.2.1 HI.out.2.2.2 rfl (by decide) u10 O.length (O.map (Value.int .i64)) rfl (((HZ.out.1.1.drewN q).setL t (x - 1)).ro.alloc (.cells #[.int .i64 (t : Int)] 3)) ⟨wr.heap.size, 0, none⟩ 1 1 [.int .i64 (t : Int)] rfl rfl ?c2 ?c3 ?c4 ?c5 ?c6 ?_))
          case c3 => simp [Value.oneCell']
          case c4 => unfold maxLen; have := HO.out; omega
          case c5 => have := HO.out; omega
          case c6 => simp; omega
          case c2 =>
            have := cell_one_new ((wr.drewN q).setCell ⟨gL, t, none⟩ (.int .i64 (x - 1))) (.int .i64 (t : Int)) 3
            simpa using this
          intro v' w3 hown hgrow _ hat
          have hS3 := ((HZ.out.1.1.drewN q).setL t (x - 1)).app hown hgrow (by simpa using hat)
          have hB3 := BoxOf.app (BoxOf.setL (wr := wr.drewN q) HZ.out.1.2 (HZ.out.1.1.drewN q) t (.int .i64 (x - 1))) ((HZ.out.1.1.drewN q).setL t (x - 1)) hgrow
          have H7 := Lib.hid (And.intro hS3 hB3)
          clear hown hgrow hat hS3 hB3
          go_wp2_with fail
          go_roundw
          case rel => exact ⟨k + 1, by omega, by go_num, by rw [HZ.out.2.1]; exact H7.out⟩
          case measure => simp [intOf]; omega
    · have hks : (k : Int) = cs.sum := by omega
      have hlt' : ¬ (k : Int) < cs.sum := hlt
      have hO : (schK cs ps chs k).2.2 = sched cs ps chs := by unfold sched; rw [← hks, Int.toNat_natCast]
      have HX2 := Lib.hid (And.intro HX.out.1 hO)
      clear hlt hks hO HX
      go_wp2_with fail
      refine HR.out _ _ ⟨_, rfl, ?_, HX2.out.1.gr⟩
      have := HX2.out.1.ro
      rw [HX2.out.2] at this
      exact this
end Go.Proofs.Ytacfchepacfjnaa
