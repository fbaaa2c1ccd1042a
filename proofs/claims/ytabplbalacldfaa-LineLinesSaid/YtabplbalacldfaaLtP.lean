/- The contract of the reference's Lines, for every size and every list of accesses that memory holds. -/
import Derived.Test.YtabplbalacldfaaLtO
import Derived.Test.YtabplbalacldfaaLRefMoves
set_option linter.unusedVariables false
set_option linter.unusedSimpArgs false
namespace Go.Proofs.Ytabplbalacldfaa
open Go.RowKit Go.Kx
theorem judge_mv {size : Int} {l : List A3} (hok : ∀ x ∈ l, bad x = false) {k : Nat} {x : A3} (hx : l[k]? = some x) : (mvs size l)[k]? = some (judgeOf size l k x).1 := by
  simp [mvs, judge_eq hok hx]
set_option maxRecDepth 100000 in
set_option maxHeartbeats 8000000 in
theorem refLines_any (w : World) (A : Option Addr) (l : List A3) (cap : Nat) (size : Int) (hA : Acc w A l) (hn : l.length ≤ 300) :
    Calls Try.prog 24 #[.int .i64 size, .slice A l.length cap] w (PairsE w (goodB size l) (lnP size l)) := by
  refine cph fun R HR => ?_
  have HV := Lib.hid (right_any w A l cap size hA (by unfold maxLen; omega))
  have HL := Lib.hid hA
  clear hA
  cases hgood : goodB size l
  · rw [hgood] at HR
    rw [hgood] at HV
    go_enter Try.func24, Try.ntmps24
    go_wp2_with (go_at_call 30; refine HV.out.mono ?_)
    rintro e w1 ⟨rfl, hg⟩
    have HG := Lib.hid hg
    clear hg
    go_wp2_with fail
    exact HR.out _ _ (PairsE.no HG.out)
  · obtain ⟨p1, p2, p3, p4⟩ := good_parts hgood
    have HOK := Lib.hid p4
    clear p3 p4
    rw [hgood] at HV
    rw [hgood] at HR
    clear hgood
    obtain ⟨i0, hi, hz0, hz1, hz2⟩ := info_parts info55
    have HI := Lib.hid (And.intro hi (And.intro hz0 (And.intro hz1 hz2)))
    clear hi hz0 hz1 hz2
    go_enter Try.func24, Try.ntmps24
    go_wp2_with (go_at_call 30; refine HV.out.mono ?_)
    rintro e w1 ⟨rfl, hg⟩
    have HLN := Lib.hid (lines_any w1 A l cap size (HL.out.grow hg) hn p1 p2 HOK.out)
    have HG := Lib.hid hg
    clear hg HV
    go_wp2_with (go_at_call 38; refine HLN.out.mono ?_)
    rintro e w2 ⟨v, rfl, hown, hg2⟩
    have hd := dist_len (lnsL size l)
    rw [lnsL_len] at hd
    obtain ⟨A2, cap2, he, hints, _⟩ := ints_of_own hown
    subst he
    have H2 := Lib.hid (And.intro hints (HG.out.trans hg2))
    have HE : Hid (((dist (lnsL size l)).take (dist (lnsL size l)).length).map (fun q => (q, trn size l q)) = lnP size l) := by show _ = _; rw [List.take_length]; rfl
    clear hown hg2 HLN hints HG
    generalize dist (lnsL size l) = D at H2 HE hd ⊢
    go_wp2_with fail
    go_loopw [7, 8] (fun v i wr => ∃ k : Nat, k ≤ D.length ∧ i = .int .i64 k ∧ Hid (wr.ownsRow w2.heap.size 55 2 v k (prCells ((D.take k).map fun q => (q, trn size l q))) ∧ Grow w2 wr)) (fun _ i _ => D.length - (intOf i).toNat)
    case atStart => exact ⟨0, by omega, rfl, World.ownsRow_nil _ _ _ _, Grow.refl _⟩
    case round =>
      obtain ⟨k, hk, rfl, HO⟩ := hrel
      by_cases hlt : k < D.length
      · have hki : (k : Int) < (D.length : Int) := by omega
        obtain ⟨gD, offD, hA2, hcD⟩ := (H2.out.1.grow HO.out.2).at_ hlt
        have HCD := Lib.hid hcD
        have hnx : (D.take (k + 1)).map (fun q => (q, trn size l q)) = (D.take k).map (fun q => (q, trn size l q)) ++ [(D[k], trK size l D[k] l.length)] := by
          rw [List.take_succ_eq_append_getElem hlt, List.map_append]; rfl
        have HNX := Lib.hid hnx
        clear hnx hcD
        generalize D[k] = q at HCD HNX
        subst hA2
        obtain ⟨wo, hwo⟩ : ∃ wo, wo = wr := ⟨_, rfl⟩
        subst hwo
        go_wp2_with fail
        go_loopw [9, 10] (fun a i wx => ∃ i' : Nat, i' ≤ l.length ∧ a = .int .i64 (trK size l q i') ∧ i = .int .i64 i' ∧ Hid (Grow wo wx)) (fun _ i _ => l.length - (intOf i).toNat)
        case atStart => exact ⟨0, by omega, rfl, rfl, Grow.refl _⟩
        case round =>
          obtain ⟨i, hil, rfl, rfl, HW⟩ := hrel
          by_cases hli : i < l.length
          · obtain ⟨x, hx⟩ : ∃ x, l[i]? = some x := ⟨l[i], by simp [hli]⟩
            obtain ⟨b, off, hAe, hacc⟩ := HL.out.resolve_left (by rintro rfl; simp at hli)
            subst hAe
            have hgr := (H2.out.2.trans HO.out.2).trans HW.out
            have HJ := Lib.hid (judge_any wr b off l cap size i x (hacc.grow hgr) hx (by omega) p1 p2 HOK.out)
            have hmv := judge_mv (size := size) HOK.out hx
            have hst := trK_succ hx hmv q
            have hbd := trK_bound size l q i
            have HX := Lib.hid (And.intro hx hst)
            have HAC := Lib.hid (hacc.grow hgr)
            clear hmv hst hacc hgr
            generalize (judgeOf size l i x).1 = mv at HJ HX
            generalize (judgeOf size l i x).2 = mv2 at HJ
            generalize trK size l q i = tv at HX hbd ⊢
            obtain ⟨x, y, z⟩ := x
            obtain ⟨bd1, bd2⟩ := hbd
            have hb := HOK.out _ (List.mem_of_getElem? hx)
            clear hx
            simp [bad] at hb
            obtain ⟨⟨⟨⟨⟨b1, b2⟩, b3⟩, b4⟩, b5⟩, b6⟩ := hb
            have hii : (i : Int) < (l.length : Int) := by omega
            go_upto_region 13 with (go_at_call 31; refine HJ.out.mono ?_; rintro e w6 ⟨rfl, hg6⟩; have H5 := Lib.hid hg6; clear hg6)
            obtain ⟨c0, c1, c2⟩ := (HAC.out.grow H5.out) i _ HX.out.1
            dsimp only at c0 c1 c2
            have cD := (HW.out.trans H5.out).cell HCD.out
            have H6 := Lib.hid (HW.out.trans H5.out)
            cases mv
            · go_wp2_with fail
              go_quiet (fail)
              go_wp2_with fail
              go_roundw
              case rel => exact ⟨i + 1, by omega, by rw [HX.out.2]; simp, by go_num, H6.out.drewN _⟩
              case measure => simp [intOf] <;> omega
            · cases hq : (y / size == q)
              · have HQ := Lib.hid hq
                go_wp2_with fail
                go_quiet (fail)
                go_wp2_with fail
                go_roundw
                case rel => exact ⟨i + 1, by omega, by rw [HX.out.2, HQ.out]; simp, by go_num, H6.out.drewN _⟩
                case measure => simp [intOf] <;> omega
              · have HQ := Lib.hid hq
                go_wp2_with fail
                go_quiet (fail)
                go_wp2_with fail
                go_roundw
                case rel => exact ⟨i + 1, by omega, by rw [HX.out.2, HQ.out]; simp, by go_num, H6.out.drewN _⟩
                case measure => simp [intOf] <;> omega
          · obtain rfl : i = l.length := by omega
            have hii : ¬ (l.length : Int) < (l.length : Int) := by omega
            have cD := HW.out.cell HCD.out
            have HO1 := Lib.hid (And.intro (owns_grow HO.out.1 HW.out) (HO.out.2.trans HW.out))
            generalize trK size l q l.length = tv at HNX ⊢
            generalize (D.take k).map (fun q => (q, trn size l q)) = N at HO1 HNX
            have hgs := HO1.out.2.size
            go_wp2_with (at_builtin; refine wpList_append_own_at _ rfl (.tmp 56) (.tmp 63) 51 rfl w2.heap.size 55 i0 (.agg #[.int .i64 0, .int .i64 0]) 2 16 Try.underlying51 HI.out.1 HI.out.2.1 HI.out.2.2.1 HI.out.2.2.2 rfl (by decide) _ _ _ rfl (HO1.out.1.alloc _) ⟨wr.heap.size, 0, none⟩ 1 1 [.int .i64 q, .int .i64 tv] rfl rfl (cells_new _ _ _) (by simp [Value.oneCell']) (by unfold maxLen; omega) (by omega) (by simp; omega) ?_)
            intro v' w7 hown7 hgrow7 _ hat7
            have H7 : Hid (w7.ownsRow w2.heap.size 55 2 v' (k + 1) (prCells (N ++ [(q, tv)])) ∧ Grow w2 w7) := ⟨by rw [prCells_snoc]; exact hown7, (HO1.out.2.alloc _).grown hgrow7 (fun j e => (HO1.out.1.lt j e).1)⟩
            clear hown7 hgrow7 hat7
            go_wp2_with fail
            go_roundw
            case rel => exact ⟨k + 1, by omega, by go_num, by rw [HNX.out]; exact H7.out⟩
            case measure => simp [intOf] <;> omega
      · obtain rfl : k = D.length := by omega
        have hki : ¬ (D.length : Int) < (D.length : Int) := by omega
        have hln : (lnP size l).length = D.length := by rw [← HE.out]; simp
        have HF : Hid (PairsE w true (lnP size l) (.returned (.tuple #[u7, .int .i64 0])) wr) := by
          have h1 := HO.out.1
          rw [HE.out] at h1
          refine ⟨_, rfl, ?_, H2.out.2.trans HO.out.2⟩
          show wr.ownsRow w.heap.size 55 2 _ (lnP size l).length (prCells (lnP size l))
          rw [hln]
          exact own_base_le h1 H2.out.2.size
        go_wp2_with fail
        exact HR.out _ _ HF.out
end Go.Proofs.Ytabplbalacldfaa
