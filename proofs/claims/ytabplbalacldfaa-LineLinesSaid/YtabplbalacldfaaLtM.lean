/- The contract of the reference's Shared, for every size and every list of accesses that memory holds. -/
import Derived.Test.YtabplbalacldfaaLtH
set_option linter.unusedVariables false
set_option linter.unusedSimpArgs false
namespace Go.Proofs.Ytabplbalacldfaa
open Go.RowKit Go.Kx
def prB (size q : Int) (b a : A3) : Bool := b.2.1 / size == q && b.1 != a.1 && b.2.1 != a.2.1
/-- What the reference has found of the line q behind i accesses. -/
def apM (size q : Int) (l : List A3) : Nat → Bool
  | 0 => false
  | i + 1 => apM size q l i || (match l[i]? with
    | some a => a.2.1 / size == q && (l.take i).any fun b => prB size q b a
    | none => false)
theorem apM_succ {size q : Int} {l : List A3} {i : Nat} {a : A3} (h : l[i]? = some a) : apM size q l (i + 1) = (apM size q l i || (a.2.1 / size == q && (l.take i).any fun b => prB size q b a)) := by
  rw [show apM size q l (i + 1) = (apM size q l i || (match l[i]? with | some a => a.2.1 / size == q && (l.take i).any fun b => prB size q b a | none => false)) from rfl, h]
theorem apM_iff (size q : Int) (l : List A3) : ∀ i, i ≤ l.length → (apM size q l i = true ↔ ∃ i2 j a b, j < i2 ∧ i2 < i ∧ l[i2]? = some a ∧ l[j]? = some b ∧ a.2.1 / size = q ∧ prB size q b a = true)
  | 0, _ => by simp [apM]
  | i + 1, hi => by
    obtain ⟨a, ha⟩ : ∃ a, l[i]? = some a := ⟨l[i], by simp⟩
    rw [apM_succ ha, Bool.or_eq_true, apM_iff size q l i (by omega), Bool.and_eq_true, List.any_eq_true, beq_iff_eq]
    constructor
    · rintro (⟨i2, j, a', b', h1, h2, h3⟩ | ⟨h1, b, hb, h2⟩)
      · exact ⟨i2, j, a', b', h1, by omega, h3⟩
      · obtain ⟨j, hj, rfl⟩ := List.mem_iff_getElem.1 hb
        rw [List.length_take] at hj
        refine ⟨i, j, a, _, by omega, by omega, ha, ?_, h1, h2⟩
        rw [List.getElem_take, List.getElem?_eq_getElem (by omega)]
    · rintro ⟨i2, j, a', b', h1, h2, h3, h4, h5, h6⟩
      by_cases h : i2 = i
      · subst h
        rw [ha] at h3; cases h3
        obtain ⟨hj, rfl⟩ := List.getElem?_eq_some_iff.1 h4
        exact .inr ⟨h5, _, List.mem_iff_getElem.2 ⟨j, by rw [List.length_take]; omega, by rw [List.getElem_take]⟩, h6⟩
      · exact .inl ⟨i2, j, a', b', h1, by omega, h3, h4, h5, h6⟩
theorem apM_all (size q : Int) (l : List A3) : apM size q l l.length = usedB size l q := by
  rw [Bool.eq_iff_iff, apM_iff size q l _ (Nat.le_refl _)]
  unfold usedB
  simp only [List.any_eq_true, Bool.and_eq_true, beq_iff_eq]
  constructor
  · rintro ⟨i2, j, a, b, h1, h2, h3, h4, h5, h6⟩
    refine ⟨a, List.mem_of_getElem? h3, b, List.mem_of_getElem? h4, ?_, h5⟩
    simp [prB] at h6
    simp [apartB, h5, h6.1.1]
    exact ⟨fun e => h6.1.2 e.symm, fun e => h6.2 e.symm⟩
  · rintro ⟨a, ha, b, hb, h1, h2⟩
    obtain ⟨i, hi, rfl⟩ := List.mem_iff_getElem.1 ha
    obtain ⟨j, hj, rfl⟩ := List.mem_iff_getElem.1 hb
    have hl := apartB_line h1
    have h1' := h1
    simp [apartB] at h1'
    rcases Nat.lt_trichotomy i j with h | h | h
    · exact ⟨j, i, l[j], l[i], h, hj, List.getElem?_eq_getElem hj, List.getElem?_eq_getElem hi, by rw [← hl]; exact h2, by simp [prB, h2, h1'.1.1, h1'.1.2]⟩
    · subst h; exact absurd rfl h1'.1.1
    · exact ⟨i, j, l[i], l[j], h, hi, List.getElem?_eq_getElem hi, List.getElem?_eq_getElem hj, h2, by
        simp [prB, ← hl, h2]
        exact ⟨fun e => h1'.1.1 e.symm, fun e => h1'.1.2 e.symm⟩⟩
theorem writB_snoc {size q : Int} {l : List A3} {i : Nat} {a : A3} (h : l[i]? = some a) : writB size (l.take (i + 1)) q = (writB size (l.take i) q || (a.2.2 == 1 && a.2.1 / size == q)) := by
  unfold writB
  rw [take_snoc h, List.any_append]
  simp
theorem any_take {l : List A3} {f : A3 → Bool} {j : Nat} {b : A3} (h : l[j]? = some b) : (l.take (j + 1)).any f = ((l.take j).any f || f b) := by
  rw [take_snoc h, List.any_append]
  simp
/-- The lines found among the first k. -/
def shK (size : Int) (l : List A3) (D : List Int) (k : Nat) : List Int := (D.take k).filter fun q => usedB size l q && writB size l q
theorem shK_succ {size : Int} {l : List A3} {D : List Int} {k : Nat} (h : k < D.length) : shK size l D (k + 1) = if usedB size l D[k] && writB size l D[k] then shK size l D k ++ [D[k]] else shK size l D k := by
  unfold shK
  rw [List.take_succ_eq_append_getElem h, List.filter_append]
  cases hh : (usedB size l D[k] && writB size l D[k]) <;> simp [hh]
theorem shK_len (size : Int) (l : List A3) (D : List Int) (k : Nat) : (shK size l D k).length ≤ k := Nat.le_trans (List.length_filter_le _ _) (List.length_take_le _ _)
set_option maxRecDepth 100000 in
set_option maxHeartbeats 8000000 in
theorem refShared_any (w : World) (A : Option Addr) (l : List A3) (cap : Nat) (size : Int) (hA : Acc w A l) (hn : l.length ≤ 300) :
    Calls Try.prog 26 #[.int .i64 size, .slice A l.length cap] w (MadeE w (goodB size l) (shr size l)) := by
  refine cph fun R HR => ?_
  have HV := Lib.hid (right_any w A l cap size hA (by unfold maxLen; omega))
  have HL := Lib.hid hA
  clear hA
  cases hgood : goodB size l
  · rw [hgood] at HR
    rw [hgood] at HV
    go_enter Try.func26, Try.ntmps26
    go_wp2_with (go_at_call 30; refine HV.out.mono ?_)
    rintro e w1 ⟨rfl, hg⟩
    have HG := Lib.hid hg
    clear hg
    go_wp2_with fail
    exact HR.out _ _ (MadeE.no HG.out)
  · obtain ⟨p1, p2, p3, p4⟩ := good_parts hgood
    have HOK := Lib.hid p4
    clear p3 p4
    rw [hgood] at HV
    rw [hgood] at HR
    clear hgood
    obtain ⟨i0, hi, hz0, hz1, hz2⟩ := info_parts info3x
    have HI := Lib.hid (And.intro hi (And.intro hz0 (And.intro hz1 hz2)))
    clear hi hz0 hz1 hz2
    go_enter Try.func26, Try.ntmps26
    go_wp2_with (go_at_call 30; refine HV.out.mono ?_)
    rintro e w1 ⟨rfl, hg⟩
    have HLN := Lib.hid (lines_any w1 A l cap size (HL.out.grow hg) hn p1 p2 HOK.out)
    have HG := Lib.hid hg
    clear hg HV
    go_wp2_with (go_at_call 38; refine HLN.out.mono ?_)
    rintro e w2 ⟨v, rfl, hown, hg2⟩
    have hd := dist_len (lnsL size l)
    rw [lnsL_len] at hd
    obtain ⟨A2, cap2, he, hints, _⟩ := ints_of_own hown
    subst he
    have H2 := Lib.hid (And.intro hints (HG.out.trans hg2))
    have HE : Hid (shK size l (dist (lnsL size l)) (dist (lnsL size l)).length = shr size l) := by show _ = _; unfold shK; rw [List.take_length]; rfl
    clear hown hg2 HLN hints HG
    generalize dist (lnsL size l) = D at H2 HE hd ⊢
    go_wp2_with fail
    go_loopw [7, 8] (fun v i wr => ∃ k : Nat, k ≤ D.length ∧ i = .int .i64 k ∧ Hid (wr.ownsRow w2.heap.size 3 1 v (shK size l D k).length ((shK size l D k).map (Value.int .i64)) ∧ Grow w2 wr)) (fun _ i _ => D.length - (intOf i).toNat)
    case atStart => exact ⟨0, by omega, rfl, World.ownsRow_nil _ _ _ _, Grow.refl _⟩
    case round =>
      obtain ⟨k, hk, rfl, HO⟩ := hrel
      by_cases hlt : k < D.length
      · have hki : (k : Int) < (D.length : Int) := by omega
        have hsl := shK_len size l D k
        obtain ⟨gD, offD, hA2, hcD⟩ := (H2.out.1.grow HO.out.2).at_ hlt
        have HCD := Lib.hid hcD
        have HN := Lib.hid (shK_succ (size := size) (l := l) hlt)
        clear hcD
        generalize D[k] = q at HCD HN
        subst hA2
        obtain ⟨wo, hwo⟩ : ∃ wo, wo = wr := ⟨_, rfl⟩
        subst hwo
        go_wp2_with fail
        go_loopw [9, 10, 11] (fun a b i wx => ∃ i' : Nat, i' ≤ l.length ∧ a = .bool (writB size (l.take i') q) ∧ b = .bool (apM size q l i') ∧ i = .int .i64 i' ∧ Hid (Grow wo wx)) (fun _ _ i _ => l.length - (intOf i).toNat)
        case atStart => exact ⟨0, by omega, rfl, rfl, rfl, Grow.refl _⟩
        case round =>
          obtain ⟨i, hil, rfl, rfl, rfl, HW⟩ := hrel
          by_cases hli : i < l.length
          · obtain ⟨⟨x, y, z⟩, hx⟩ : ∃ x, l[i]? = some x := ⟨l[i], by simp [hli]⟩
            obtain ⟨b, off, hAe, hacc⟩ := HL.out.resolve_left (by rintro rfl; simp at hli)
            subst hAe
            obtain ⟨c0, c1, c2⟩ := (hacc.grow ((H2.out.2.trans HO.out.2).trans HW.out)) i _ hx
            dsimp only at c0 c1 c2
            have cD := HW.out.cell HCD.out
            have hb := HOK.out _ (List.mem_of_getElem? hx)
            simp [bad] at hb
            obtain ⟨⟨⟨⟨⟨b1, b2⟩, b3⟩, b4⟩, b5⟩, b6⟩ := hb
            have hii : (i : Int) < (l.length : Int) := by omega
            have hw := writB_snoc (size := size) (q := q) hx
            have ha := apM_succ (size := size) (q := q) hx
            dsimp only at hw ha
            have HX := Lib.hid (And.intro hx (And.intro hw ha))
            have HAC := Lib.hid hacc
            clear hx hw ha hacc
            generalize writB size (l.take i) q = wv at HX ⊢
            generalize apM size q l i = av at HX ⊢
            cases hq : (y / size == q)
            · have HQ := Lib.hid hq
              go_wp2_with fail
              go_quiet (fail)
              go_wp2_with fail
              go_roundw
              case rel => exact ⟨i + 1, by omega, by rw [HX.out.2.1, HQ.out]; simp, by rw [HX.out.2.2, HQ.out]; simp, by go_num, HW.out.drewN _⟩
              case measure => simp [intOf] <;> omega
            · have HQ := Lib.hid hq
              have HWn : Hid (∀ b : Bool, b = (wv || (z == 1)) → b = writB size (l.take (i + 1)) q) := fun b e => by rw [e, HX.out.2.1, HQ.out]; simp
              go_wp2_with fail
              go_quiet (fail)
              clear cD
              cases wv
              all_goals
                go_wp2_with fail
                clear hq
                go_loopw [10, 12] (fun b j wx => ∃ jj : Nat, jj ≤ i ∧ b = .bool (av || (l.take jj).any fun b => prB size q b (x, y, z)) ∧ j = .int .i64 jj ∧ Hid (Grow wo wx)) (fun _ j _ => i - (intOf j).toNat)
                case atStart => exact ⟨0, by omega, by simp, rfl, HW.out.drewN _⟩
                case round =>
                  obtain ⟨jj, hjj, rfl, rfl, HW2⟩ := hrel
                  by_cases hjl : jj < i
                  · obtain ⟨⟨x2, y2, z2⟩, hx2⟩ : ∃ x, l[jj]? = some x := ⟨l[jj]'(by omega), by simp⟩
                    have hgr := (H2.out.2.trans HO.out.2).trans HW2.out
                    obtain ⟨c0, c1, c2⟩ := (HAC.out.grow hgr) i _ HX.out.1
                    obtain ⟨d0, d1, d2⟩ := (HAC.out.grow hgr) jj _ hx2
                    dsimp only at c0 c1 c2 d0 d1 d2
                    have cD := HW2.out.cell HCD.out
                    have hbb := HOK.out _ (List.mem_of_getElem? hx2)
                    simp [bad] at hbb
                    obtain ⟨⟨⟨⟨⟨e1, e2⟩, e3⟩, e4⟩, e5⟩, e6⟩ := hbb
                    have hji : (jj : Int) < (i : Int) := by omega
                    have hjl2 : (jj : Int) < (l.length : Int) := by omega
                    have hnx := any_take (f := fun b => prB size q b (x, y, z)) hx2
                    have HNX : Hid (∀ sv : Bool, (av || (l.take jj).any fun b => prB size q b (x, y, z)) = sv → (av || (l.take (jj + 1)).any fun b => prB size q b (x, y, z)) = (sv || (y2 / size == q && x2 != x && y2 != y))) := fun sv e => by rw [hnx, ← Bool.or_assoc, e]; rfl
                    clear hnx hgr hx2 e1 e2 e5 e6
                    generalize hsv : (av || (l.take jj).any fun b => prB size q b (x, y, z)) = sv
                    have HNS := Lib.hid (HNX.out sv hsv)
                    clear hsv HNX
                    cases sv
                    · cases q1 : (y2 / size == q)
                      · have Q1 := Lib.hid q1
                        go_wp2_with fail
                        go_quiet (fail)
                        go_wp2_with fail
                        go_roundw
                        case rel => exact ⟨jj + 1, by omega, by rw [HNS.out, Q1.out]; rfl, by go_num, HW2.out.drewN _⟩
                        case measure => simp [intOf] <;> omega
                      · have Q1 := Lib.hid q1
                        cases q2 : (x2 != x)
                        · have Q2 := Lib.hid q2
                          go_wp2_with fail
                          go_quiet (fail)
                          go_wp2_with fail
                          go_roundw
                          case rel => exact ⟨jj + 1, by omega, by rw [HNS.out, Q1.out, Q2.out]; rfl, by go_num, HW2.out.drewN _⟩
                          case measure => simp [intOf] <;> omega
                        · have Q2 := Lib.hid q2
                          go_wp2_with fail
                          go_quiet (fail)
                          go_wp2_with fail
                          go_roundw
                          case rel => exact ⟨jj + 1, by omega, by rw [HNS.out, Q1.out, Q2.out]; rfl, by go_num, HW2.out.drewN _⟩
                          case measure => simp [intOf] <;> omega
                    · go_wp2_with fail
                      go_quiet (fail)
                      go_wp2_with fail
                      go_roundw
                      case rel => exact ⟨jj + 1, by omega, by rw [HNS.out]; rfl, by go_num, HW2.out.drewN _⟩
                      case measure => simp [intOf] <;> omega
                  · obtain rfl : jj = i := by omega
                    have hji : ¬ (jj : Int) < (jj : Int) := by omega
                    go_wp2_with fail
                    go_roundw
                    case rel => exact ⟨jj + 1, by omega, by rw [← HWn.out _ rfl] <;> rfl, by rw [HX.out.2.2, HQ.out]; rfl, by go_num, HW2.out⟩
                    case measure => simp [intOf] <;> omega
          · obtain rfl : i = l.length := by omega
            have hii : ¬ (l.length : Int) < (l.length : Int) := by omega
            have hcD := HW.out.cell HCD.out
            rw [List.take_length, apM_all]
            have HO1 := Lib.hid (And.intro (owns_grow HO.out.1 HW.out) (HO.out.2.trans HW.out))
            generalize writB size l q = wv at HN ⊢
            generalize usedB size l q = uv at HN ⊢
            generalize shK size l D k = N at HO1 HN hsl
            cases wv
            · go_wp2_with fail
              go_roundw
              case rel => exact ⟨k + 1, by omega, by go_num, by rw [HN.out, Bool.and_false]; exact HO1.out⟩
              case measure => simp [intOf] <;> omega
            · cases uv
              · go_wp2_with fail
                go_roundw
                case rel => exact ⟨k + 1, by omega, by go_num, by rw [HN.out]; exact HO1.out⟩
                case measure => simp [intOf] <;> omega
              · have hgs := HO1.out.2.size
                go_wp2_with (at_builtin; refine wpList_append_own_at _ rfl (.tmp 103) (.tmp 108) 44 rfl w2.heap.size 3 i0 (.int .i64 0) 1 8 Try.underlying44 HI.out.1 HI.out.2.1 HI.out.2.2.1 HI.out.2.2.2 rfl (by decide) _ _ _ rfl (HO1.out.1.alloc _) ⟨wr.heap.size, 0, none⟩ 1 1 [.int .i64 q] rfl rfl (cell_one_new _ _ _) (by simp [Value.oneCell']) (by unfold maxLen; omega) (by omega) (by simp; omega) ?_)
                intro v' w5 hown5 hgrow5 _ hat5
                have H7 : Hid (w5.ownsRow w2.heap.size 3 1 v' (N ++ [q]).length ((N ++ [q]).map (Value.int .i64)) ∧ Grow w2 w5) := ⟨by simpa using hown5, (HO1.out.2.alloc _).grown hgrow5 (fun j e => (HO1.out.1.lt j e).1)⟩
                clear hown5 hgrow5 hat5
                go_wp2_with fail
                go_roundw
                case rel => exact ⟨k + 1, by omega, by go_num, by rw [HN.out]; exact H7.out⟩
                case measure => simp [intOf] <;> omega
      · obtain rfl : k = D.length := by omega
        have hki : ¬ (D.length : Int) < (D.length : Int) := by omega
        have HF : Hid (MadeE w true (shr size l) (.returned (.tuple #[u7, .int .i64 0])) wr) := by
          have h1 := HO.out.1
          rw [HE.out] at h1
          exact ⟨_, rfl, own_base_le h1 H2.out.2.size, H2.out.2.trans HO.out.2⟩
        go_wp2_with fail
        exact HR.out _ _ HF.out
end Go.Proofs.Ytabplbalacldfaa
