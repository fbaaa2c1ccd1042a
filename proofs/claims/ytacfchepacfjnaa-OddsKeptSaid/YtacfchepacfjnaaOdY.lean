/- OddsStop answers true. -/
import Derived.Test.YtacfchepacfjnaaOdW
set_option linter.unusedVariables false
set_option linter.unusedSimpArgs false
namespace Go.Proofs.Ytacfchepacfjnaa
open Go.RowKit Go.Kx Go.Maps Go.Sort Go.Shelf
theorem MadeE.yes_form2 {w w' : World} {l : List Int} {e : Ending} (h : MadeE w true l e w') : ∃ A cap, e = .returned (.tuple #[.slice A l.length cap, .int .i64 0]) ∧ IntsAt w' A l ∧ Grow w w' ∧ l.length ≤ cap ∧ cap ≤ maxLen := by
  obtain ⟨v, rfl, hrow, hg⟩ := h
  simp only [if_true] at hrow ⊢
  have hr := hrow
  obtain ⟨A, cap, rfl, hi, _⟩ := ints_of_own hrow
  refine ⟨A, cap, rfl, hi, hg, ?_⟩
  rcases hr.2 with ⟨e, h0⟩ | ⟨g, c3, cur, e, hb1, hb2, hb3, hb4, _⟩
  · injection e with _ _ e3
    subst e3
    exact ⟨by omega, by unfold maxLen; omega⟩
  · injection e with _ _ e3
    subst e3
    exact ⟨hb3, hb4⟩
/-- How many steps of the one that is stopped are left at a moment of the run without changes. -/
def remS (cs p : List Int) (m k : Nat) : Int := (schK cs p [] k).1[(goes cs p [] m).toNat]?.getD 0
structure StopF (cs p : List Int) (T m : Nat) (L S : List Int) (g : Int) (r : Nat → Int) : Prop where
  l1 : L.length = T
  l2 : S.length = T
  tk : S.take m = L.take m
  at_ : L[m]? = some g
  r0 : ∀ k, k ≤ T → 0 ≤ r k ∧ r k ≤ 6
  re : r T = 0
  s1 : ∀ k, k < T → ∃ x, L[k]? = some x ∧ r (k + 1) = r k - if x = g then 1 else 0
  s2 : ∀ k, m ≤ k → k < T → ∃ x, S[k]? = some x ∧ (x = g ↔ (T : Int) - r m ≤ (k : Int))
theorem stop_facts {cs p : List Int} (hv : 0 < tot cs) (hp : p ∈ ords cs.length (numL cs.length)) {m : Nat} (hm : m < (sched cs p []).length) :
    StopF cs p (sched cs p []).length m (sched cs p []) (sched cs p [(m : Int)]) (goes cs p [] m) (remS cs p m) := by
  obtain ⟨_, hm4, hvs, hts⟩ := tot_pos hv
  obtain ⟨h1, _, h3, h5⟩ := ords_ok cs.length hm4 p hp
  have hl := sched_len (cs := cs) (ps := p) (chs := []) hv
  have hl2 := sched_len (cs := cs) (ps := p) (chs := [(m : Int)]) hv
  rw [hl] at hm ⊢
  have hT : ((cs.sum.toNat : Nat) : Int) = cs.sum := by omega
  have hst := stop_left (cs := cs) (ps := p) (m := m) hvs h1 h5 (by omega)
  obtain ⟨g1, g2, g3⟩ := goes_ok (ps := p) (chs := []) hvs (k := m) (by omega)
  obtain ⟨g, hg⟩ := Int.eq_ofNat_of_zero_le g1
  refine ⟨hl, hl2, ?_, ?_, ?_, ?_, ?_, ?_⟩
  · have e1 := out_take (ps := p) (chs := [(m : Int)]) hvs (k := m) (n := cs.sum.toNat) (by omega) (by omega)
    have e2 := out_take (ps := p) (chs := []) hvs (k := m) (n := cs.sum.toNat) (by omega) (by omega)
    show (schK cs p [(m : Int)] cs.sum.toNat).2.2.take m = (schK cs p [] cs.sum.toNat).2.2.take m
    rw [e1, e2, stop_same m (Nat.le_refl _)]
  · exact out_at (ps := p) (chs := []) hvs (k := m) (n := cs.sum.toNat) hm (by omega)
  · intro k hk
    have hi := schI_at (ps := p) (chs := []) hvs k (by omega)
    unfold remS
    rw [hg] at g2 ⊢
    simp only [Int.toNat_natCast]
    have htl : g < (schK cs p [] k).1.length := by rw [hi.l1]; omega
    rw [List.getElem?_eq_getElem htl, Option.getD_some]
    exact hi.v _ (List.getElem_mem htl)
  · exact left_end hvs (by omega) _
  · intro k hk
    refine ⟨_, out_at (ps := p) (chs := []) hvs (k := k) (n := cs.sum.toNat) hk (by omega), ?_⟩
    unfold remS
    rw [left_get hvs (by omega)]
    have g1' := g1
    by_cases e : goes cs p [] k = goes cs p [] m
    · rw [if_pos e, if_pos (by rw [e]; omega)]
    · rw [if_neg e, if_neg (fun h => e (by omega))]
  · intro k hmk hk
    refine ⟨_, out_at (ps := p) (chs := [(m : Int)]) hvs (k := k) (n := cs.sum.toNat) hk (by omega), ?_⟩
    rw [hT]
    exact (hst k hmk (by omega)).2 (by omega)
theorem sched_one {w : World} {A B : Option Addr} {ca cb : Nat} {cs ps : List Int} (h1 : IntsAt w A cs) (h2 : IntsAt w B ps) (m : Int) :
    Calls Try.prog 15 #[.slice A cs.length ca, .slice B ps.length cb, .slice (some ⟨w.heap.size, 0, none⟩) 1 1] (w.alloc (.cells #[.int .i64 m] 3)) (MadeE (w.alloc (.cells #[.int .i64 m] 3)) (okP cs ps [m]) (sched cs ps [m])) :=
  Schedule_any (cc := 1) (chs := [m]) (h1.grow ((Grow.refl w).alloc _)) (h2.grow ((Grow.refl w).alloc _)) (ints_lit w [m])
set_option maxRecDepth 100000 in
set_option maxHeartbeats 2000000 in
theorem stop_any (w : World) (A : Option Addr) (ca : Nat) (raw : List Int) (which moment : Int) (h1 : IntsAt w A raw) :
    Calls Try.prog 8 #[.slice A raw.length ca, .int .i64 which, .int .i64 moment] w (TrueP w) := by
  refine cph fun R HR => ?_
  have HAW := Lib.hid (awake_any w)
  have HCn := Lib.hid (fun (w1 : World) (hg : Grow w w1) => countsOf_any (w := w1) (cap := ca) (h1.grow hg))
  have hv := cntOf_pos raw
  clear h1
  generalize cntOf raw = cs at HCn hv
  obtain ⟨hm1, hm4, hvs, hts⟩ := tot_pos hv
  have htb := (tot_bd cs).2
  have HO := Lib.hid (fun (w1 : World) => orders_yes w1 cs.length hm1 hm4)
  have hN0 := ords_pos cs.length hm4
  have hN24 := ords_len24 cs.length hm4
  have HPP := Lib.hid (fun p hp (m : Nat) (hm : m < (sched cs p []).length) => And.intro (ords_okP (cs := cs) (p := p) (chs := [(m : Int)]) hv hp (by simp) (by intro x hx; rw [List.mem_singleton.1 hx]; rw [sched_len hv] at hm; omega)) (stop_facts hv hp hm))
  have HP0 := Lib.hid (fun p hp => And.intro (ords_okP (cs := cs) (p := p) (chs := []) hv hp (by simp) (by simp)) (sched_len (cs := cs) (ps := p) (chs := []) hv))
  rw [hts] at htb hv
  clear hvs hts
  generalize ords cs.length (numL cs.length) = ls at HO hN0 hN24 HPP HP0
  obtain ⟨hi0, hi1⟩ := idx_ok which ls.length (by omega) (by omega)
  obtain ⟨q, hq⟩ := Int.eq_ofNat_of_zero_le hi0
  rw [hq] at hi1
  have hql : q < ls.length := by omega
  have hqi : (q : Int) < (ls.length : Int) := by omega
  have hlz : ((ls.length : Int) == 0) = false := by rw [beq_eq_false_iff_ne]; omega
  obtain ⟨p, hp⟩ : ∃ p, p = ls[q] := ⟨_, rfl⟩
  have hpm : p ∈ ls := hp ▸ List.getElem_mem hql
  have HPp := Lib.hid (HP0.out p hpm)
  have HPq := Lib.hid (HPP.out p hpm)
  have Hp := Lib.hid hp
  clear hp HPP HP0 hi0 hi1 hpm
  have HSL0 : Hid (∀ w' A2 a2 Ap ap, IntsAt w' A2 cs → IntsAt w' Ap p → Calls Try.prog 15 #[.slice A2 cs.length a2, .slice Ap p.length ap, .slice none 0 0] w' (MadeE w' true (sched cs p []))) := fun w' A2 a2 Ap ap h1 h2 => by
    have := sched_nil (ca := a2) (cb := ap) h1 h2
    rw [HPp.out.1] at this
    exact this
  have HSL1 : Hid (∀ w' A2 a2 Ap ap (m : Nat), m < (sched cs p []).length → IntsAt w' A2 cs → IntsAt w' Ap p → Calls Try.prog 15 #[.slice A2 cs.length a2, .slice Ap p.length ap, .slice (some ⟨w'.heap.size, 0, none⟩) 1 1] (w'.alloc (.cells #[.int .i64 (m : Int)] 3)) (MadeE (w'.alloc (.cells #[.int .i64 (m : Int)] 3)) true (sched cs p [(m : Int)]))) := fun w' A2 a2 Ap ap m hm h1 h2 => by
    have := sched_one (ca := a2) (cb := ap) h1 h2 (m : Int)
    rw [(HPq.out m hm).1] at this
    exact this
  have hLl : (sched cs p []).length ≤ 24 ∧ 0 < (sched cs p []).length := by have := HPp.out.2; omega
  clear HPp
  obtain ⟨hj0, hj1⟩ := idx_ok moment (sched cs p []).length (by omega) (by omega)
  obtain ⟨m, hm⟩ := Int.eq_ofNat_of_zero_le hj0
  rw [hm] at hj1
  have hml : m < (sched cs p []).length := by omega
  have HSm : Hid (∀ w' A2 a2 Ap ap, IntsAt w' A2 cs → IntsAt w' Ap p → Calls Try.prog 15 #[.slice A2 cs.length a2, .slice Ap p.length ap, .slice (some ⟨w'.heap.size, 0, none⟩) 1 1] (w'.alloc (.cells #[.int .i64 (m : Int)] 3)) (MadeE (w'.alloc (.cells #[.int .i64 (m : Int)] 3)) true (sched cs p [(m : Int)]))) := fun w' A2 a2 Ap ap => HSL1.out w' A2 a2 Ap ap m hml
  have HF := Lib.hid (HPq.out m hml).2
  clear HSL1 HPq hj0 hj1
  generalize remS cs p m = r at HF
  generalize goes cs p [] m = g at HF
  generalize sched cs p [(m : Int)] = S at HSm HF
  generalize sched cs p [] = L at HSL0 HF hLl hm hml
  have hSl : S.length = L.length := HF.out.l2
  have hmi : (m : Int) < (L.length : Int) := by omega
  have hLz : ((L.length : Int) == 0) = false := by rw [beq_eq_false_iff_ne]; omega
  obtain ⟨hL24, hL0⟩ := hLl
  go_enter Try.func8, Try.ntmps8
  go_wp2_with (first | (go_at_call 14; refine HAW.out.mono ?_; rintro e w1 ⟨rfl, hg1⟩; have H1 := Lib.hid hg1; clear hg1) | (go_at_call 29; refine (HCn.out _ H1.out).mono ?_; rintro e w2 ⟨v2, rfl, hrow2, hg2⟩; obtain ⟨A2, a2, rfl, hi2, _⟩ := ints_of_own hrow2; have H2 := Lib.hid (And.intro hi2 (H1.out.trans hg2)); clear hrow2 hi2 hg2) | (go_at_call 26; refine (HO.out _).mono ?_; rintro e w3 hp; obtain ⟨A3, a3, rfl, hl3, hg3⟩ := ordP_yes hp; obtain ⟨b3, o3, rfl, Ap, ap, hcp, hip, _⟩ := hl3.at_ hql; rw [← Hp.out] at hcp hip; have H3 := Lib.hid (And.intro hip (And.intro (H2.out.1.grow hg3) (H2.out.2.trans hg3))); clear hp hl3 hip hg3) | (go_at_call 15; (with_reducible refine Calls.mono (HSL0.out w3 A2 a2 Ap ap H3.out.2.1 H3.out.1) ?_); rintro e w4 hm; obtain ⟨A4, a4, rfl, hi4, hg4, hc4, hd4⟩ := hm.yes_form2; obtain ⟨b4, o4, rfl, _⟩ := hi4.resolve_left (by rintro rfl; simp at hL0); have H4 := Lib.hid (And.intro hi4 hg4); clear hm hi4 hg4) | (go_at_call 15; (with_reducible refine Calls.mono (HSm.out w4 A2 a2 Ap ap (H3.out.2.1.grow H4.out.2) (H3.out.1.grow H4.out.2)) ?_); rintro e w5 hm; obtain ⟨A5, a5, rfl, hi5, hg5, hc5, hd5⟩ := hm.yes_form2; obtain ⟨b5, o5, rfl, _⟩ := hi5.resolve_left (by rintro rfl; simp at hSl; omega); have H5 := Lib.hid (And.intro hi5 (And.intro (H4.out.1.grow (((Grow.refl w4).alloc _).trans hg5)) (H4.out.2.trans (((Grow.refl w4).alloc _).trans hg5)))); clear hm hi5 hg5))
  have hST : (S.take m).length = m := by rw [List.length_take]; omega
  have hLT : (L.take m).length = m := by rw [List.length_take]; omega
  have HIm : Hid (∀ w', Grow w5 w' → Calls Try.prog 19 #[.slice (some ⟨b5, o5, none⟩) m a5, .slice (some ⟨b4, o4, none⟩) m a4] w' (EqP w' true)) := fun w' hg => by
    have := ints_any (c := a5) (d := a4) ((H5.out.1.take m).grow hg) ((H5.out.2.1.take m).grow hg) (by omega)
    rw [hST, hLT, HF.out.tk, show (L.take m == L.take m) = true by simp] at this
    exact this
  clear hST hLT
  have hg0 : Grow w5 w5 := Grow.refl w5
  have hne0 : ((L.length : Int) != (L.length : Int)) = false := by simp
  have hm5 : m ≤ a5 := by omega
  have hm4' : m ≤ a4 := by omega
  have hm5i : (m : Int) ≤ a5 := by omega
  have hm4i : (m : Int) ≤ a4 := by omega
  have ha5 : (a5 : Int) ≤ 9223372036854775807 := by unfold maxLen at hd5; omega
  have ha4 : (a4 : Int) ≤ 9223372036854775807 := by unfold maxLen at hd4; omega
  go_region_held3 (fun w' => Grow w5 w') (first | assumption | exact (Grow.refl _).drew | exact Grow.drew (by assumption) | exact Grow.trans (by assumption) (by assumption) | exact Grow.drew (Grow.trans (by assumption) (by assumption))) ((go_at_call 19; (with_reducible refine Calls.mono (HIm.out _ ?_) ?_); assumption; rintro e w' ⟨rfl, hg7⟩))
  have hg6 : Grow w5 w' := by assumption
  have HcL : Hid (∀ (j : Nat) (x : Int), L[j]? = some x → w'.cell? ⟨b4, o4 + j, none⟩ = some (.int .i64 x)) := by
    obtain ⟨bx, ox, hbx, hcx⟩ := (H5.out.2.1.grow hg6).resolve_left (by rintro rfl; simp at hL0)
    cases hbx
    exact hcx
  have HcS : Hid (∀ (j : Nat) (x : Int), S[j]? = some x → w'.cell? ⟨b5, o5 + j, none⟩ = some (.int .i64 x)) := by
    obtain ⟨bx, ox, hbx, hcx⟩ := (H5.out.1.grow hg6).resolve_left (by rintro rfl; simp at hSl; omega)
    cases hbx
    exact hcx
  have HE := Lib.hid ((H3.out.2.2.trans H5.out.2.2).trans hg6)
  clear hg0 hg6 hg7
  have hcm := HcL.out m g HF.out.at_
  obtain ⟨R0, hR0⟩ : ∃ R0, R0 = r m := ⟨_, rfl⟩
  have hRb := HF.out.r0 m (by omega)
  rw [← hR0] at hRb
  have HR0 := Lib.hid hR0
  clear hR0
  go_wp2
  go_loop [17, 18] (fun l i => ∃ k : Nat, m ≤ k ∧ k ≤ L.length ∧ i = .int .i64 k ∧ l = .int .i64 (R0 - r k)) (fun _ i => L.length - (intOf i).toNat)
  case atStart => exact ⟨m, Nat.le_refl _, by omega, rfl, by rw [HR0.out]; simp⟩
  case round =>
    obtain ⟨k, hmk, hk, rfl, rfl⟩ := hrel
    by_cases hlt : k < L.length
    · have hki : (k : Int) < (L.length : Int) := by omega
      obtain ⟨x, hx, hr⟩ := HF.out.s1 k hlt
      have hcx := HcL.out k x hx
      have hb := HF.out.r0 k (by omega)
      have Hr := Lib.hid hr
      generalize r k = rk at hb Hr
      clear hx hr
      by_cases e : x = g
      · subst e
        go_wp2
        go_round
        case rel => exact ⟨k + 1, by omega, by omega, by go_num, by rw [Hr.out, if_pos rfl]; first | go_num | (congr 1; omega)⟩
        case measure => simp [intOf]; omega
      · have e' : (x == g) = false := by simp [e]
        go_wp2
        go_round
        case rel => exact ⟨k + 1, by omega, by omega, by go_num, by rw [Hr.out, if_neg e]; first | go_num | (congr 1; omega)⟩
        case measure => simp [intOf]; omega
    · have hki : ¬ (k : Int) < (L.length : Int) := by omega
      obtain rfl : k = L.length := by omega
      have hre : r L.length = 0 := HF.out.re
      rw [hre]
      clear hre
      go_wp2
      go_loop [19] (fun i => ∃ k : Nat, m ≤ k ∧ k ≤ L.length ∧ i = .int .i64 k) (fun i => L.length - (intOf i).toNat)
      case atStart => exact ⟨m, Nat.le_refl _, by omega, rfl⟩
      case round =>
        obtain ⟨k, hmk, hk, rfl⟩ := hrel
        by_cases hlt : k < L.length
        · have hki : (k : Int) < (L.length : Int) := by omega
          obtain ⟨x, hx, hr⟩ := HF.out.s2 k hmk hlt
          have hcx := HcS.out k x hx
          rw [← HR0.out] at hr
          clear hx
          by_cases e : x = g
          · have e2 := hr.1 e
            subst e
            clear hr
            go_wp2
            go_round
            case rel => exact ⟨k + 1, by omega, by omega, by go_num⟩
            case measure => simp [intOf]; omega
          · have e2 : ¬ ((L.length : Int) - R0 ≤ (k : Int)) := fun h => e (hr.2 h)
            have e' : (x == g) = false := by simp [e]
            clear hr
            go_wp2
            go_round
            case rel => exact ⟨k + 1, by omega, by omega, by go_num⟩
            case measure => simp [intOf]; omega
        · have hki : ¬ (k : Int) < (L.length : Int) := by omega
          go_wp2
          exact HR.out _ _ ⟨rfl, HE.out⟩
end Go.Proofs.Ytacfchepacfjnaa
