/- OddsFirst answers true. -/
import Derived.Test.YtacfchepacfjnaaOdT
import Derived.Test.YtacfchepacfjnaaOdM
set_option linter.unusedVariables false
set_option linter.unusedSimpArgs false
namespace Go.Proofs.Ytacfchepacfjnaa
open Go.RowKit Go.Kx Go.Maps Go.Sort Go.Shelf
theorem idx_ok (x n : Int) (h : 0 < n) (h2 : n ≤ 1000) : 0 ≤ wrap64 ((IntKind.u64.wrap x).tmod n) ∧ wrap64 ((IntKind.u64.wrap x).tmod n) < n := by
  have h0 : 0 ≤ IntKind.u64.wrap x := by
    have : IntKind.u64.wrap x = x % 18446744073709551616 := by simp [IntKind.wrap, IntKind.bits, IntKind.signed]
    omega
  have h1 := Int.emod_nonneg (IntKind.u64.wrap x) (show n ≠ 0 by omega)
  have h3 := Int.emod_lt_of_pos (IntKind.u64.wrap x) h
  rw [Int.tmod_eq_emod_of_nonneg h0]
  have : wrap64 (IntKind.u64.wrap x % n) = IntKind.u64.wrap x % n := by unfold wrap64; omega
  rw [this]
  exact ⟨h1, h3⟩
theorem ords_ok (m : Nat) (hm : m ≤ 4) : ∀ p ∈ ords m (numL m), p.length = m ∧ allN p m = true ∧ p.Nodup ∧ ∀ x ∈ p, 0 < x := by
  have : ∀ m ∈ List.range 5, ∀ p ∈ ords m (numL m), p.length = m ∧ allN p m = true ∧ p.Nodup ∧ ∀ x ∈ p, 0 < x := by decide +kernel
  exact this m (by simp; omega)
theorem ords_okP {cs p chs : List Int} (hv : 0 < tot cs) (hp : p ∈ ords cs.length (numL cs.length)) (hc : chs.length ≤ 2) (hb : ∀ x ∈ chs, -1 ≤ x ∧ x < tot cs) : okP cs p chs = true := by
  obtain ⟨_, hm4, _, _⟩ := tot_pos hv
  obtain ⟨h1, h2, _, _⟩ := ords_ok cs.length hm4 p hp
  rw [ok_eq]
  unfold okR
  rw [h1, h2]
  have h3 : chs.any (badAt (tot cs)) = false := by
    rw [List.any_eq_false]
    intro x hx
    have := hb x hx
    unfold badAt
    simp; omega
  simp [hv, hc, h3]
/-- What OddsFirst sees of two moments. -/
theorem first_at {cs p chs : List Int} (hv : 0 < tot cs) (hp : p ∈ ords cs.length (numL cs.length)) (hch : ∀ m : Nat, ∀ x ∈ chs, x ≠ (m : Int)) {k : Nat} (hk : k + 1 < (sched cs p chs).length) :
    ∃ a b : Nat, a < cs.length ∧ b < cs.length ∧ (sched cs p chs)[k + 1]? = some (a : Int) ∧ (sched cs p chs)[k]? = some (b : Int) ∧ (a = b ∨ p[a]?.getD 0 < p[b]?.getD 0) := by
  obtain ⟨_, hm4, hvs, hts⟩ := tot_pos hv
  obtain ⟨h1, _, h3, _⟩ := ords_ok cs.length hm4 p hp
  rw [sched_len hv] at hk
  have g1 := goes_ok (ps := p) (chs := chs) hvs (k := k) (by omega)
  have g2 := goes_ok (ps := p) (chs := chs) hvs (k := k + 1) (by omega)
  have o1 := out_at (ps := p) (chs := chs) hvs (k := k) (n := cs.sum.toNat) (by omega) (by omega)
  have o2 := out_at (ps := p) (chs := chs) hvs (k := k + 1) (n := cs.sum.toNat) (by omega) (by omega)
  have hf := fun hne => first_law (cs := cs) (ps := p) (chs := chs) hvs h3 h1 hch (k := k) (by omega) hne
  obtain ⟨b, hb⟩ := Int.eq_ofNat_of_zero_le g1.1
  obtain ⟨a, ha⟩ := Int.eq_ofNat_of_zero_le g2.1
  rw [hb] at o1 hf g1
  rw [ha] at o2 hf g2
  refine ⟨a, b, by omega, by omega, o2, o1, ?_⟩
  by_cases e : a = b
  · exact .inl e
  · exact .inr (by have := hf (by omega); simpa using this)
theorem sched_same {cs p c1 c2 : List Int} (h1 : ∀ m : Nat, ∀ x ∈ c1, x ≠ (m : Int)) (h2 : ∀ m : Nat, ∀ x ∈ c2, x ≠ (m : Int)) : sched cs p c1 = sched cs p c2 := by
  unfold sched; rw [schK_same _ (fun m _ => ⟨h1 m, h2 m⟩)]
theorem sched_two {w : World} {A B : Option Addr} {ca cb : Nat} {cs ps : List Int} (h1 : IntsAt w A cs) (h2 : IntsAt w B ps) :
    Calls Try.prog 15 #[.slice A cs.length ca, .slice B ps.length cb, .slice (some ⟨w.heap.size, 0, none⟩) 2 2] (w.alloc (.cells #[.int .i64 (-1), .int .i64 (-1)] 3)) (MadeE (w.alloc (.cells #[.int .i64 (-1), .int .i64 (-1)] 3)) (okP cs ps [-1, -1]) (sched cs ps [-1, -1])) :=
  Schedule_any (cc := 2) (chs := [-1, -1]) (h1.grow ((Grow.refl w).alloc _)) (h2.grow ((Grow.refl w).alloc _)) (ints_lit w [-1, -1])
theorem sched_nil {w : World} {A B : Option Addr} {ca cb : Nat} {cs ps : List Int} (h1 : IntsAt w A cs) (h2 : IntsAt w B ps) :
    Calls Try.prog 15 #[.slice A cs.length ca, .slice B ps.length cb, .slice none 0 0] w (MadeE w (okP cs ps []) (sched cs ps [])) :=
  Schedule_any (cc := 0) (chs := []) h1 h2 (.inl rfl)
set_option maxRecDepth 100000 in
set_option maxHeartbeats 2000000 in
theorem first_any (w : World) (A : Option Addr) (ca : Nat) (raw : List Int) (which : Int) (h1 : IntsAt w A raw) :
    Calls Try.prog 7 #[.slice A raw.length ca, .int .i64 which] w (TrueP w) := by
  refine cph fun R HR => ?_
  have HAW := Lib.hid (awake_any w)
  have HCn := Lib.hid (fun (w1 : World) (hg : Grow w w1) => countsOf_any (w := w1) (cap := ca) (h1.grow hg))
  have hv := cntOf_pos raw
  clear h1
  generalize cntOf raw = cs at HCn hv
  obtain ⟨hm1, hm4, hvs, hts⟩ := tot_pos hv
  have HO := Lib.hid (fun (w1 : World) => orders_yes w1 cs.length hm1 hm4)
  have hN0 := ords_pos cs.length hm4
  have hN24 := ords_len24 cs.length hm4
  have HP := Lib.hid (fun p hp => And.intro (ords_okP (cs := cs) (p := p) (chs := [-1, -1]) hv hp (by simp) (by intro x hx; simp at hx; omega)) (And.intro (ords_okP (cs := cs) (p := p) (chs := []) hv hp (by simp) (by simp)) (And.intro (ords_ok cs.length hm4 p hp) (fun (k : Nat) hk => first_at (cs := cs) (p := p) (chs := []) hv hp (by simp) (k := k) hk))))
  have HSL := Lib.hid (fun p => And.intro (sched_len (cs := cs) (ps := p) (chs := []) hv) (sched_same (cs := cs) (p := p) (c1 := [-1, -1]) (c2 := []) (by intro m x hx; simp at hx; omega) (by simp)))
  have htb := (tot_bd cs).2
  rw [hts] at htb hv
  clear hvs hts
  generalize ords cs.length (numL cs.length) = ls at HO hN0 hN24 HP
  obtain ⟨hi0, hi1⟩ := idx_ok which ls.length (by omega) (by omega)
  obtain ⟨q, hq⟩ := Int.eq_ofNat_of_zero_le hi0
  rw [hq] at hi1
  have hql : q < ls.length := by omega
  have hqi : (q : Int) < (ls.length : Int) := by omega
  have hlz : ((ls.length : Int) == 0) = false := by rw [beq_eq_false_iff_ne]; omega
  obtain ⟨p, hp⟩ : ∃ p, p = ls[q] := ⟨_, rfl⟩
  have HPp := Lib.hid (HP.out p (hp ▸ List.getElem_mem hql))
  have Hp := Lib.hid hp
  have HSp := Lib.hid (HSL.out p)
  clear hp HP HSL hi0 hi1
  have HSL2 : Hid (∀ w' A2 a2 Ap ap, IntsAt w' A2 cs → IntsAt w' Ap p → Calls Try.prog 15 #[.slice A2 cs.length a2, .slice Ap p.length ap, .slice (some ⟨w'.heap.size, 0, none⟩) 2 2] (w'.alloc (.cells #[.int .i64 (-1), .int .i64 (-1)] 3)) (MadeE (w'.alloc (.cells #[.int .i64 (-1), .int .i64 (-1)] 3)) true (sched cs p []))) := fun w' A2 a2 Ap ap h1 h2 => by
    have := sched_two (ca := a2) (cb := ap) h1 h2
    rw [HPp.out.1, HSp.out.2] at this
    exact this
  have HSL0 : Hid (∀ w' A2 a2 Ap ap, IntsAt w' A2 cs → IntsAt w' Ap p → Calls Try.prog 15 #[.slice A2 cs.length a2, .slice Ap p.length ap, .slice none 0 0] w' (MadeE w' true (sched cs p []))) := fun w' A2 a2 Ap ap h1 h2 => by
    have := sched_nil (ca := a2) (cb := ap) h1 h2
    rw [HPp.out.2.1] at this
    exact this
  have HL := Lib.hid (And.intro HSp.out.1 HPp.out.2.2)
  clear HPp HSp
  generalize sched cs p [] = L at HSL2 HSL0 HL
  have hLl : L.length ≤ 24 := by have := HL.out.1; omega
  go_enter Try.func7, Try.ntmps7
  go_wp2_with (first | (go_at_call 14; refine HAW.out.mono ?_; rintro e w1 ⟨rfl, hg1⟩; have H1 := Lib.hid hg1; clear hg1) | (go_at_call 29; refine (HCn.out _ H1.out).mono ?_; rintro e w2 ⟨v2, rfl, hrow2, hg2⟩; obtain ⟨A2, a2, rfl, hi2, _⟩ := ints_of_own hrow2; have H2 := Lib.hid (And.intro hi2 (H1.out.trans hg2)); clear hrow2 hi2 hg2) | (go_at_call 26; refine (HO.out _).mono ?_; rintro e w3 hp; obtain ⟨A3, a3, rfl, hl3, hg3⟩ := ordP_yes hp; obtain ⟨b3, o3, rfl, Ap, ap, hcp, hip, _⟩ := hl3.at_ hql; rw [← Hp.out] at hcp hip; have H3 := Lib.hid (And.intro hip (And.intro (H2.out.1.grow hg3) (H2.out.2.trans hg3))); clear hp hl3 hip hg3) | (go_at_call 15; (with_reducible refine Calls.mono (HSL2.out w3 A2 a2 Ap ap H3.out.2.1 H3.out.1) ?_); rintro e w4 hm; obtain ⟨A4, a4, rfl, hi4, hg4⟩ := hm.yes_form; have H4 := Lib.hid (And.intro hi4 (((Grow.refl w3).alloc _).trans hg4)); clear hm hi4 hg4) | (go_at_call 15; (with_reducible refine Calls.mono (HSL0.out w4 A2 a2 Ap ap (H3.out.2.1.grow H4.out.2) (H3.out.1.grow H4.out.2)) ?_); rintro e w5 hm; obtain ⟨A5, a5, rfl, hi5, hg5⟩ := hm.yes_form; have H5 := Lib.hid (And.intro hi5 (And.intro (H4.out.1.grow hg5) (H4.out.2.trans hg5))); have HI := ints_any (c := a4) (d := a5) H5.out.2.1 H5.out.1 (by omega); rw [show (L == L) = true by simp] at HI; have HI := Lib.hid HI; clear hm hi5 hg5) | (go_at_call 19; refine Calls.mono HI.out ?_; rintro e w6 ⟨rfl, hg6⟩; have H6 := Lib.hid hg6; clear hg6))
  have HA := Lib.hid (And.intro (H5.out.2.1.grow H6.out) (And.intro (H3.out.1.grow (H5.out.2.2.trans H6.out)) ((H3.out.2.2.trans H5.out.2.2).trans H6.out)))
  have hL1 : 1 ≤ L.length := by have := HL.out.1; omega
  clear hcp
  go_loopw [13] (fun i wr => ∃ k q : Nat, 1 ≤ k ∧ k ≤ L.length ∧ i = .int .i64 k ∧ wr = w6.drewN q) (fun i _ => L.length - (intOf i).toNat)
  case atStart => exact ⟨1, 0, Nat.le_refl _, hL1, rfl, rfl⟩
  case round =>
    obtain ⟨k, qq, hk1, hk, rfl, rfl⟩ := hrel
    by_cases hlt : k < L.length
    · have hki : (k : Int) < (L.length : Int) := by omega
      obtain ⟨j, rfl⟩ : ∃ j, k = j + 1 := ⟨k - 1, by omega⟩
      obtain ⟨a, b, ha, hb, hLa, hLb, hab⟩ := HL.out.2.2 j hlt
      have hpl := HL.out.2.1.1
      obtain ⟨bL, oL, rfl, hcL⟩ := HA.out.1.resolve_left (by rintro rfl; simp at hlt)
      obtain ⟨bP, oP, rfl, hcP⟩ := HA.out.2.1.resolve_left (by rintro rfl; simp at hpl; omega)
      have c1 := hcL _ _ hLa
      have c2 := hcL _ _ hLb
      have hap : a < p.length := by omega
      have hbp : b < p.length := by omega
      have c3 := hcP a p[a] (List.getElem?_eq_getElem hap)
      have c4 := hcP b p[b] (List.getElem?_eq_getElem hbp)
      rw [List.getElem?_eq_getElem hap, List.getElem?_eq_getElem hbp, Option.getD_some, Option.getD_some] at hab
      generalize p[a] = x at c3 hab
      generalize p[b] = y at c4 hab
      have hji : (j : Int) < (L.length : Int) := by omega
      have hai : (a : Int) < (p.length : Int) := by omega
      have hbi : (b : Int) < (p.length : Int) := by omega
      clear hLa hLb hcL hcP ha hb hpl
      by_cases e : a = b
      · subst e
        have hne : ((a : Int) != (a : Int)) = false := by simp
        go_wp2_with fail
        have hw : IntKind.i64.wrap ((j : Int) + 1 - 1) = (j : Int) := by rw [IntKind.wrap_i64]; omega
        have hw2 : ((j : Int) + 1).toNat = j + 1 := by omega
        go_quiet (fail)
        clear hw hw2
        go_wp2_with fail
        go_roundw
        case rel => exact ⟨j + 1 + 1, _, by omega, by omega, by go_num, rfl⟩
        case measure => simp [intOf]; omega
      · have hxy := hab.resolve_left e
        have hne : ((a : Int) != (b : Int)) = true := by simp; omega
        have hxy2 : decide (y ≤ x) = false := by simp; omega
        go_wp2_with fail
        have hw : IntKind.i64.wrap ((j : Int) + 1 - 1) = (j : Int) := by rw [IntKind.wrap_i64]; omega
        have hw2 : ((j : Int) + 1).toNat = j + 1 := by omega
        go_quiet (fail)
        clear hw hw2
        go_wp2_with fail
        go_roundw
        case rel => exact ⟨j + 1 + 1, _, by omega, by omega, by go_num, rfl⟩
        case measure => simp [intOf]; omega
    · have hki : ¬ (k : Int) < (L.length : Int) := by omega
      go_wp2_with fail
      exact HR.out _ _ ⟨rfl, HA.out.2.2.drewN _⟩
end Go.Proofs.Ytacfchepacfjnaa
