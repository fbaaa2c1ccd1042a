/- GuardScripts: what the statement's function answers. -/
import Derived.Test.YtcgcljmnnjalpaaGreatGrN
set_option linter.unusedVariables false
set_option linter.unusedSimpArgs false
namespace Go.Proofs.YtcgcljmnnjalpaaGreat
open Go.RowKit Go.Kx
open Go.ChangeMaps (setBlock)
/-- A guard and the reference's guard, beside each other. -/
structure PP (G b : Nat) (w : World) (F1 F2 : FP) (s1 s2 : RS) : Prop where
  g : GM G w F1 s1
  r : RM b w F2 s2
  d : ∀ j, F1 j → ¬ F2 j
section
variable {G b : Nat} {w w' : World} {F1 F2 F' : FP} {s1 s2 s' : RS}
theorem PP.grow (h : PP G b w F1 F2 s1 s2) (hg : Grow w w') : PP G b w' F1 F2 s1 s2 :=
  ⟨(GM.local G).fr (G := fun _ => False) h.g hg (fun _ _ h => h), (RM.local b).fr (G := fun _ => False) h.r hg (fun _ _ h => h), h.d⟩
theorem PP.g1 (h : PP G b w F1 F2 s1 s2) (ha : GM G w' F' s') (hs : Step F1 w F' w') : PP G b w' F' F2 s' s2 :=
  ⟨ha, (RM.local b).fr h.r hs.fr (fun k h2 h1 => h.d k h1 h2), fun j h1 h2 => (hs.sub j h1).elim (fun q => h.d j q h2) (fun q => by have := (RM.local b).lt h.r j h2; omega)⟩
theorem PP.r1 (h : PP G b w F1 F2 s1 s2) (ha : RM b w' F' s') (hs : Step F2 w F' w') : PP G b w' F1 F' s1 s' :=
  ⟨(GM.local G).fr h.g hs.fr (fun k h1 h2 => h.d k h1 h2), ha, fun j h1 h2 => (hs.sub j h2).elim (fun q => h.d j h1 q) (fun q => by have := (GM.local G).lt h.g j h1; omega)⟩
/-- Both in memory that is the call's own. -/
def Own2 (w0 : World) (F1 F2 : FP) : Prop := ∀ j, F1 j ∨ F2 j → w0.heap.size ≤ j
theorem Own2.g1 {w0 : World} (h : Own2 w0 F1 F2) (hg : Grow w0 w) (hs : Step F1 w F' w') : Grow w0 w' ∧ Own2 w0 F' F2 :=
  ⟨(grow_step hg (fun j hj => h j (.inl hj)) hs).1, fun j hj => hj.elim (fun q => (grow_step hg (fun j hj => h j (.inl hj)) hs).2 j q) (fun q => h j (.inr q))⟩
theorem Own2.r1 {w0 : World} (h : Own2 w0 F1 F2) (hg : Grow w0 w) (hs : Step F2 w F' w') : Grow w0 w' ∧ Own2 w0 F1 F' :=
  ⟨(grow_step hg (fun j hj => h j (.inr hj)) hs).1, fun j hj => hj.elim (fun q => h j (.inl q)) (fun q => (grow_step hg (fun j hj => h j (.inr hj)) hs).2 j q)⟩
end
theorem kind_run {k : Int} {n : Nat} (l : List Dd) : (runS (newS k n) l).kind = k := runS_kind _ _
set_option maxRecDepth 100000 in
set_option maxHeartbeats 16000000 in
theorem scripts_any {w : World} {A : Option Addr} {cap : Nat} {l : List Dd} (h : DdAt w A l) (k t : Int) : Calls Tryz.prog 8 #[.int .i64 k, .int .i64 t, .slice A l.length cap] w (TrueP w) := by
  refine cph fun R HR => ?_
  have HD := Lib.hid h
  have HA := Lib.hid (awake_any w)
  have HNw := Lib.hid (fun w1 => gmNew w1 k t)
  have HRw := Lib.hid (fun w1 => rgNew w1 k t)
  clear h
  by_cases hok : (0 ≤ k ∧ k ≤ 5) ∧ 1 ≤ t ∧ t ≤ 4
  · unfold GNewK RGNewK at *
    simp only [if_pos hok] at HNw HRw
    obtain ⟨N, rfl⟩ := Int.eq_ofNat_of_zero_le (a := t) (by omega)
    simp only [Int.toNat_natCast] at HNw HRw
    have hN4 : N ≤ 4 := by omega
    have hfew0 := few_new k (n := N) hN4
    have hbk : ∀ q, q ≤ 150 → Small (runS (newS k N) (l.take q)) ∧ Few 150 (runS (newS k N) (l.take q)) := fun q hq => ⟨(hfew0.run _).small (by simp; omega), (hfew0.run _).mono (by simp; omega)⟩
    have hkd : ∀ q, (runS (newS k N) (l.take q)).kind = k := fun q => kind_run _
    have HBk := Lib.hid hbk
    have HKd := Lib.hid hkd
    clear hbk hfew0 hkd
    generalize newS k N = s0 at HNw HRw HBk HKd
    go_enter Tryz.func8, Tryz.ntmps8
    go_wp2_with (first | (go_at_call 13; refine HA.out.mono ?_; rintro e w1 ⟨rfl, hg1⟩; have HG1 := Lib.hid hg1; clear hg1) | (go_at_call 18; refine (HNw.out _).mono ?_; rintro e w2 ⟨G, F1, rfl, hA, hg, hF⟩; have H2 := Lib.hid (And.intro hA (And.intro hg hF)); clear hA hg hF) | (go_at_call 15; refine (HRw.out _).mono ?_; rintro e w3 ⟨b, F2, rfl, hA, hg, hF⟩; have H3 := Lib.hid (And.intro hA (And.intro hg hF)); clear hA hg hF))
    have hI3 : ∃ F1 F2, PP G b w3 F1 F2 (runS s0 (l.take 0)) (runS s0 (l.take 0)) ∧ Grow w w3 ∧ Own2 w F1 F2 := by
      refine ⟨F1, F2, ⟨(GM.local G).fr H2.out.1 (G := fun _ => False) H3.out.2.1 (fun _ _ h => h), H3.out.1, fun j h1 h2 => ?_⟩, (HG1.out.trans H2.out.2.1).trans H3.out.2.1, fun j hj => ?_⟩
      · have q1 := (GM.local G).lt H2.out.1 j h1
        have q2 := H3.out.2.2 j h2
        omega
      · have g1 := HG1.out.size
        have g2 := H2.out.2.1.size
        rcases hj with q | q
        · have := H2.out.2.2 j q; omega
        · have := H3.out.2.2 j q; omega
    have HI3 := Lib.hid hI3
    clear hI3
    go_loopw [11] (fun i wr => ∃ q : Nat, q ≤ l.length ∧ q ≤ 150 ∧ i = .int .i64 q ∧ Hid (∃ F1 F2, PP G b wr F1 F2 (runS s0 (l.take q)) (runS s0 (l.take q)) ∧ Grow w wr ∧ Own2 w F1 F2)) (fun i _ => l.length - (intOf i).toNat)
    case atStart => exact ⟨0, Nat.zero_le _, by omega, rfl, HI3.out⟩
    case round =>
      obtain ⟨q, hq, hq150, rfl, HQ⟩ := hrel
      by_cases hql : q < l.length ∧ q < 150
      · obtain ⟨hql, hql2⟩ := hql
        have hqi : (q : Int) < (l.length : Int) := by omega
        have hqi2 : (q : Int) < 150 := by omega
        obtain ⟨y, hy⟩ : ∃ y, l[q]? = some y := ⟨l[q], by simp [hql]⟩
        obtain ⟨F1, F2, hp, hg, hF⟩ := HQ.out
        obtain ⟨b9, o9, rfl, hcs⟩ := HD.out.resolve_left (by intro e; rw [e] at hql; simp at hql)
        have HCs := Lib.hid (hcs q y hy)
        have c0 := hg.cell HCs.out.1
        have c1 := hg.cell HCs.out.2.1
        have c2 := hg.cell HCs.out.2.2.1
        have c3 := hg.cell HCs.out.2.2.2
        have hsm := (HBk.out q hq150).1
        have hfw := (HBk.out q hq150).2
        have hbl := back_le _ hfw.2.2 y
        have hbl2 : (doS (runS s0 (l.take q)) y).back.length ≤ 1000000 := by have := hfw.1; omega
        have hsu := runS_succ (s := s0) hy
        have hsm1 := (HBk.out (q + 1) (by omega)).1
        have hkd1 := HKd.out (q + 1)
        rw [hsu] at hsm1 hkd1
        have hal : (addrs (doS (runS s0 (l.take q)) y).st).length ≤ 1000000 := by rw [addrs_len]; have := hsm1.1; omega
        have HSu := Lib.hid hsu
        have HDo := Lib.hid (gmDo hp.g hsm y)
        have H4 := Lib.hid (And.intro hp (And.intro hg hF))
        have HSm := Lib.hid (And.intro hsm (And.intro hsm1 hkd1))
        generalize runS s0 (l.take q) = sq at HDo H4 HSm HSu hbl2 hal
        generalize hr : doS sq y = r at HDo HSm HSu hbl2 hal
        have HRr := Lib.hid hr
        clear hr hy hp hg hF hcs hsm hsm1 hkd1 hfw hbl hsu
        obtain ⟨s1, bk, er⟩ := r
        dsimp only at *
        go_wp2_with (first | (go_at_call 20; refine HDo.out.mono ?_; intro e w6 ho6; obtain ⟨A6, c6, F6, rfl, o6, a6, s6, d6⟩ := ho6.ints; have hp6 := H4.out.1.g1 a6 s6; have g6 := H4.out.2.2.g1 H4.out.2.1 s6; have hT := rmTold hp6.r HSm.out.1 y; rw [HRr.out] at hT; have HT := Lib.hid hT; have hk6 : ∀ j, F2 j → j < wr.heap.size := fun j hj => (RM.local b).lt H4.out.1.r j hj; have H6 := Lib.hid (And.intro hp6 (And.intro g6 (And.intro o6 hk6))); have e0 := g6.1.cell HCs.out.1; have e1 := g6.1.cell HCs.out.2.1; have e2 := g6.1.cell HCs.out.2.2.1; have e3 := g6.1.cell HCs.out.2.2.2; clear o6 a6 s6 d6 hp6 g6 hT hk6 ho6) | (go_at_call 29; refine HT.out.mono ?_; intro e w7 ho7; obtain ⟨A7, c7, F7, rfl, o7, a7, s7, d7⟩ := ho7.ints; have hp7 := H6.out.1.r1 a7 s7; have g7 := H6.out.2.1.2.r1 H6.out.2.1.1 s7; have o67 := owns_fr H6.out.2.2.1 s7.fr (fun j hj hf => by have := (H6.out.2.2.1.lt j hj).1; have := H6.out.2.2.2 j hf; omega); have hs := sameI_any (ca := c6) (cb := c7) (ints_own o67) (ints_own o7) hbl2 hbl2; rw [decide_eq_true rfl] at hs; have HSa := Lib.hid hs; have H7 := Lib.hid (And.intro hp7 g7); clear o7 a7 s7 d7 hp7 g7 o67 hs ho7) | (go_at_call 21; refine HWa.out.mono ?_; intro e w9 ho9; obtain ⟨A8, c8, rfl, o8, g9⟩ := ho9.ints; have hp9 := H8.out.1.grow g9; have HWb := Lib.hid (rgWaiting hp9.r HSm.out.2.1); have H9 := Lib.hid (And.intro hp9 (And.intro (H8.out.2.trans g9) o8)); clear ho9 o8 g9 hp9) | (go_at_call 30; refine HWb.out.mono ?_; intro e w10 ho10; obtain ⟨A9, c9, rfl, o9', g10⟩ := ho10.ints; have hp10 := H9.out.1.grow g10; have hs := sameI_any (ca := c8) (cb := c9) (ints_own (owns_grow H9.out.2.2 g10)) (ints_own o9') hal hal; rw [decide_eq_true rfl] at hs; have HSb := Lib.hid hs; have H10 := Lib.hid (And.intro hp10 (H9.out.2.1.trans g10)); clear ho10 o9' g10 hp10 hs) | (go_at_call 16; refine HSb.out.mono ?_; rintro e w11 ⟨rfl, g11⟩; have hp11 := H10.out.1.grow g11; have hK := gmKind hp11.g; rw [HSm.out.2.2] at hK; have HK := Lib.hid hK; have H11 := Lib.hid (And.intro hp11 (H10.out.2.trans g11)); clear hp11 g11 hK) | (go_at_call 16; refine HSa.out.mono ?_; rintro e w8 ⟨rfl, g8⟩; have hp8 := H7.out.1.grow g8; have HWa := Lib.hid (gmWaiting hp8.g HSm.out.2.1); have H8 := Lib.hid (And.intro hp8 (H7.out.2.1.trans g8)); clear hp8 g8) | (go_at_call 31; refine HK.out.mono ?_; rintro e w12 ⟨rfl, rfl⟩))
        go_roundw
        case rel => exact ⟨q + 1, by omega, by omega, by go_num, F6, F7, by rw [HSu.out]; exact H11.out.1, H11.out.2, H7.out.2.2⟩
        case measure => simp [intOf] <;> omega
      · have d12 : (¬ (q : Int) < (l.length : Int)) ∨ ((q : Int) < (l.length : Int) ∧ ¬ (q : Int) < 150) := by omega
        clear hql
        rcases d12 with hki | ⟨hki, hki2⟩
        case' inl => have d1 := decide_eq_false hki
        case' inr => have d2 := decide_eq_false hki2
        all_goals
          go_wp2_with fail
          obtain ⟨F1, F2, hp, hg, hF⟩ := HQ.out
          exact HR.out _ _ ⟨rfl, hg⟩
  · unfold GNewK RGNewK at *
    simp only [if_neg hok] at HNw HRw
    clear hok
    go_enter Tryz.func8, Tryz.ntmps8
    go_wp2_with (first | (go_at_call 13; refine HA.out.mono ?_; rintro e w1 ⟨rfl, hg1⟩; have HG1 := Lib.hid hg1; clear hg1) | (go_at_call 18; refine (HNw.out _).mono ?_; rintro e w2 ⟨rfl, hg⟩; have H2 := Lib.hid hg; clear hg) | (go_at_call 15; refine (HRw.out _).mono ?_; rintro e w3 ⟨rfl, hg⟩; have H3 := Lib.hid hg; clear hg))
    go_loop [11] (fun i => i = .int .i64 0) (fun i => 0)
    case atStart => rfl
    case round =>
      subst hrel
      by_cases hl : 0 < l.length
      · have hqi : (0 : Int) < (l.length : Int) := by omega
        go_wp2_with fail
        exact HR.out _ _ ⟨rfl, (HG1.out.trans H2.out).trans H3.out⟩
      · have hqi : ¬ (0 : Int) < (l.length : Int) := by omega
        go_wp2_with fail
        exact HR.out _ _ ⟨rfl, (HG1.out.trans H2.out).trans H3.out⟩
end Go.Proofs.YtcgcljmnnjalpaaGreat
