/- The statement LineLines answers true, for every size and every list of accesses that memory holds. -/
import Derived.Test.YtabplbalacldfaaLtI
import Derived.Test.YtabplbalacldfaaLtM
import Derived.Test.YtabplbalacldfaaLtP
set_option linter.unusedVariables false
set_option linter.unusedSimpArgs false
namespace Go.Proofs.Ytabplbalacldfaa
open Go.RowKit Go.Kx
@[go_sem] theorem eq55 (a b c d : Int) (w : World) : (Op.equalIn 10000 55 (.agg #[.int .i64 a, .int .i64 b]) (.agg #[.int .i64 c, .int .i64 d])).run Try.prog w = .ok (a == c && b == d) w := by
  have u3 := Try.underlying3
  have a3 := Try.isAgg3
  have z3 := Try.sizeOf3
  rw [show (10000 : Nat) = 9999 + 1 from rfl, Op.equalIn]
  simp only [Sem.run_bind, run_underlying Try.underlying55, Result.andThen_ok]
  simp only [Std.Legacy.Range.forIn_eq_forIn_range', Std.Legacy.Range.size, Nat.sub_zero, Nat.add_sub_cancel, Nat.div_one, List.range'_succ, List.range'_zero, List.forIn_cons, List.forIn_nil]
  go_simp
  by_cases h1 : a = c <;> by_cases h2 : b = d <;> simp [h1, h2]
def PrAt (w : World) (A : Option Addr) (L : List (Int × Int)) : Prop := L = [] ∨ ∃ g, A = some ⟨g, 0, none⟩ ∧ ∀ i p, L[i]? = some p → w.cell? ⟨g, i * 2, none⟩ = some (.int .i64 p.1) ∧ w.cell? ⟨g, i * 2 + 1, none⟩ = some (.int .i64 p.2)
theorem PrAt.grow {w w' : World} {A : Option Addr} {L : List (Int × Int)} (h : PrAt w A L) (hg : Grow w w') : PrAt w' A L :=
  h.imp id fun ⟨g, h1, h2⟩ => ⟨g, h1, fun i p hp => ⟨hg.cell (h2 i p hp).1, hg.cell (h2 i p hp).2⟩⟩
theorem prCells_get : ∀ (L : List (Int × Int)) (i : Nat) (p : Int × Int), L[i]? = some p → (prCells L)[i * 2]? = some (.int .i64 p.1) ∧ (prCells L)[i * 2 + 1]? = some (.int .i64 p.2)
  | [], _, _, h => by simp at h
  | q :: L, 0, p, h => by simp at h; subst h; simp [prCells]
  | q :: L, i + 1, p, h => by
    have ih := prCells_get L i p (by simpa using h)
    have e : prCells (q :: L) = .int .i64 q.1 :: .int .i64 q.2 :: prCells L := by simp [prCells]
    rw [e, show (i + 1) * 2 = i * 2 + 1 + 1 by omega, show i * 2 + 1 + 1 + 1 = (i * 2 + 1) + 1 + 1 by rfl]
    simpa using ih
def LinesQ (w : World) (L : List (Int × Int)) (z : Int) (e : Ending) (w' : World) : Prop := ∃ A c, e = .returned (.tuple #[.slice A L.length c, .int .i64 z]) ∧ PrAt w' A L ∧ Grow w w'
theorem PairsE.q {w w' : World} {ok : Bool} {L : List (Int × Int)} {e : Ending} (h : PairsE w ok L e w') : LinesQ w (if ok then L else []) (if ok then 0 else 1) e w' := by
  obtain ⟨v, rfl, ho, hg⟩ := h
  generalize (if ok then L else []) = N at ho ⊢
  have hl := ho.1
  rcases ho.2 with ⟨rfl, h0⟩ | ⟨g, cap, cur, rfl, _, hb, h1, h2, h3, h4⟩
  · have : N = [] := List.eq_nil_of_length_eq_zero h0
    subst this
    exact ⟨none, 0, rfl, .inl rfl, hg⟩
  · refine ⟨_, cap, rfl, .inr ⟨g, rfl, fun i p hp => ?_⟩, hg⟩
    have hi : i < N.length := (List.getElem?_eq_some_iff.1 hp).1
    obtain ⟨q0, q1⟩ := prCells_get N i p hp
    rw [← h4] at q0 q1
    rw [List.getElem?_take_of_lt (by omega), Array.getElem?_toList] at q0 q1
    exact ⟨(blk_cell hb _).trans q0, (blk_cell hb _).trans q1⟩
def psum (L : List (Int × Int)) (i : Nat) : Int := ((L.take i).map Prod.snd).sum
theorem psum_succ {L : List (Int × Int)} {i : Nat} {p : Int × Int} (h : L[i]? = some p) : psum L (i + 1) = psum L i + p.2 := by
  unfold psum
  rw [take_snoc h, List.map_append, List.sum_append]
  simp
theorem psum_bound {L : List (Int × Int)} (h : ∀ p ∈ L, 0 ≤ p.2 ∧ p.2 ≤ 300) : ∀ i, i ≤ L.length → 0 ≤ psum L i ∧ psum L i ≤ i * 300
  | 0, _ => by simp [psum]
  | i + 1, hi => by
    obtain ⟨p, hp⟩ : ∃ p, L[i]? = some p := ⟨L[i], by simp⟩
    have ih := psum_bound h i (by omega)
    have := h p (List.mem_of_getElem? hp)
    rw [psum_succ hp]
    omega
theorem lnP_total {size : Int} {l : List A3} (hok : ∀ x ∈ l, bad x = false) : psum (lnP size l) (lnP size l).length = sumTo (fun t => cnt (tg size l) t 2) 4 := by
  unfold psum
  rw [List.take_length]
  have h1 := total (size := size) hok l.length (Nat.le_refl _)
  rw [List.take_of_length_le (by rw [tg_length]; exact Nat.le_refl _)] at h1
  rw [h1, ← lines_total (size := size) (l := l) (D := dist (lnsL size l)) ?_ ?_ l.length (Nat.le_refl _)]
  · unfold lnP
    rw [List.map_map]
    rfl
  · exact (dist_asc _).imp (fun {a b} h => by omega)
  · intro a ha
    exact dist_mem.2 (List.mem_map.2 ⟨a, ha, rfl⟩)
theorem lnP_bound {size : Int} {l : List A3} (hl : l.length ≤ 300) : ∀ p ∈ lnP size l, 0 ≤ p.2 ∧ p.2 ≤ 300 := by
  intro p hp
  obtain ⟨q, _, rfl⟩ := List.mem_map.1 hp
  have := trK_bound size l q l.length
  show 0 ≤ trK size l q l.length ∧ trK size l q l.length ≤ 300
  omega
/-- Counts, with the sum of their transfers. -/
def SumQ (w : World) (s : Int) (e : Ending) (w' : World) : Prop :=
  Grow w w' ∧ ((s = 0 ∧ ∃ c z, e = .returned (.tuple #[.slice none 0 c, .int .i64 z])) ∨ ∃ g c z r0 r1 r2 r3, e = .returned (.tuple #[.slice (some ⟨g, 0, none⟩) 4 c, .int .i64 z]) ∧ s = r0 + r1 + r2 + r3 ∧ (0 ≤ r0 ∧ r0 ≤ 300) ∧ (0 ≤ r1 ∧ r1 ≤ 300) ∧ (0 ≤ r2 ∧ r2 ≤ 300) ∧ (0 ≤ r3 ∧ r3 ≤ 300) ∧
    w'.cell? ⟨g, 2, none⟩ = some (.int .i64 r0) ∧ w'.cell? ⟨g, 6, none⟩ = some (.int .i64 r1) ∧ w'.cell? ⟨g, 10, none⟩ = some (.int .i64 r2) ∧ w'.cell? ⟨g, 14, none⟩ = some (.int .i64 r3))
theorem sumQ (w : World) (A : Option Addr) (l : List A3) (cap : Nat) (n : Int) (hl : Acc w A l) (hn : l.length ≤ 300) :
    Calls Try.prog 10 #[.int .i64 n, .slice A l.length cap] w (SumQ w (psum (if goodB n l then lnP n l else []) (if goodB n l then lnP n l else []).length)) :=
  (counts_p w A l cap n hl (by omega)).mono fun e w' h => by
    cases hg : goodB n l
    · obtain ⟨rfl, hg2⟩ := h.bad hg
      exact ⟨hg2, .inl ⟨rfl, 0, 1, rfl⟩⟩
    · obtain ⟨g, c, rfl, _, hc, hg2, _⟩ := h.good hg
      obtain ⟨_, _, _, hok⟩ := good_parts hg
      have hb : ∀ t, 0 ≤ cnt (tg n l) t 2 ∧ cnt (tg n l) t 2 ≤ 300 := fun t => by
        have := cnt_bound (tg n l) t 2
        rw [tg_length] at this
        omega
      refine ⟨hg2, .inr ⟨g, c, 0, _, _, _, _, rfl, ?_, hb 0, hb 1, hb 2, hb 3, hc 0 2 (by omega) (by omega), hc 1 2 (by omega) (by omega), hc 2 2 (by omega) (by omega), hc 3 2 (by omega) (by omega)⟩⟩
      simp only [if_true]
      rw [lnP_total hok]
      simp [sumTo]
def IntsQ (w : World) (C : List Int) (z : Int) (e : Ending) (w' : World) : Prop := ∃ A c, e = .returned (.tuple #[.slice A C.length c, .int .i64 z]) ∧ IntsAt w' A C ∧ Grow w w'
theorem ints_same {w : World} {A B : Option Addr} {c d : Nat} {C : List Int} (h1 : IntsAt w A C) (h2 : IntsAt w B C) (hl : C.length ≤ 1000) : Calls Try.prog 22 #[.slice A C.length c, .slice B C.length d] w (EqP w true) :=
  (ints_any h1 h2 (by omega)).mono fun e w' ⟨h, g⟩ => ⟨by rw [h]; simp, g⟩
set_option maxRecDepth 100000 in
set_option maxHeartbeats 8000000 in
theorem lineLines_any (w : World) (A : Option Addr) (l : List A3) (cap : Nat) (size : Int) (hA : Arg w A l cap) :
    Calls Try.prog 7 #[.int .i64 size, .slice A l.length cap] w (TrueP w) := by
  refine cph fun R HR => ?_
  by_cases h1 : (300 : Int) < (l.length : Int)
  · clear hA
    go_enter Try.func7, Try.ntmps7
    go_wp2_with (go_at_call 9; refine (sane_p _).mono ?_)
    rintro e w1 ⟨rfl, hg⟩
    have HG := Lib.hid hg
    clear hg
    go_wp2_with fail
    exact HR.out _ _ ⟨rfl, HG.out⟩
  · have hl : l.length ≤ 300 := by omega
    have HP1 : Hid (∀ W : World, Grow w W → Calls Try.prog 23 #[.int .i64 size, .slice A l.length cap] W (LinesQ W (if goodB size l then lnP size l else []) (if goodB size l then 0 else 1))) := fun W hg => (linesP_any W A l cap size (hA.acc.grow hg) hl).mono fun e w' h => h.q
    have HP2 : Hid (∀ W : World, Grow w W → Calls Try.prog 24 #[.int .i64 size, .slice A l.length cap] W (LinesQ W (if goodB size l then lnP size l else []) (if goodB size l then 0 else 1))) := fun W hg => (refLines_any W A l cap size (hA.acc.grow hg) hl).mono fun e w' h => h.q
    have HS1 : Hid (∀ W : World, Grow w W → Calls Try.prog 25 #[.int .i64 size, .slice A l.length cap] W (IntsQ W (if goodB size l then shr size l else []) (if goodB size l then 0 else 1))) := fun W hg => (shared_any W A l cap size (hA.acc.grow hg) hl).mono fun e w' h => h.form
    have HS2 : Hid (∀ W : World, Grow w W → Calls Try.prog 26 #[.int .i64 size, .slice A l.length cap] W (IntsQ W (if goodB size l then shr size l else []) (if goodB size l then 0 else 1))) := fun W hg => (refShared_any W A l cap size (hA.acc.grow hg) hl).mono fun e w' h => h.form
    have HC := Lib.hid (fun (W : World) (hg : Grow w W) => sumQ W A l cap size (hA.acc.grow hg) hl)
    have hLb : ∀ p ∈ (if goodB size l then lnP size l else []), 0 ≤ p.2 ∧ p.2 ≤ 300 := by
      split
      · exact lnP_bound hl
      · intro p hp; simp at hp
    have hLl : (if goodB size l then lnP size l else []).length ≤ 300 := by
      have h2 := dist_len (lnsL size l)
      rw [lnsL_len] at h2
      split
      · unfold lnP; rw [List.length_map]; omega
      · simp
    have hCl : (if goodB size l then shr size l else []).length ≤ 300 := by
      have h2 := dist_len (lnsL size l)
      rw [lnsL_len] at h2
      split
      · unfold shr
        have := List.length_filter_le (fun q => usedB size l q && writB size l q) (dist (lnsL size l))
        omega
      · simp
    clear hA
    generalize (if goodB size l then lnP size l else []) = L at HP1 HP2 HC hLb hLl
    generalize (if goodB size l then shr size l else []) = C at HS1 HS2 hCl
    generalize (if goodB size l then (0 : Int) else 1) = z at HP1 HP2 HS1 HS2
    have HLB := Lib.hid hLb
    clear hLb
    go_enter Try.func7, Try.ntmps7
    go_wp2_with (go_at_call 23; refine (HP1.out _ (Grow.refl _)).mono ?_)
    rintro e w1 ⟨A1, k1, rfl, ha1, hg1⟩
    have H1 := Lib.hid (And.intro ha1 hg1)
    clear ha1 hg1
    go_wp2_with (go_at_call 24; refine (HP2.out _ H1.out.2).mono ?_)
    rintro e w2 ⟨A2, k2, rfl, ha2, hg2⟩
    have H2 := Lib.hid (And.intro ha2 (And.intro (H1.out.1.grow hg2) (H1.out.2.trans hg2)))
    clear ha2 hg2 H1
    go_wp2_with (go_at_call 25; refine (HS1.out _ H2.out.2.2).mono ?_)
    rintro e w3 ⟨A3, k3, rfl, ha3, hg3⟩
    have H3 := Lib.hid (And.intro ha3 (And.intro (H2.out.1.grow hg3) (And.intro (H2.out.2.1.grow hg3) (H2.out.2.2.trans hg3))))
    clear ha3 hg3 H2
    go_wp2_with (go_at_call 26; refine (HS2.out _ H3.out.2.2.2).mono ?_)
    rintro e w4 ⟨A4, k4, rfl, ha4, hg4⟩
    have HI := Lib.hid (ints_same (c := k3) (d := k4) (H3.out.1.grow hg4) ha4 (by omega))
    have H4 := Lib.hid (And.intro (H3.out.2.1.grow hg4) (And.intro (H3.out.2.2.1.grow hg4) (H3.out.2.2.2.trans hg4)))
    clear ha4 hg4 H3
    go_wp2_with (go_at_call 22; refine HI.out.mono ?_; rintro e w5 ⟨rfl, hg5⟩; have H5 := Lib.hid (And.intro (H4.out.1.grow hg5) (And.intro (H4.out.2.1.grow hg5) (H4.out.2.2.trans hg5))); clear hg5)
    go_loopw [13, 14] (fun a i wr => ∃ k : Nat, k ≤ L.length ∧ a = .int .i64 (psum L k) ∧ i = .int .i64 k ∧ Hid (Grow w5 wr)) (fun _ i _ => L.length - (intOf i).toNat)
    case atStart => exact ⟨0, by omega, rfl, rfl, Grow.refl _⟩
    case round =>
      obtain ⟨k, hk, rfl, rfl, HW⟩ := hrel
      by_cases hlk : k < L.length
      · obtain ⟨⟨q, tv⟩, hp⟩ : ∃ p, L[k]? = some p := ⟨L[k], by simp [hlk]⟩
        obtain ⟨g1, e1, hc1⟩ := H5.out.1.resolve_left (by rintro rfl; simp at hlk)
        obtain ⟨g2, e2, hc2⟩ := H5.out.2.1.resolve_left (by rintro rfl; simp at hlk)
        subst e1
        subst e2
        have q0 := HW.out.cell (hc1 k _ hp).1
        have q1 := HW.out.cell (hc1 k _ hp).2
        have r0 := HW.out.cell (hc2 k _ hp).1
        have r1 := HW.out.cell (hc2 k _ hp).2
        dsimp only at q0 q1 r0 r1
        obtain ⟨tb1, tb2⟩ := HLB.out _ (List.mem_of_getElem? hp)
        dsimp only at tb1 tb2
        obtain ⟨sb1, sb2⟩ := psum_bound HLB.out k hk
        have HN := Lib.hid (psum_succ hp)
        clear hp hc1 hc2
        generalize psum L k = s at sb1 sb2 HN ⊢
        have hki : (k : Int) < (L.length : Int) := by omega
        go_wp2_with fail
        go_quiet (fail)
        go_wp2_with fail
        go_roundw
        case rel => exact ⟨k + 1, by omega, by rw [HN.out], by go_num, HW.out.drewN _⟩
        case measure => simp [intOf] <;> omega
      · obtain rfl : k = L.length := by omega
        have hki : ¬ (L.length : Int) < (L.length : Int) := by omega
        obtain ⟨sb1, sb2⟩ := psum_bound HLB.out L.length (Nat.le_refl _)
        have H6 := Lib.hid (H5.out.2.2.trans HW.out)
        generalize psum L L.length = s at sb1 sb2 HC ⊢
        go_wp2_with (go_at_call 10; refine (HC.out _ H6.out).mono ?_)
        rintro e w7 ⟨hg7, ⟨hs, c, z7, rfl⟩ | ⟨g, c, z7, r0, r1, r2, r3, rfl, hs, ⟨t0, t1⟩, ⟨t2, t3⟩, ⟨t4, t5⟩, ⟨t6, t7⟩, q0, q1, q2, q3⟩⟩
        · have H7 := Lib.hid (H6.out.trans hg7)
          subst hs
          clear hg7
          go_wp2_with fail
          refine wp_loop_rounds 1 ?_
          rw [rounds_succ]
          go_wp2_with (go_at_call 9; refine (sane_p _).mono ?_; rintro e w8 ⟨rfl, hg8⟩; have H8 := Lib.hid (H7.out.trans hg8); clear hg8)
          exact HR.out _ _ ⟨rfl, H8.out⟩
        · have H7 := Lib.hid (H6.out.trans hg7)
          have hz : (s - r0 - r1 - r2 - r3 == 0) = true := by simp; omega
          clear hg7
          go_wp2_with fail
          refine wp_loop_rounds 5 ?_
          rw [rounds_succ]
          go_wp2_with fail
          rw [rounds_succ]
          go_wp2_with fail
          rw [rounds_succ]
          go_wp2_with fail
          rw [rounds_succ]
          go_wp2_with fail
          rw [rounds_succ]
          go_wp2_with (go_at_call 9; refine (sane_p _).mono ?_; rintro e w8 ⟨rfl, hg8⟩; have H8 := Lib.hid (H7.out.trans hg8); clear hg8)
          exact HR.out _ _ ⟨rfl, H8.out⟩
end Go.Proofs.Ytabplbalacldfaa
