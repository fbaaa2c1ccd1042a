/- The contract of line.Counts, for every size and every list of accesses that memory holds. -/
import Derived.Test.YtabplbalacldfaaLMoves
import Derived.Lib.SliceRun
set_option linter.unusedVariables false
set_option linter.unusedSimpArgs false
namespace Go.Proofs.Ytabplbalacldfaa
open Go.RowKit Go.Kx
theorem info30 : (Try.prog.info? 30).map (fun i => (i.zero, i.size, i.bytes)) = some (some (.agg #[.int .i64 0, .int .i64 0, .int .i64 0, .int .i64 0]), 4, 32) := by kernel_rfl
theorem clone_count (w : World) (ad : Addr) (n c : Nat) (xs : List Value) (hl : xs.length = n * 4) (hx : ∀ j u, xs[j]? = some u → w.cell? (ad.add j) = some u) (h1 : ∀ u ∈ xs, u.oneCell' = true) (hn : n ≤ 1000000) :
    Calls Try.prog 29 #[.slice (some ad) n c] w fun e w' => ∃ v, e = .returned v ∧ w'.ownsRow w.heap.size 30 4 v n xs ∧ Grow w w' := by
  refine cph fun R HR => ?_
  have HX := Lib.hid hx
  have HH := Lib.hid h1
  have HL := Lib.hid hl
  clear hx h1 hl
  have hn63 : Hid (0 + n ≤ maxLen) := by show _ ≤ _; unfold maxLen; omega
  obtain ⟨i0, hi, hz0, hz1, hz2⟩ := info_parts info30
  have qT : ∀ (w : World) (a : Option Addr) (n c n' c' : Nat), (binOp .eql 25 (.slice a n c) (.slice none n' c')).run Try.prog w = .ok (.bool a.isNone) w := fun w a n c n' c' => Lib.run_eql_slice_nil w _ _ a n c n' c' Try.underlying25
  go_enter Try.func29, Try.ntmps29
  go_wp2_with (at_builtin; refine wpList_append_own _ rfl (.tmp 5) (.tmp 6) 25 rfl w.heap.size 30 i0 (.agg #[.int .i64 0, .int .i64 0, .int .i64 0, .int .i64 0]) 4 32 Try.underlying25 hi hz0 hz1 hz2 rfl (by decide) _ 0 [] rfl ?_ ad n c xs rfl HL.out ?_ HH.out hn63.out (by omega) ?_ ?_)
  · exact World.ownsRow_made w #[] 0 (Nat.le_refl _) (by decide) rfl
  · intro j u hu
    exact ((Grow.refl w).alloc _).cell (HX.out j u hu)
  · rw [size_alloc]; omega
  · intro v' w1 hown hgrow _
    have HO := Lib.hid (And.intro hown hgrow)
    clear hown hgrow
    go_wp2_with fail
    refine HR.out _ _ ⟨v', rfl, HO.out.1, ((Grow.refl w).alloc _).grown HO.out.2 (fun k hk => ?_)⟩
    have : w.heap.size = k := by simpa [Value.ownBlock] using hk
    omega
/-! ### Counts -/
abbrev Tg := A3 × Bool × Bool
def tg (size : Int) (l : List A3) : List Tg := l.zip (outs size l st0)
def inc (j : Nat) (p : Tg) : Bool := match j with
  | 0 => !(p.1.2.2 == 1)
  | 1 => p.1.2.2 == 1
  | 2 => p.2.1
  | _ => p.2.2
def cnt (ps : List Tg) (t j : Nat) : Int := ((ps.filter fun p => p.1.1 == (t : Int) && inc j p).length : Int)
theorem cnt_snoc (ps : List Tg) (p : Tg) (t j : Nat) : cnt (ps ++ [p]) t j = cnt ps t j + if p.1.1 == (t : Int) && inc j p then 1 else 0 := by
  unfold cnt
  rw [List.filter_append, List.length_append]
  by_cases h : (p.1.1 == (t : Int) && inc j p) = true
  · simp [h]
  · simp [h]
theorem cnt_bound (ps : List Tg) (t j : Nat) : 0 ≤ cnt ps t j ∧ cnt ps t j ≤ ps.length := by
  unfold cnt
  have := List.length_filter_le (fun p : Tg => p.1.1 == (t : Int) && inc j p) ps
  omega
theorem tg_length (size : Int) (l : List A3) : (tg size l).length = l.length := by simp [tg, outs_length]
/-- The array of the four counts. -/
def CountsAt (w : World) (b : Nat) (f : Nat → Nat → Int) : Prop :=
  ∃ c, w.heap[b]? = some (.cells c 57 (0, 0)) ∧ c.size = 16 ∧ ∀ t j, t < 4 → j < 4 → c[t * 4 + j]? = some (.int .i64 (f t j))
theorem CountsAt.set {w : World} {b : Nat} {f : Nat → Nat → Int} (h : CountsAt w b f) {t j : Nat} (ht : t < 4) (hj : j < 4) (v : Int) : CountsAt (w.setCell ⟨b, t * 4 + j, none⟩ (.int .i64 v)) b (fun t' j' => if t' = t ∧ j' = j then v else f t' j') := by
  obtain ⟨c, h1, h2, h3⟩ := h
  refine ⟨_, blk_set h1 _ _, by simpa using h2, fun t' j' ht' hj' => ?_⟩
  rw [arr_get_set]
  by_cases e : t' = t ∧ j' = j
  · obtain ⟨rfl, rfl⟩ := e
    simp [h2]; omega
  · rw [if_neg (by omega)]; simp only [if_neg e]; exact h3 t' j' ht' hj'
theorem CountsAt.fr {w w' : World} {b : Nat} {f : Nat → Nat → Int} (h : CountsAt w b f) {S : Nat → Prop} (hf : Fr S w w') (hn : ¬ S b) : CountsAt w' b f := by
  obtain ⟨c, h1, h2, h3⟩ := h
  exact ⟨c, hf.at_ h1 hn, h2, h3⟩
theorem CountsAt.cell {w : World} {b : Nat} {f : Nat → Nat → Int} (h : CountsAt w b f) {t j : Nat} (ht : t < 4) (hj : j < 4) : w.cell? ⟨b, t * 4 + j, none⟩ = some (.int .i64 (f t j)) := by
  obtain ⟨c, h1, h2, h3⟩ := h
  rw [blk_cell h1]; exact h3 t j ht hj
theorem CountsAt.free {w : World} {b : Nat} {f : Nat → Nat → Int} (h : CountsAt w b f) (o : Nat) : w.frozen? ⟨b, o, none⟩ = false := by
  obtain ⟨c, h1, h2, h3⟩ := h
  exact blk_free h1 o
def countCells (f : Nat → Nat → Int) : List Value := (List.range 16).map fun i => .int .i64 (f (i / 4) (i % 4))
theorem countsStart (w : World) : CountsAt (w.alloc (.cells #[.int .i64 0, .int .i64 0, .int .i64 0, .int .i64 0, .int .i64 0, .int .i64 0, .int .i64 0, .int .i64 0, .int .i64 0, .int .i64 0, .int .i64 0, .int .i64 0, .int .i64 0, .int .i64 0, .int .i64 0, .int .i64 0] 57)) w.heap.size (cnt []) := by
  refine ⟨_, blk_new w _, rfl, fun t j ht hj => ?_⟩
  have : cnt [] t j = 0 := rfl
  rw [this]
  match t, j, ht, hj with
  | 0, 0, _, _ | 0, 1, _, _ | 0, 2, _, _ | 0, 3, _, _ | 1, 0, _, _ | 1, 1, _, _ | 1, 2, _, _ | 1, 3, _, _ | 2, 0, _, _ | 2, 1, _, _ | 2, 2, _, _ | 2, 3, _, _ | 3, 0, _, _ | 3, 1, _, _ | 3, 2, _, _ | 3, 3, _, _ => rfl
/-- Of a row of bools that is owned: where it lies, and its cells. -/
theorem bools_at {w : World} {base n : Nat} {v : Value} {xs : List Bool} (h : w.ownsRow base 4 1 v n (bools xs)) (h0 : 0 < n) : ∃ g cap, v = .slice (some ⟨g, 0, none⟩) n cap ∧ n ≤ cap ∧ (∃ c, w.heap[g]? = some (.cells c 4 (0, 0)) ∧ ∀ (j : Nat) (x : Bool), xs[j]? = some x → c[j]? = some (Value.bool x)) := by
  have hl : (bools xs).length = n * 1 := h.1
  rcases h.2 with ⟨_, h1⟩ | ⟨g, cap, cur, rfl, hb, hg, h1, h2, h3, h4⟩
  · omega
  · refine ⟨g, cap, rfl, h1, cur, hg, fun j x hx => ?_⟩
    have hj : j < xs.length := (List.getElem?_eq_some_iff.1 hx).1
    have e : (bools xs)[j]? = some (.bool x) := by simp [bools, hx]
    rw [← h4, List.getElem?_take] at e
    simp [bools] at hl
    rw [if_pos (by omega)] at e
    simpa using e
theorem bump_counts {w : World} {b : Nat} {ps : List Tg} {p : Tg} {t : Nat} {y z : Int} {m g : Bool} (hp : p = (((t : Int), y, z), m, g)) {r0 r1 r2 r3 : Int} (hr : cnt ps t 0 = r0 ∧ cnt ps t 1 = r1 ∧ cnt ps t 2 = r2 ∧ cnt ps t 3 = r3)
    {f : Nat → Nat → Int} (h : CountsAt w b f)
    (hf : ∀ t' j, t' < 4 → j < 4 → f t' j = if t' = t then (match j with | 0 => r0 + (if z == 1 then 0 else 1) | 1 => r1 + (if z == 1 then 1 else 0) | 2 => r2 + (if m then 1 else 0) | _ => r3 + (if g then 1 else 0)) else cnt ps t' j) : CountsAt w b (cnt (ps ++ [p])) := by
  obtain ⟨c, h1, h2, h3⟩ := h
  refine ⟨c, h1, h2, fun t' j ht hj => ?_⟩
  rw [h3 t' j ht hj, hf t' j ht hj, cnt_snoc, hp]
  by_cases e : t' = t
  · subst e
    simp only [if_true, beq_self_eq_true, Bool.true_and]
    obtain ⟨e0, e1, e2, e3⟩ := hr
    match j, hj with
    | 0, _ => rw [e0]; cases hz : z == 1 <;> simp [inc, hz]
    | 1, _ => rw [e1]; cases hz : z == 1 <;> simp [inc, hz]
    | 2, _ => rw [e2]; cases m <;> simp [inc]
    | 3, _ => rw [e3]; cases g <;> simp [inc]
  · have : ((t : Int) == (t' : Int)) = false := by simp; omega
    simp [e, this]
theorem CountsAt.cells {w : World} {b : Nat} {f : Nat → Nat → Int} (h : CountsAt w b f) : ∀ j u, (countCells f)[j]? = some u → w.cell? ((⟨b, 0, none⟩ : Addr).add j) = some u := by
  intro j u hu
  have hj : j < 16 := by have := (List.getElem?_eq_some_iff.1 hu).1; simpa [countCells] using this
  have e : (⟨b, 0, none⟩ : Addr).add j = ⟨b, (j / 4) * 4 + j % 4, none⟩ := by
    unfold Addr.add
    split
    · next h => subst h; rfl
    · simp; omega
  rw [e, h.cell (by omega) (by omega)]
  simp [countCells, hj] at hu
  rw [hu]
theorem countCells_one (f : Nat → Nat → Int) : ∀ u ∈ countCells f, u.oneCell' = true := by
  intro u hu
  obtain ⟨i, _, rfl⟩ := List.mem_map.1 hu
  rfl
set_option maxHeartbeats 4000000 in
theorem counts_any (w : World) (A : Option Addr) (l : List A3) (cap : Nat) (size : Int) (hl : Acc w A l) (hn : l.length ≤ maxLen) :
    Calls Try.prog 10 #[.int .i64 size, .slice A l.length cap] w fun e w' => Grow w w' ∧
      if goodB size l then ∃ v, e = .returned (.tuple #[v, .int .i64 0]) ∧ w'.ownsRow w.heap.size 30 4 v 4 (countCells (cnt (tg size l)))
      else e = .returned (.tuple #[.slice none 0 0, .int .i64 1]) := by
  refine cph fun R HR => ?_
  have HV := fun wx (g : Grow w wx) => Lib.hid (valid_any wx A l cap (hl.grow g) hn)
  have HL := Lib.hid hl
  clear hl
  cases hs : (decide (1 ≤ size) && decide (size ≤ 16))
  · go_enter Try.func10, Try.ntmps10
    go_wp2_with (go_at_call 27; refine (isSize_any _ _).mono ?_; rintro e w' ⟨rfl, rfl⟩)
    refine HR.out _ _ ⟨Grow.refl _, ?_⟩
    rw [if_neg (by simp [goodB, hs])]
    rfl
  · cases hv : okL l
    · go_enter Try.func10, Try.ntmps10
      go_wp2_with (first | (go_at_call 27; refine (isSize_any _ _).mono ?_; rintro e w' ⟨rfl, rfl⟩) | (go_at_call 15; refine (HV _ (Grow.refl _)).out.mono ?_; rintro e w1 ⟨rfl, hg⟩))
      refine HR.out _ _ ⟨hg, ?_⟩
      rw [if_neg (by simp [goodB, hv])]
      rfl
    · have hg0 : goodB size l = true := by simp [goodB, hs, hv]
      have HG := Lib.hid hg0
      clear hg0
      go_enter Try.func10, Try.ntmps10
      go_wp2_with (first | (go_at_call 27; refine (isSize_any _ _).mono ?_; rintro e w' ⟨rfl, rfl⟩) | (go_at_call 15; refine (HV _ (Grow.refl _)).out.mono ?_))
      rintro e w1 ⟨rfl, hg⟩
      have H1 := Lib.hid hg
      clear hg
      obtain ⟨p1, p2, p3, p4⟩ := good_parts HG.out
      have HP := fun o => Lib.hid (played_any (w1.alloc o) A l cap size (HL.out.grow (H1.out.alloc o)) p3 p1 p2 p4)
      have HOK := Lib.hid p4
      clear p4
      go_wp2_with (go_at_call 28; refine (HP _).out.mono ?_)
      rintro e w2 ⟨v1, v2, rfl, hI⟩
      have hs0 := countsStart w1
      have hlt2 : w1.heap.size < w2.heap.size := by have := hI.g.size; rw [size_alloc] at this; omega
      have hC2 := hs0.fr hI.g (fun h => h)
      have hG2 : Grow w w2 := (H1.out.alloc _).trans hI.g
      have e1 := hI.own1
      have e2 := hI.own2
      rw [List.take_length] at e1 e2
      have HC := Lib.hid (And.intro hC2 (And.intro hG2 (And.intro e1 e2)))
      clear hI hs0 hC2 hG2 e1 e2
      by_cases h0 : l = []
      · subst h0
        have HCL := Lib.hid (clone_count w2 ⟨w1.heap.size, 0, none⟩ 4 4 (countCells (cnt [])) rfl HC.out.1.cells (countCells_one _) (by omega))
        go_wp2_with fail
        refine wp_loop_once ?_
        go_wp2_with (go_at_call 29; refine HCL.out.mono ?_)
        rintro e w5 ⟨v, rfl, hv5, hg5⟩
        have H5 := Lib.hid (And.intro hv5 hg5)
        clear hv5 hg5
        go_wp2_with fail
        refine HR.out _ _ ⟨HC.out.2.1.trans H5.out.2, ?_⟩
        rw [if_pos HG.out]
        exact ⟨v, rfl, own_base_le H5.out.1 HC.out.2.1.size⟩
      · obtain ⟨b, off, rfl, hA⟩ := HL.out.resolve_left h0
        have HA := Lib.hid hA
        have hpos : 0 < l.length := by cases l with | nil => exact absurd rfl h0 | cons a l => simp
        clear hA h0
        obtain ⟨g1, cap1, rfl, hc1, cur1, hg1, hm1⟩ := bools_at HC.out.2.2.1 hpos
        obtain ⟨g2, cap2, rfl, hc2, cur2, hg2, hm2⟩ := bools_at HC.out.2.2.2 hpos
        have hne1 : ¬ g1 = w1.heap.size := fun e => by obtain ⟨c, hc, _⟩ := HC.out.1; rw [← e] at hc; rw [hg1] at hc; simp at hc
        have hne2 : ¬ g2 = w1.heap.size := fun e => by obtain ⟨c, hc, _⟩ := HC.out.1; rw [← e] at hc; rw [hg2] at hc; simp at hc
        have hne1' : ¬ w1.heap.size = g1 := fun e => hne1 e.symm
        have hne2' : ¬ w1.heap.size = g2 := fun e => hne2 e.symm
        have HM := Lib.hid (And.intro hg1 (And.intro hm1 (And.intro hg2 hm2)))
        clear hg1 hm1 hg2 hm2
        go_wp2_with fail
        go_loopw [28] (fun i wr => ∃ k : Nat, k ≤ l.length ∧ i = .int .i64 k ∧ Hid (CountsAt wr w1.heap.size (cnt ((tg size l).take k)) ∧ Fr (· = w1.heap.size) w2 wr) ∧ w1.heap.size < wr.heap.size) (fun i _ => l.length - (intOf i).toNat)
        case atStart => exact ⟨0, by omega, rfl, ⟨HC.out.1, Fr.refl _ _⟩, hlt2⟩
        case round =>
          obtain ⟨k, hk, rfl, HI, hlt3⟩ := hrel
          by_cases hlt : k < l.length
          · obtain ⟨⟨x, y, z⟩, hx⟩ : ∃ x, l[k]? = some x := ⟨l[k], by simp [hlt]⟩
            have hgr : Grow w wr := Fr.then HC.out.2.1 HI.out.2 (fun i hi hs => by have := H1.out.size; omega)
            obtain ⟨c0, c1, c2⟩ := (HA.out.grow hgr) k _ hx
            obtain ⟨⟨m, g⟩, hmg⟩ : ∃ p, (outs size l st0)[k]? = some p := ⟨(outs size l st0)[k]'(by rw [outs_length]; exact hlt), by simp [outs_length, hlt]⟩
            have hb1 := HI.out.2.at_ HM.out.1 (fun e => by obtain ⟨c, hc, _⟩ := HC.out.1; rw [← e] at hc; rw [HM.out.1] at hc; simp at hc)
            have hb2 := HI.out.2.at_ HM.out.2.2.1 (fun e => by obtain ⟨c, hc, _⟩ := HC.out.1; rw [← e] at hc; rw [HM.out.2.2.1] at hc; simp at hc)
            have hl1 := blk_lt hb1
            have hl2 := blk_lt hb2
            have q1 := (blk_cell hb1 k).trans (HM.out.2.1 k m (by simp [mvs, hmg]))
            have q2 := (blk_cell hb2 k).trans (HM.out.2.2.2 k g (by simp [wgs, hmg]))
            have HG2 := Lib.hid (And.intro hgr hmg)
            clear hgr hmg hb1 hb2
            dsimp only at c0 c1 c2
            have hb := HOK.out _ (List.mem_of_getElem? hx)
            simp [bad] at hb
            obtain ⟨⟨⟨⟨⟨b1, b2⟩, b3⟩, b4⟩, b5⟩, b6⟩ := hb
            obtain ⟨t, rfl⟩ := Int.eq_ofNat_of_zero_le b1
            have ht : t < 4 := by omega
            have HX := Lib.hid hx
            clear hx
            have hat := HI.out.1
            have d0 := hat.cell ht (show 0 < 4 by omega)
            have d1 := hat.cell ht (show 1 < 4 by omega)
            have d2 := hat.cell ht (show 2 < 4 by omega)
            have d3 := hat.cell ht (show 3 < 4 by omega)
            have f0 := hat.free (t * 4)
            have f1 := hat.free (t * 4 + 1)
            have f2 := hat.free (t * 4 + 2)
            have f3 := hat.free (t * 4 + 3)
            have n0 := cnt_bound ((tg size l).take k) t 0
            have n1 := cnt_bound ((tg size l).take k) t 1
            have n2 := cnt_bound ((tg size l).take k) t 2
            have n3 := cnt_bound ((tg size l).take k) t 3
            have n4 : ((tg size l).take k).length ≤ 2000 := by have := List.length_take_le k (tg size l); omega
            generalize hr0 : cnt ((tg size l).take k) t 0 = r0 at d0 n0
            generalize hr1 : cnt ((tg size l).take k) t 1 = r1 at d1 n1
            generalize hr2 : cnt ((tg size l).take k) t 2 = r2 at d2 n2
            generalize hr3 : cnt ((tg size l).take k) t 3 = r3 at d3 n3
            have n01 := n0.1
            have n02 : r0 ≤ 2000 := by omega
            have n11 := n1.1
            have n12 : r1 ≤ 2000 := by omega
            have n21 := n2.1
            have n22 : r2 ≤ 2000 := by omega
            have n31 := n3.1
            have n32 : r3 ≤ 2000 := by omega
            have HCN := Lib.hid (And.intro hr0 (And.intro hr1 (And.intro hr2 hr3)))
            clear n0 n1 n2 n3 n4 hr0 hr1 hr2 hr3 hat
            rw [Nat.add_zero] at d0
            have hrel : ∀ (w9 : World) (f : Nat → Nat → Int), CountsAt w9 w1.heap.size f → (∀ t' j, t' < 4 → j < 4 → f t' j = if t' = t then (match j with | 0 => r0 + (if z == 1 then 0 else 1) | 1 => r1 + (if z == 1 then 1 else 0) | 2 => r2 + (if m then 1 else 0) | _ => r3 + (if g then 1 else 0)) else cnt ((tg size l).take k) t' j) → CountsAt w9 w1.heap.size (cnt ((tg size l).take (k + 1))) := by
              intro w9 f hf1 hf2
              have : (tg size l)[k]? = some (((t : Int), y, z), m, g) := by
                unfold tg
                rw [List.getElem?_zip_eq_some]
                exact ⟨HX.out, HG2.out.2⟩
              rw [take_snoc this]
              exact bump_counts rfl HCN.out hf1 hf2
            have HREL := Lib.hid hrel
            clear hrel
            cases hz : z == 1 <;> cases m <;> cases g
            · go_wp2_with fail
              go_roundw
              case rel =>
                refine ⟨k + 1, by omega, by go_num, ⟨HREL.out _ _ (CountsAt.fr (HI.out.1.set ht (show 0 < 4 by omega) _) ((Grow.refl _).alloc _) (fun h => h)) ?_, (HI.out.2.setCell ⟨w1.heap.size, t * 4, none⟩ _ (.inr rfl)).alloc _⟩, by simp; omega⟩
                intro t' j ht' hj'
                obtain ⟨e0, e1, e2, e3⟩ := HCN.out
                by_cases e : t' = t
                · subst e
                  match j, hj' with
                  | 0, _ | 1, _ | 2, _ | 3, _ => simp [e0, e1, e2, e3, hz]
                · simp [e]
              case measure => simp [intOf]; omega
            · go_wp2_with fail
              go_roundw
              case rel =>
                refine ⟨k + 1, by omega, by go_num, ⟨HREL.out _ _ (CountsAt.fr ((HI.out.1.set ht (show 0 < 4 by omega) _).set ht (show 3 < 4 by omega) _) ((Grow.refl _).alloc _) (fun h => h)) ?_, ((HI.out.2.setCell ⟨w1.heap.size, t * 4, none⟩ _ (.inr rfl)).setCell ⟨w1.heap.size, t * 4 + 3, none⟩ _ (.inr rfl)).alloc _⟩, by simp; omega⟩
                intro t' j ht' hj'
                obtain ⟨e0, e1, e2, e3⟩ := HCN.out
                by_cases e : t' = t
                · subst e
                  match j, hj' with
                  | 0, _ | 1, _ | 2, _ | 3, _ => simp [e0, e1, e2, e3, hz]
                · simp [e]
              case measure => simp [intOf]; omega
            · go_wp2_with fail
              go_roundw
              case rel =>
                refine ⟨k + 1, by omega, by go_num, ⟨HREL.out _ _ (CountsAt.fr ((HI.out.1.set ht (show 0 < 4 by omega) _).set ht (show 2 < 4 by omega) _) ((Grow.refl _).alloc _) (fun h => h)) ?_, ((HI.out.2.setCell ⟨w1.heap.size, t * 4, none⟩ _ (.inr rfl)).setCell ⟨w1.heap.size, t * 4 + 2, none⟩ _ (.inr rfl)).alloc _⟩, by simp; omega⟩
                intro t' j ht' hj'
                obtain ⟨e0, e1, e2, e3⟩ := HCN.out
                by_cases e : t' = t
                · subst e
                  match j, hj' with
                  | 0, _ | 1, _ | 2, _ | 3, _ => simp [e0, e1, e2, e3, hz]
                · simp [e]
              case measure => simp [intOf]; omega
            · go_wp2_with fail
              go_roundw
              case rel =>
                refine ⟨k + 1, by omega, by go_num, ⟨HREL.out _ _ (CountsAt.fr (((HI.out.1.set ht (show 0 < 4 by omega) _).set ht (show 2 < 4 by omega) _).set ht (show 3 < 4 by omega) _) ((Grow.refl _).alloc _) (fun h => h)) ?_, (((HI.out.2.setCell ⟨w1.heap.size, t * 4, none⟩ _ (.inr rfl)).setCell ⟨w1.heap.size, t * 4 + 2, none⟩ _ (.inr rfl)).setCell ⟨w1.heap.size, t * 4 + 3, none⟩ _ (.inr rfl)).alloc _⟩, by simp; omega⟩
                intro t' j ht' hj'
                obtain ⟨e0, e1, e2, e3⟩ := HCN.out
                by_cases e : t' = t
                · subst e
                  match j, hj' with
                  | 0, _ | 1, _ | 2, _ | 3, _ => simp [e0, e1, e2, e3, hz]
                · simp [e]
              case measure => simp [intOf]; omega
            · go_wp2_with fail
              go_roundw
              case rel =>
                refine ⟨k + 1, by omega, by go_num, ⟨HREL.out _ _ (CountsAt.fr (HI.out.1.set ht (show 1 < 4 by omega) _) ((Grow.refl _).alloc _) (fun h => h)) ?_, (HI.out.2.setCell ⟨w1.heap.size, t * 4 + 1, none⟩ _ (.inr rfl)).alloc _⟩, by simp; omega⟩
                intro t' j ht' hj'
                obtain ⟨e0, e1, e2, e3⟩ := HCN.out
                by_cases e : t' = t
                · subst e
                  match j, hj' with
                  | 0, _ | 1, _ | 2, _ | 3, _ => simp [e0, e1, e2, e3, hz]
                · simp [e]
              case measure => simp [intOf]; omega
            · go_wp2_with fail
              go_roundw
              case rel =>
                refine ⟨k + 1, by omega, by go_num, ⟨HREL.out _ _ (CountsAt.fr ((HI.out.1.set ht (show 1 < 4 by omega) _).set ht (show 3 < 4 by omega) _) ((Grow.refl _).alloc _) (fun h => h)) ?_, ((HI.out.2.setCell ⟨w1.heap.size, t * 4 + 1, none⟩ _ (.inr rfl)).setCell ⟨w1.heap.size, t * 4 + 3, none⟩ _ (.inr rfl)).alloc _⟩, by simp; omega⟩
                intro t' j ht' hj'
                obtain ⟨e0, e1, e2, e3⟩ := HCN.out
                by_cases e : t' = t
                · subst e
                  match j, hj' with
                  | 0, _ | 1, _ | 2, _ | 3, _ => simp [e0, e1, e2, e3, hz]
                · simp [e]
              case measure => simp [intOf]; omega
            · go_wp2_with fail
              go_roundw
              case rel =>
                refine ⟨k + 1, by omega, by go_num, ⟨HREL.out _ _ (CountsAt.fr ((HI.out.1.set ht (show 1 < 4 by omega) _).set ht (show 2 < 4 by omega) _) ((Grow.refl _).alloc _) (fun h => h)) ?_, ((HI.out.2.setCell ⟨w1.heap.size, t * 4 + 1, none⟩ _ (.inr rfl)).setCell ⟨w1.heap.size, t * 4 + 2, none⟩ _ (.inr rfl)).alloc _⟩, by simp; omega⟩
                intro t' j ht' hj'
                obtain ⟨e0, e1, e2, e3⟩ := HCN.out
                by_cases e : t' = t
                · subst e
                  match j, hj' with
                  | 0, _ | 1, _ | 2, _ | 3, _ => simp [e0, e1, e2, e3, hz]
                · simp [e]
              case measure => simp [intOf]; omega
            · go_wp2_with fail
              go_roundw
              case rel =>
                refine ⟨k + 1, by omega, by go_num, ⟨HREL.out _ _ (CountsAt.fr (((HI.out.1.set ht (show 1 < 4 by omega) _).set ht (show 2 < 4 by omega) _).set ht (show 3 < 4 by omega) _) ((Grow.refl _).alloc _) (fun h => h)) ?_, (((HI.out.2.setCell ⟨w1.heap.size, t * 4 + 1, none⟩ _ (.inr rfl)).setCell ⟨w1.heap.size, t * 4 + 2, none⟩ _ (.inr rfl)).setCell ⟨w1.heap.size, t * 4 + 3, none⟩ _ (.inr rfl)).alloc _⟩, by simp; omega⟩
                intro t' j ht' hj'
                obtain ⟨e0, e1, e2, e3⟩ := HCN.out
                by_cases e : t' = t
                · subst e
                  match j, hj' with
                  | 0, _ | 1, _ | 2, _ | 3, _ => simp [e0, e1, e2, e3, hz]
                · simp [e]
              case measure => simp [intOf]; omega
          · obtain rfl : k = l.length := by omega
            have HCL := Lib.hid (clone_count wr ⟨w1.heap.size, 0, none⟩ 4 4 (countCells (cnt ((tg size l).take l.length))) rfl HI.out.1.cells (countCells_one _) (by omega))
            go_wp2_with (go_at_call 29; refine HCL.out.mono ?_)
            rintro e w5 ⟨v, rfl, hv5, hg5⟩
            have H5 := Lib.hid (And.intro hv5 hg5)
            clear hv5 hg5
            go_wp2_with fail
            have hgr : Grow w wr := Fr.then HC.out.2.1 HI.out.2 (fun i hi hs => by have := H1.out.size; omega)
            refine HR.out _ _ ⟨hgr.trans H5.out.2, ?_⟩
            rw [if_pos HG.out]
            have := H5.out.1
            rw [List.take_of_length_le (by rw [tg_length]; omega)] at this
            exact ⟨v, rfl, own_base_le this hgr.size⟩
end Go.Proofs.Ytabplbalacldfaa
