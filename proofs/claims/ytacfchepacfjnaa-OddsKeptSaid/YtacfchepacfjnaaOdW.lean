/- OddsGood answers true. -/
import Derived.Test.YtacfchepacfjnaaOdV
import Derived.Test.YtacfchepacfjnaaOdR
set_option linter.unusedVariables false
set_option linter.unusedSimpArgs false
namespace Go.Proofs.Ytacfchepacfjnaa
open Go.RowKit Go.Kx Go.Maps Go.Sort Go.Shelf
open Go.ChangeShapes Go.WideShapes in
theorem ints2_of_trod {H : Type} {enc : TypeId × Value → H} {W : World} {a : Option Addr} {len cap : Nat} {x : DataW H × List MemPlace} (h : ∃ fuel, DataW.trod enc Try.prog W 0 (fun _ => true) true fuel 22 (Value.cells (.slice a len cap)).toList = some x) :
    ∃ l : List Int, l.length = len ∧ (IntsAt W a l ∧ len ≤ cap ∧ cap ≤ maxLen) := by
  obtain ⟨l, h1, h2⟩ := ints_of_trod h
  refine ⟨l, h1, h2, ?_⟩
  obtain ⟨fuel, hf⟩ := h
  rcases Go.ChangeShapes.open_ints Try.underlying22 Try.underlying3 cellsOf3 hf with ⟨hcs, _⟩ | ⟨ad, len', cap', zs, hcs, _, hl, hm, _⟩
  · simp [Value.cells] at hcs
    obtain ⟨rfl, rfl, rfl⟩ := hcs
    exact ⟨Nat.le_refl _, by unfold maxLen; omega⟩
  · simp [Value.cells] at hcs
    obtain ⟨rfl, rfl, rfl⟩ := hcs
    exact ⟨hl, hm⟩
theorem IntsAt.take {w : World} {A : Option Addr} {l : List Int} (h : IntsAt w A l) (n : Nat) : IntsAt w A (l.take n) := by
  rcases h with rfl | ⟨b, off, h1, h2⟩
  · exact .inl (by simp)
  · exact .inr ⟨b, off, h1, fun j x hx => h2 j x (by rw [List.getElem?_take] at hx; split at hx; exact hx; cases hx)⟩
theorem sprP_mem {cs nums : List Int} (hv : 0 < tot cs) : sprP cs nums ∈ ords cs.length (numL cs.length) := by
  obtain ⟨_, hm4, _, _⟩ := tot_pos hv
  have h0 := ords_pos cs.length hm4
  have hb := pickN_bd nums 0 (n := ((ords cs.length (numL cs.length)).length : Int)) (by omega)
  unfold sprP
  rw [List.getElem?_eq_getElem (by omega), Option.getD_some]
  exact List.getElem_mem _
theorem spr_ok {cs nums : List Int} (hv : 0 < tot cs) : okP cs (sprP cs nums) (sprC cs nums) = true := by
  refine ords_okP hv (sprP_mem hv) (by simp [sprC]) fun x hx => ?_
  have h1 := pickN_bd nums 1 (n := tot cs + 1) (by omega)
  have h2 := pickN_bd nums 2 (n := tot cs + 1) (by omega)
  unfold sprC at hx
  simp at hx
  omega
/-- What OddsGood sees of a moment. -/
theorem good_at {cs p chs : List Int} (hv : 0 < tot cs) {k : Nat} (hk : k < (sched cs p chs).length) : ∃ (t : Nat) (y : Int), t < cs.length ∧ (sched cs p chs)[k]? = some (t : Int) ∧ (schK cs p chs k).1[t]? = some y ∧ 0 < y ∧ y ≤ 6 ∧ (schK cs p chs (k + 1)).1 = (schK cs p chs k).1.set t (y - 1) := by
  obtain ⟨_, hm4, hvs, hts⟩ := tot_pos hv
  rw [sched_len hv] at hk
  have g1 := goes_ok (ps := p) (chs := chs) hvs (k := k) (by omega)
  have o1 := out_at (ps := p) (chs := chs) hvs (k := k) (n := cs.sum.toNat) (by omega) (by omega)
  have hl := left_succ cs p chs k
  have hi := schI_at (ps := p) (chs := chs) hvs k (by omega)
  obtain ⟨t, ht⟩ := Int.eq_ofNat_of_zero_le g1.1
  rw [ht] at o1 hl g1
  simp only [Int.toNat_natCast] at g1 hl
  have htl : t < (schK cs p chs k).1.length := by rw [hi.l1]; omega
  rw [List.getElem?_eq_getElem htl, Option.getD_some] at g1 hl
  exact ⟨t, _, by omega, o1, List.getElem?_eq_getElem htl, g1.2.2, (hi.v _ (List.getElem_mem htl)).2, hl⟩
theorem good_len {cs p chs : List Int} (hv : 0 < tot cs) {k : Nat} (hk : k ≤ (sched cs p chs).length) : (schK cs p chs k).1.length = cs.length := by
  obtain ⟨_, hm4, hvs, hts⟩ := tot_pos hv
  rw [sched_len hv] at hk
  exact (schI_at (ps := p) (chs := chs) hvs k (by omega)).l1
theorem good_end {cs p chs : List Int} (hv : 0 < tot cs) (t : Nat) (ht : t < cs.length) : (schK cs p chs (sched cs p chs).length).1[t]? = some 0 := by
  obtain ⟨_, hm4, hvs, hts⟩ := tot_pos hv
  have h := left_end (ps := p) (chs := chs) hvs (by omega) t
  rw [sched_len hv]
  have hi := schI_at (ps := p) (chs := chs) hvs cs.sum.toNat (by omega)
  have htl : t < (schK cs p chs cs.sum.toNat).1.length := by rw [hi.l1]; omega
  rw [List.getElem?_eq_getElem htl, Option.getD_some] at h
  rw [List.getElem?_eq_getElem htl, h]
theorem good_app {w w5 : World} {v : Value} {n : Nat} {l : List Int} {o : Obj} (h : w5.ownsRow w.heap.size 3 1 v n ([] ++ l.map (Value.int .i64))) (hg : (w.alloc o).grownBy w5 (some w.heap.size)) :
    w5.ownsRow w.heap.size 3 1 v n (l.map (Value.int .i64)) ∧ Grow w w5 := ⟨by simpa using h, ((Grow.refl w).alloc o).grown hg (fun k e => by cases e; exact Nat.le_refl _)⟩
set_option maxRecDepth 100000 in
set_option maxHeartbeats 2000000 in
theorem good_any (w : World) (A B : Option Addr) (ca cb : Nat) (raw nums : List Int) (h1 : IntsAt w A raw) (h2 : IntsAt w B nums) (hb : nums.length ≤ cb) (hb2 : cb ≤ maxLen) :
    Calls Try.prog 10 #[.slice A raw.length ca, .slice B nums.length cb] w (TrueP w) := by
  refine cph fun R HR => ?_
  have HAW := Lib.hid (awake_any w)
  have HCn := Lib.hid (fun (w1 : World) (hg : Grow w w1) => countsOf_any (w := w1) (cap := ca) (h1.grow hg))
  have hv := cntOf_pos raw
  clear h1
  generalize cntOf raw = cs at HCn hv
  obtain ⟨hm1, hm4, hvs, hts⟩ := tot_pos hv
  have htb := (tot_bd cs).2
  rw [hts] at htb
  obtain ⟨n2, hn2⟩ : ∃ n2, n2 = nums.take 20 := ⟨_, rfl⟩
  have hi2 : IntsAt w B n2 := hn2 ▸ h2.take 20
  have hn20 : n2.length ≤ 20 := by rw [hn2, List.length_take]; omega
  have HSp := Lib.hid (fun (w1 : World) (A1 : Option Addr) (c1 : Nat) (hg : Grow w w1) (h : IntsAt w1 A1 cs) => spread_yes (w := w1) (ca := c1) (cb := cb) h (hi2.grow hg) hv hn20)
  have HSc := Lib.hid (fun (w1 : World) (A1 : Option Addr) (c1 : Nat) (A2 : Option Addr) (c2 : Nat) (A3 : Option Addr) (c3 : Nat) (h1 : IntsAt w1 A1 cs) (h2 : IntsAt w1 A2 (sprP cs n2)) (h3 : IntsAt w1 A3 (sprC cs n2)) => Schedule_any (ca := c1) (cb := c2) (cc := c3) h1 h2 h3)
  rw [spr_ok hv] at HSc
  have hL24 := sched_len (cs := cs) (ps := sprP cs n2) (chs := sprC cs n2) hv
  have HGA := Lib.hid (fun (k : Nat) hk => good_at (cs := cs) (p := sprP cs n2) (chs := sprC cs n2) hv (k := k) hk)
  have HGL := Lib.hid (fun (k : Nat) hk => good_len (cs := cs) (p := sprP cs n2) (chs := sprC cs n2) hv (k := k) hk)
  have HGE := Lib.hid (fun (t : Nat) ht => good_end (cs := cs) (p := sprP cs n2) (chs := sprC cs n2) hv t ht)
  have HK0 : Hid ((schK cs (sprP cs n2) (sprC cs n2) 0).1 = cs) := rfl
  have hcl : (sprC cs n2).length = 2 := rfl
  generalize sched cs (sprP cs n2) (sprC cs n2) = L at HSc hL24 HGA HGE HGL
  generalize schK cs (sprP cs n2) (sprC cs n2) = K at HGA HGE HGL HK0
  generalize sprP cs n2 = p at HSp HSc
  generalize sprC cs n2 = c at HSp HSc hcl
  rw [hcl] at HSc
  have hLl : L.length ≤ 24 := by omega
  have H0 := Lib.hid h2
  clear hvs hts hL24 hi2 h2
  obtain ⟨i0, hi, hz0, hz1, hz2⟩ := info_parts info3x
  have HI := Lib.hid (And.intro hi (And.intro hz0 (And.intro hz1 hz2)))
  clear hi hz0 hz1 hz2
  by_cases h20 : 20 < nums.length
  · have h20d : (20 : Int) < nums.length := by omega
    have hcb20 : (20 : Int) ≤ cb := by omega
    have hcb20n : 20 ≤ cb := by omega
    have hcbm : (cb : Int) ≤ 9223372036854775807 := by unfold maxLen at hb2; omega
    have hl2 : n2.length = 20 := by rw [hn2, List.length_take]; omega
    obtain ⟨bN, oN, rfl, _⟩ := H0.out.resolve_left (by rintro rfl; simp at h20)
    rw [hl2] at HSp
    clear hn2 hl2 hn20 hb hb2
    go_enter Try.func10, Try.ntmps10
    go_wp2_with (first | (go_at_call 14; refine HAW.out.mono ?_; rintro e w1 ⟨rfl, hg1⟩; have H1 := Lib.hid hg1; clear hg1) | (go_at_call 29; refine (HCn.out _ H1.out).mono ?_; rintro e w2 ⟨v2, rfl, hrow2, hg2⟩; obtain ⟨A2, a2, rfl, hi2, _⟩ := ints_of_own hrow2; obtain ⟨bC, oC, rfl, _⟩ := hi2.resolve_left (by rintro rfl; simp at hm1); have H2 := Lib.hid (And.intro hi2 (H1.out.trans hg2)); clear hrow2 hi2 hg2) | (go_at_call 30; (with_reducible refine Calls.mono (HSp.out _ _ _ H2.out.2 H2.out.1) ?_); rintro e w3 ⟨A3, a3, B3, b3, rfl, hi3, hj3, hg3, _, _⟩; have H3 := Lib.hid (And.intro hi3 (And.intro hj3 (And.intro (H2.out.1.grow hg3) (H2.out.2.trans hg3)))); clear hi3 hj3 hg3) | (go_at_call 15; (with_reducible refine Calls.mono (HSc.out _ _ _ _ _ _ _ H3.out.2.2.1 H3.out.1 H3.out.2.1) ?_); rintro e w4 hm; obtain ⟨A4, a4, rfl, hi4, hg4⟩ := hm.yes_form; have H4 := Lib.hid (And.intro hi4 (And.intro (H3.out.2.2.1.grow hg4) (H3.out.2.2.2.trans hg4))); clear hm hi4 hg4) | (at_builtin; refine wpList_append_own_at _ rfl (.tmp 46) (.tmp 47) 22 rfl w4.heap.size 3 i0 (.int .i64 0) 1 8 Try.underlying22 HI.out.1 HI.out.2.1 HI.out.2.2.1 HI.out.2.2.2 rfl (by decide) _ 0 [] rfl (World.ownsRow_made w4 #[] 0 (Nat.le_refl _) (by decide) rfl) ⟨bC, oC, none⟩ cs.length a2 (cs.map (Value.int .i64)) rfl (by simp) (ints_news (H4.out.2.1.grow ((Grow.refl w4).alloc _))) (fun u hu => by obtain ⟨z, _, rfl⟩ := List.mem_map.1 hu; rfl) (by unfold maxLen; omega) (by omega) (by rw [World.size_alloc]; omega) ?_; intro v5 w5 hown hgrow _ _; rw [Nat.zero_add] at hown; obtain ⟨g, c5, rfl⟩ := own_form hown (by omega); have H5 := Lib.hid (good_app hown hgrow); clear hown hgrow))
    go_loopw [13] (fun i wr => ∃ k : Nat, k ≤ L.length ∧ i = .int .i64 k ∧ Hid (wr.ownsRow w4.heap.size 3 1 (.slice (some ⟨g, 0, none⟩) cs.length c5) cs.length ((K k).1.map (Value.int .i64)) ∧ Grow w4 wr)) (fun i _ => L.length - (intOf i).toNat)
    case atStart => exact ⟨0, Nat.zero_le _, rfl, by rw [HK0.out]; exact H5.out.1, H5.out.2⟩
    case round =>
      obtain ⟨k, hk, rfl, HO⟩ := hrel
      by_cases hlt : k < L.length
      · have hki : (k : Int) < (L.length : Int) := by omega
        obtain ⟨t, y, ht, hLt, hKt, hy0, hy6, hKs⟩ := HGA.out k hlt
        obtain ⟨b4, o4, rfl, hc4⟩ := H4.out.1.resolve_left (by rintro rfl; simp at hlt)
        have c1 := HO.out.2.cell (hc4 k _ hLt)
        obtain ⟨htl, hye⟩ := List.getElem?_eq_some_iff.1 hKt
        have c2 := own_cell HO.out.1 (j := t) htl
        rw [hye] at c2
        have hfz := HO.out.1.frozenAt t
        have hti : (t : Int) < (cs.length : Int) := by omega
        have hyz : (y == 0) = false := by rw [beq_eq_false_iff_ne]; omega
        have HX := Lib.hid hKs
        clear hLt hKt hKs hc4 hye htl
        go_wp2
        go_roundw
        case rel => exact ⟨k + 1, by omega, by go_num, by rw [HX.out, List.map_set]; exact (HO.out.1.stored t _).1, HO.out.2.setCell _ _ (HO.out.1.lt g (by simp [Value.ownBlock])).1⟩
        case measure => simp [intOf]; omega
      · have hki : ¬ (k : Int) < (L.length : Int) := by omega
        obtain rfl : k = L.length := by omega
        go_wp2
        go_loop [14, 15] (fun s i => ∃ j : Nat, j ≤ cs.length ∧ i = .int .i64 j ∧ s = .int .i64 0) (fun _ i => cs.length - (intOf i).toNat)
        case atStart => exact ⟨0, Nat.zero_le _, rfl, rfl⟩
        case round =>
          obtain ⟨j, hj, rfl, rfl⟩ := hrel
          by_cases hjl : j < cs.length
          · have hji : (j : Int) < (cs.length : Int) := by omega
            obtain ⟨htl, hye⟩ := List.getElem?_eq_some_iff.1 (HGE.out j hjl)
            have c2 := own_cell HO.out.1 (j := j) htl
            rw [hye] at c2
            clear hye htl
            go_wp2
            go_round
            case rel => exact ⟨j + 1, by omega, by go_num, rfl⟩
            case measure => simp [intOf]; omega
          · have hji : ¬ (j : Int) < (cs.length : Int) := by omega
            go_wp2
            exact HR.out _ _ ⟨rfl, H4.out.2.2.trans HO.out.2⟩
  · have h20d : ¬ (20 : Int) < nums.length := by omega
    have hl2 : n2.length = nums.length := by rw [hn2, List.length_take]; omega
    rw [hl2] at HSp
    clear hn2 hl2 hn20 hb hb2
    go_enter Try.func10, Try.ntmps10
    go_wp2_with (first | (go_at_call 14; refine HAW.out.mono ?_; rintro e w1 ⟨rfl, hg1⟩; have H1 := Lib.hid hg1; clear hg1) | (go_at_call 29; refine (HCn.out _ H1.out).mono ?_; rintro e w2 ⟨v2, rfl, hrow2, hg2⟩; obtain ⟨A2, a2, rfl, hi2, _⟩ := ints_of_own hrow2; obtain ⟨bC, oC, rfl, _⟩ := hi2.resolve_left (by rintro rfl; simp at hm1); have H2 := Lib.hid (And.intro hi2 (H1.out.trans hg2)); clear hrow2 hi2 hg2) | (go_at_call 30; (with_reducible refine Calls.mono (HSp.out _ _ _ H2.out.2 H2.out.1) ?_); rintro e w3 ⟨A3, a3, B3, b3, rfl, hi3, hj3, hg3, _, _⟩; have H3 := Lib.hid (And.intro hi3 (And.intro hj3 (And.intro (H2.out.1.grow hg3) (H2.out.2.trans hg3)))); clear hi3 hj3 hg3) | (go_at_call 15; (with_reducible refine Calls.mono (HSc.out _ _ _ _ _ _ _ H3.out.2.2.1 H3.out.1 H3.out.2.1) ?_); rintro e w4 hm; obtain ⟨A4, a4, rfl, hi4, hg4⟩ := hm.yes_form; have H4 := Lib.hid (And.intro hi4 (And.intro (H3.out.2.2.1.grow hg4) (H3.out.2.2.2.trans hg4))); clear hm hi4 hg4) | (at_builtin; refine wpList_append_own_at _ rfl (.tmp 46) (.tmp 47) 22 rfl w4.heap.size 3 i0 (.int .i64 0) 1 8 Try.underlying22 HI.out.1 HI.out.2.1 HI.out.2.2.1 HI.out.2.2.2 rfl (by decide) _ 0 [] rfl (World.ownsRow_made w4 #[] 0 (Nat.le_refl _) (by decide) rfl) ⟨bC, oC, none⟩ cs.length a2 (cs.map (Value.int .i64)) rfl (by simp) (ints_news (H4.out.2.1.grow ((Grow.refl w4).alloc _))) (fun u hu => by obtain ⟨z, _, rfl⟩ := List.mem_map.1 hu; rfl) (by unfold maxLen; omega) (by omega) (by rw [World.size_alloc]; omega) ?_; intro v5 w5 hown hgrow _ _; rw [Nat.zero_add] at hown; obtain ⟨g, c5, rfl⟩ := own_form hown (by omega); have H5 := Lib.hid (good_app hown hgrow); clear hown hgrow))
    go_loopw [13] (fun i wr => ∃ k : Nat, k ≤ L.length ∧ i = .int .i64 k ∧ Hid (wr.ownsRow w4.heap.size 3 1 (.slice (some ⟨g, 0, none⟩) cs.length c5) cs.length ((K k).1.map (Value.int .i64)) ∧ Grow w4 wr)) (fun i _ => L.length - (intOf i).toNat)
    case atStart => exact ⟨0, Nat.zero_le _, rfl, by rw [HK0.out]; exact H5.out.1, H5.out.2⟩
    case round =>
      obtain ⟨k, hk, rfl, HO⟩ := hrel
      by_cases hlt : k < L.length
      · have hki : (k : Int) < (L.length : Int) := by omega
        obtain ⟨t, y, ht, hLt, hKt, hy0, hy6, hKs⟩ := HGA.out k hlt
        obtain ⟨b4, o4, rfl, hc4⟩ := H4.out.1.resolve_left (by rintro rfl; simp at hlt)
        have c1 := HO.out.2.cell (hc4 k _ hLt)
        obtain ⟨htl, hye⟩ := List.getElem?_eq_some_iff.1 hKt
        have c2 := own_cell HO.out.1 (j := t) htl
        rw [hye] at c2
        have hfz := HO.out.1.frozenAt t
        have hti : (t : Int) < (cs.length : Int) := by omega
        have hyz : (y == 0) = false := by rw [beq_eq_false_iff_ne]; omega
        have HX := Lib.hid hKs
        clear hLt hKt hKs hc4 hye htl
        go_wp2
        go_roundw
        case rel => exact ⟨k + 1, by omega, by go_num, by rw [HX.out, List.map_set]; exact (HO.out.1.stored t _).1, HO.out.2.setCell _ _ (HO.out.1.lt g (by simp [Value.ownBlock])).1⟩
        case measure => simp [intOf]; omega
      · have hki : ¬ (k : Int) < (L.length : Int) := by omega
        obtain rfl : k = L.length := by omega
        go_wp2
        go_loop [14, 15] (fun s i => ∃ j : Nat, j ≤ cs.length ∧ i = .int .i64 j ∧ s = .int .i64 0) (fun _ i => cs.length - (intOf i).toNat)
        case atStart => exact ⟨0, Nat.zero_le _, rfl, rfl⟩
        case round =>
          obtain ⟨j, hj, rfl, rfl⟩ := hrel
          by_cases hjl : j < cs.length
          · have hji : (j : Int) < (cs.length : Int) := by omega
            obtain ⟨htl, hye⟩ := List.getElem?_eq_some_iff.1 (HGE.out j hjl)
            have c2 := own_cell HO.out.1 (j := j) htl
            rw [hye] at c2
            clear hye htl
            go_wp2
            go_round
            case rel => exact ⟨j + 1, by omega, by go_num, rfl⟩
            case measure => simp [intOf]; omega
          · have hji : ¬ (j : Int) < (cs.length : Int) := by omega
            go_wp2
            exact HR.out _ _ ⟨rfl, H4.out.2.2.trans HO.out.2⟩
end Go.Proofs.Ytacfchepacfjnaa
