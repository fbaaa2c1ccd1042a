/- The contract of Shared, for every size and every list of accesses that memory holds. -/
import Derived.Test.YtabplbalacldfaaLtC
import Derived.Test.YtabplbalacldfaaLtD
import Derived.Test.YtabplbalacldfaaLtH
import Derived.StillTailTactics
set_option linter.unusedVariables false
set_option linter.unusedSimpArgs false
namespace Go.Proofs.Ytabplbalacldfaa
open Go.RowKit Go.Kx
open Go.ChangeMaps (setBlock)
theorem cells_of_cell {w : World} {b o : Nat} {v : Value} (h : w.cell? ⟨b, o, none⟩ = some v) : ∃ c t fz, w.heap[b]? = some (.cells c t fz) := by
  unfold World.cell? at h
  dsimp only at h
  split at h
  · next c t fz hc => exact ⟨c, t, fz, hc⟩
  all_goals simp at h
theorem values_any (w : World) (A : Option Addr) (len cap : Nat) : Calls Try.prog 43 #[.slice A len cap] w fun e w' => e = .returned (.func (.func 63) #[] #[.pointer (some ⟨w.heap.size, 0, none⟩)]) ∧ w' = w.alloc (.cells #[.slice A len cap] 22) :=
  (callsIn_wide (n := 8)).1 (values3_in 8 A len cap w)
/-- What the different accesses are. -/
def DiffP (w : World) (l : List A3) (e : Ending) (w' : World) : Prop :=
  ∃ A m c, e = .returned (.slice A m.length c) ∧ (∀ x, x ∈ m ↔ x ∈ l) ∧ m.length ≤ l.length ∧ m.length ≤ c ∧ Acc w' A m ∧ Grow w w'
set_option maxHeartbeats 1000000 in
theorem compactS {w w1 : World} {v : Value} {mm : List A3} (h : w1.ownsRow w.heap.size 24 3 v mm.length (accCells mm)) (hg : Grow w w1) (hn : mm.length ≤ 1000) :
    Calls Try.prog 41 #[v] w1 (DiffP w mm) := by
  rcases h.2 with ⟨rfl, hz⟩ | ⟨g, cap, cur, rfl, hb1, _⟩
  · have h0 : mm = [] := List.eq_nil_of_length_eq_zero hz
    subst h0
    refine cph fun R HR => ?_
    have HG := Lib.hid hg
    clear h hg
    go_enter Try.func41, Try.ntmps41
    go_wp2_with fail
    exact HR.out _ _ ⟨none, [], 0, rfl, fun _ => Iff.rfl, by simp, by simp, .inl rfl, HG.out⟩
  · refine (compact3 h hn).mono ?_
    rintro e w' ⟨m, c, rfl, hm, hl, hc, ha, hf⟩
    refine ⟨_, m, c, rfl, hm, hl, hc, ha, ?_⟩
    exact Fr.then hg hf (fun i hi e => by have e' : i = g := e; omega)
theorem ShS.grow {w wr wr' : World} {A : Option Addr} {m : List A3} {U V Bx : Nat} {pu pw : Int → Prop} (h : ShS w wr A m U V Bx pu pw) (hg : Grow wr wr') : ShS w wr' A m U V Bx pu pw := by
  obtain ⟨ks, hk, hk2⟩ := h.u
  obtain ⟨ws, hv, hv2⟩ := h.v
  exact ⟨⟨ks, hk.fr hg (fun h => h), hk2⟩, ⟨ws, hv.fr hg (fun h => h), hv2⟩, hg.at_ h.box, h.acc.grow hg, h.gr.trans hg, h.ne, h.hU, h.hV⟩
theorem acc_block {wr : World} {A : Option Addr} {m : List A3} {U : Nat} {kv : List (Int × Value)} (h : Acc wr A m) (hU : IMap wr U kv) (ob : Obj) : Acc (setBlock wr U ob) A m := by
  by_cases h0 : m = []
  · exact .inl h0
  · obtain ⟨b, off, rfl, ha⟩ := h.resolve_left h0
    have hf : Fr (· = U) wr (setBlock wr U ob) := (Fr.refl _ _).block _ _ (.inr rfl)
    refine h.fr hf fun k hk => ?_
    obtain ⟨a, e, rfl⟩ := hk
    cases e
    cases m with
    | nil => exact absurd rfl h0
    | cons x m =>
      obtain ⟨c, t, fz, hc⟩ := cells_of_cell (ha 0 x rfl).1
      exact fun e => (hU.ne hc) e.symm
theorem setKv_put {ks : List Int} {n : Int} {pu : Int → Prop} (h : ∀ q, q ∈ ks ↔ pu q) : ∃ ks', mput (setKv ks) n (Value.bool true) = setKv ks' ∧ ∀ q, q ∈ ks' ↔ pu q ∨ q = n := by
  refine ⟨_, mput_set ks n, fun q => ?_⟩
  by_cases hn : n ∈ ks
  · rw [if_pos hn, h]
    exact ⟨.inl, fun h2 => h2.elim id (fun e => e ▸ (h n).1 hn)⟩
  · rw [if_neg hn, List.mem_append, List.mem_singleton, h]
theorem ShS.putU {w wr : World} {A : Option Addr} {m : List A3} {U V Bx : Nat} {pu pw : Int → Prop} (h : ShS w wr A m U V Bx pu pw) {ks : List Int} (hq : ∀ q, q ∈ ks ↔ pu q) (hk : IMap wr U (setKv ks)) {n : Int} {ob : Obj} (hi : IMap (setBlock wr U ob) U (mput (setKv ks) n (Value.bool true))) :
    ShS w (setBlock wr U ob) A m U V Bx (fun q => pu q ∨ q = n) pw := by
  obtain ⟨ks', e, hk'⟩ := setKv_put (n := n) hq
  rw [e] at hi
  obtain ⟨ws, hv, hv2⟩ := h.v
  exact ⟨⟨ks', hi, hk'⟩, ⟨ws, hv.block ob h.ne.symm, hv2⟩, (blk_block_other (fun e => hk.ne h.box e.symm)).trans h.box, acc_block h.acc hk ob, h.gr.block U ob h.hU, h.ne, h.hU, h.hV⟩
theorem ShS.putV {w wr : World} {A : Option Addr} {m : List A3} {U V Bx : Nat} {pu pw : Int → Prop} (h : ShS w wr A m U V Bx pu pw) {ks : List Int} (hq : ∀ q, q ∈ ks ↔ pw q) (hk : IMap wr V (setKv ks)) {n : Int} {ob : Obj} (hi : IMap (setBlock wr V ob) V (mput (setKv ks) n (Value.bool true))) :
    ShS w (setBlock wr V ob) A m U V Bx pu (fun q => pw q ∨ q = n) := by
  obtain ⟨ks', e, hk'⟩ := setKv_put (n := n) hq
  rw [e] at hi
  obtain ⟨us, hv, hv2⟩ := h.u
  exact ⟨⟨us, hv.block ob h.ne, hv2⟩, ⟨ks', hi, hk'⟩, (blk_block_other (fun e => hk.ne h.box e.symm)).trans h.box, acc_block h.acc hk ob, h.gr.block V ob h.hV, h.ne, h.hU, h.hV⟩
theorem ShS.iff {w wr : World} {A : Option Addr} {m : List A3} {U V Bx : Nat} {pu pw pu' pw' : Int → Prop} (h : ShS w wr A m U V Bx pu pw) (h1 : ∀ q, pu q ↔ pu' q) (h2 : ∀ q, pw q ↔ pw' q) : ShS w wr A m U V Bx pu' pw' := by
  obtain ⟨ks, hk, hk2⟩ := h.u
  obtain ⟨ws, hv, hv2⟩ := h.v
  exact ⟨⟨ks, hk, fun q => (hk2 q).trans (h1 q)⟩, ⟨ws, hv, fun q => (hv2 q).trans (h2 q)⟩, h.box, h.acc, h.gr, h.ne, h.hU, h.hV⟩
theorem closure49 {W : World} {Bx V : Nat} {ws : List Int} (hb : W.heap[Bx]? = some (.cells #[.map (some V)] 82 (0, 0))) (hv : IMap W V (setKv ws)) (x : Int) :
    Calls Try.prog 49 #[.int .i64 x, .pointer (some ⟨Bx, 0, none⟩)] W fun e w' => e = .returned (.bool (!(decide (x ∈ ws)))) ∧ W = w' := by
  refine cph fun R HR => ?_
  have kb := (blk_cell hb 0).trans (rfl : _ = some (Value.map (some V)))
  have hlook := hv.lookup Try.underlying82 Try.underlying3 (zero4 W) x false
  rw [mget_set] at hlook
  by_cases hx : x ∈ ws
  · simp only [Bool.false_eq_true, if_false, if_pos hx, Option.getD_some] at hlook
    rw [decide_eq_true hx] at HR
    clear hb hv hx
    go_enter Try.func49, Try.ntmps49
    go_wp2_with fail
    exact HR.out _ _ ⟨rfl, rfl⟩
  · simp only [Bool.false_eq_true, if_false, if_neg hx, Option.getD_none] at hlook
    rw [decide_eq_false hx] at HR
    clear hb hv hx
    go_enter Try.func49, Try.ntmps49
    go_wp2_with fail
    exact HR.out _ _ ⟨rfl, rfl⟩
theorem delete_nil (w : World) {f : Nat} {lb : Array Value} (eg : ∀ args w, (callFunc f args).run Try.prog w = .ok (.enter f args) w) :
    Calls Try.prog 47 #[.slice none 0 0, .func (.func f) #[] lb] w fun e w' => e = .returned (.slice none 0 0) ∧ w = w' := by
  refine cph fun R HR => ?_
  have hI := indexF_any (w := w) (A := none) (cap := 0) (l := []) (g := f) (lb := lb) (p := fun _ => true) (.inl rfl) (fun x hx => by simp at hx) eg (by simp)
  have HI := Lib.hid hI
  simp only [List.length_nil, fstP] at HI
  clear hI
  go_enter Try.func47, Try.ntmps47
  go_wp2_with (go_at_call 65; refine HI.out.mono ?_; rintro e w' ⟨rfl, rfl⟩)
  exact HR.out _ _ ⟨rfl, rfl⟩
theorem setKv_fst (ks : List Int) : (setKv ks).map Prod.fst = ks := by simp [setKv, Function.comp_def]
theorem used_len {size : Int} {l m : List A3} {ks : List Int} (hm : ∀ x, x ∈ m ↔ x ∈ l) (hn : ks.Nodup) (hk : ∀ q, q ∈ ks ↔ PU size m m.length 0 q) : ks.length ≤ l.length := by
  have e : srt ks = (dist (lnsL size l)).filter fun q => decide (q ∈ ks) := by
    refine asc_eq (srt_asc hn) ((dist_asc _).filter _) fun q => ?_
    rw [List.mem_filter, (srt_perm ks).mem_iff, dist_mem]
    simp only [decide_eq_true_eq]
    refine ⟨fun h => ⟨?_, h⟩, fun h => h.2⟩
    obtain ⟨a, ha, b, hb, _, e⟩ := (PU_all size m q).1 ((hk q).1 h)
    exact List.mem_map.2 ⟨a, (hm a).1 ha, e.symm⟩
  have h1 := srt_len ks
  have h2 := dist_len (lnsL size l)
  rw [lnsL_len] at h2
  have h3 := List.length_filter_le (fun q => decide (q ∈ ks)) (dist (lnsL size l))
  rw [← e] at h3
  omega
set_option maxRecDepth 100000 in
set_option maxHeartbeats 8000000 in
theorem shared_any (w : World) (A : Option Addr) (l : List A3) (cap : Nat) (size : Int) (hA : Acc w A l) (hn : l.length ≤ 300) :
    Calls Try.prog 25 #[.int .i64 size, .slice A l.length cap] w (MadeE w (goodB size l) (shr size l)) := by
  refine cph fun R HR => ?_
  have HV := fun wx (g : Grow w wx) => Lib.hid (valid_any wx A l cap (hA.grow g) (by unfold maxLen; omega))
  have HL := Lib.hid hA
  clear hA
  cases hs : (decide (1 ≤ size) && decide (size ≤ 16))
  · have e : goodB size l = false := by simp [goodB, hs]
    rw [e] at HR
    clear e
    go_enter Try.func25, Try.ntmps25
    go_wp2_with (go_at_call 27; refine (isSize_any _ _).mono ?_; rintro e w' ⟨rfl, rfl⟩)
    exact HR.out _ _ (MadeE.no (Grow.refl _))
  · cases hv : okL l
    · have e : goodB size l = false := by simp [goodB, hv]
      rw [e] at HR
      clear e
      go_enter Try.func25, Try.ntmps25
      go_wp2_with (first | (go_at_call 27; refine (isSize_any _ _).mono ?_; rintro e w' ⟨rfl, rfl⟩) | (go_at_call 15; refine (HV _ (Grow.refl _)).out.mono ?_; rintro e w1 ⟨rfl, hg⟩))
      exact HR.out _ _ (MadeE.no hg)
    · have hg0 : goodB size l = true := by simp [goodB, hs, hv]
      rw [hg0] at HR
      have HG := Lib.hid hg0
      clear hg0
      have hmm := @run_makeMap Try.prog
      go_enter Try.func25, Try.ntmps25
      go_wp2_with (first | (go_at_call 27; refine (isSize_any _ _).mono ?_; rintro e w' ⟨rfl, rfl⟩) | (go_at_call 15; refine (HV _ (Grow.refl _)).out.mono ?_))
      rintro e w1 ⟨rfl, hg⟩
      have H1 := Lib.hid hg
      clear hg HV hs
      obtain ⟨p1, p2, p3, p4⟩ := good_parts HG.out
      have HK := Lib.hid p4
      clear p3 p4
      have HS := Lib.hid (sortedF_any (w := w1.alloc (.cells #[.slice A l.length cap] 22)) (by omega) (Boxed.new w1 22 _) ((HL.out.grow H1.out).grow ((Grow.refl _).alloc _)))
      go_wp2_with (first | (go_at_call 43; refine (values_any _ _ _ _).mono ?_; rintro e w' ⟨rfl, rfl⟩) | (go_at_call 42; refine HS.out.mono ?_))
      rintro e w2 ⟨v, mm, rfl, hpm, hown, hg2⟩
      have hl := hpm.length_eq
      have HC := Lib.hid (compactS hown hg2 (by omega))
      have HP := Lib.hid (fun x => hpm.mem_iff (a := x))
      clear hpm hown hg2 HS
      go_wp2_with (go_at_call 41; refine HC.out.mono ?_)
      rintro e w3 ⟨A3v, m, c, rfl, hm, hml, hmc, hacc, hg3⟩
      have HM : Hid (∀ x, x ∈ m ↔ x ∈ l) := fun x => (hm x).trans (HP.out x)
      have hml3 : m.length ≤ 300 := by omega
      have hgs := hg3.size
      have HD := Lib.hid (And.intro hacc (((H1.out.alloc _).trans hg3)))
      clear hm hml hacc hg3 HC HP hl
      have H0 : Hid (ShS w (((w3.alloc (.map #[] 0)).alloc (.map #[] 0)).alloc (.cells #[.map (some (w3.heap.size + 1))] 82)) A3v m w3.heap.size (w3.heap.size + 1) (w3.heap.size + 1 + 1) (PU size m 0 0) (PW size m 0)) := by
        have hsz := HD.out.2.size
        have e1 : (w3.alloc (.map #[] 0)).heap.size = w3.heap.size + 1 := size_alloc _ _
        have e2 : ((w3.alloc (.map #[] 0)).alloc (.map #[] 0)).heap.size = w3.heap.size + 1 + 1 := by rw [size_alloc, e1]
        have hU : IMap (((w3.alloc (.map #[] 0)).alloc (.map #[] 0)).alloc (.cells #[.map (some (w3.heap.size + 1))] 82)) w3.heap.size [] := ((IMap.new w3).alloc _).alloc _
        have hV : IMap (((w3.alloc (.map #[] 0)).alloc (.map #[] 0)).alloc (.cells #[.map (some (w3.heap.size + 1))] 82)) (w3.heap.size + 1) [] := by
          have := IMap.new (w3.alloc (.map #[] 0))
          rw [e1] at this
          exact this.alloc _
        have hB := blk_new ((w3.alloc (.map #[] 0)).alloc (.map #[] 0)) (.cells #[.map (some (w3.heap.size + 1))] 82)
        rw [e2] at hB
        exact ⟨⟨[], hU, fun q => ⟨fun h => by simp at h, fun h => absurd h (PU_start size m q)⟩⟩, ⟨[], hV, fun q => ⟨fun h => by simp at h, fun h => absurd h (PW_start size m q)⟩⟩, hB,
          ((HD.out.1.grow ((Grow.refl _).alloc _)).grow ((Grow.refl _).alloc _)).grow ((Grow.refl _).alloc _), ((HD.out.2.alloc _).alloc _).alloc _, by omega, hsz, by omega⟩
      go_wp2_with fail
      generalize ((w3.alloc (.map #[] 0)).alloc (.map #[] 0)).alloc (.cells #[.map (some (w3.heap.size + 1))] 82) = w4 at H0 ⊢
      clear hgs HD
      generalize w3.heap.size = U at H0 ⊢
      have hbd : Hid (∀ x ∈ m, bad x = false) := fun x hx => HK.out x ((HM.out x).1 hx)
      go_loopw [29] (fun i wr => ∃ k : Nat, k ≤ m.length ∧ i = .int .i64 k ∧ Hid (ShS w wr A3v m U (U + 1) (U + 1 + 1) (PU size m k 0) (PW size m k))) (fun i _ => m.length - (intOf i).toNat)
      case atStart => exact ⟨0, by omega, rfl, H0.out⟩
      case round =>
        obtain ⟨k, hk, rfl, HI⟩ := hrel
        by_cases hlt : k < m.length
        · obtain ⟨⟨x, y, z⟩, hx⟩ : ∃ x, m[k]? = some x := ⟨m[k], by simp [hlt]⟩
          obtain ⟨b, off, hAe, hacc⟩ := HI.out.acc.resolve_left (by rintro rfl; simp at hlt)
          subst hAe
          obtain ⟨c0, c1, c2⟩ := hacc k _ hx
          dsimp only at c0 c1 c2
          have hb := hbd.out _ (List.mem_of_getElem? hx)
          simp [bad] at hb
          obtain ⟨⟨⟨⟨⟨b1, b2⟩, b3⟩, b4⟩, b5⟩, b6⟩ := hb
          have HX := Lib.hid hx
          have hki : (k : Int) < (m.length : Int) := by omega
          clear hx hacc
          have HB := Lib.hid (HI.out.grow ((Grow.refl _).alloc (.cells #[.int .i64 x, .int .i64 y, .int .i64 z] 24)))
          have hbx := blk_new wr (.cells #[.int .i64 x, .int .i64 y, .int .i64 z] 24)
          have kb : (wr.alloc (.cells #[.int .i64 x, .int .i64 y, .int .i64 z] 24)).cell? ⟨U + 1 + 1, 0, none⟩ = some (.map (some (U + 1))) := (blk_cell HB.out.box 0).trans rfl
          have HBX := Lib.hid hbx
          clear hbx
          have hs0 : ¬ size = 0 := by omega
          have hqv : IntKind.i64.wrap (y.tdiv size) = y / size := Go.IntWalk.i64_quo y size ⟨b3, by omega, p1⟩
          go_upto_if 36 with fail
          go_cut [] (fun wx => Hid (ShS w wx (some ⟨b, off, none⟩) m U (U + 1) (U + 1 + 1) (PU size m k 0) (PW size m (k + 1)) ∧ wx.heap[wr.heap.size]? = some (.cells #[.int .i64 x, .int .i64 y, .int .i64 z] 24 (0, 0))))
          case first =>
            obtain rfl | rfl : z = 0 ∨ z = 1 := by omega
            · go_wp2_with fail
              go_meet
              exact ⟨HB.out.iff (fun _ => Iff.rfl) (fun q => by rw [PW_step HX.out]; simp), HBX.out⟩
            · go_upto_region 9 with fail
              have kx := (blk_cell HBX.out 1).trans (rfl : _ = some (Value.int .i64 y))
              generalize wr.alloc (.cells #[.int .i64 x, .int .i64 y, .int .i64 1] 24) = wq at HB HBX kb kx ⊢
              have HB2 := Lib.hid (HB.out.grow ((Grow.refl wq).drewN 1))
              have HX2 : Hid ((wq.drewN 1).heap[wr.heap.size]? = some (.cells #[.int .i64 x, .int .i64 y, .int .i64 1] 24 (0, 0))) := HBX.out
              have kb2 : (wq.drewN 1).cell? ⟨U + 1 + 1, 0, none⟩ = some (.map (some (U + 1))) := kb
              have kx2 : (wq.drewN 1).cell? ⟨wr.heap.size, 1, none⟩ = some (.int .i64 y) := kx
              refine wp_region_still_tail 5 (by kernel_rfl) (by kernel_rfl) ?_
              change wpStill _ _ (wq.drewN 1) (fun a' => wpList _ _ _ _ a' (wq.drewN 1)) _ _
              clear kb kx HB HBX
              generalize wq.drewN 1 = w2 at HB2 HX2 kb2 kx2 ⊢
              simp only [List.take_succ_cons, List.take_zero, List.drop_succ_cons, List.drop_zero]
              repeat still_step
              refine wpStill_nil ?_
              obtain ⟨ws, hv, hv2⟩ := HB2.out.v
              refine wpList_mput rfl _ _ _ rfl hv Try.underlying82 Try.underlying3 (y / size) _ rfl rfl rfl ?_
              intro ob him
              have HF := Lib.hid (HB2.out.putV hv2 hv him)
              have HN : Hid ((setBlock w2 (U + 1) ob).heap[wr.heap.size]? = some (.cells #[.int .i64 x, .int .i64 y, .int .i64 1] 24 (0, 0))) := (blk_block_other (fun e => hv.ne HX2.out e.symm)).trans HX2.out
              clear him hv hv2
              go_wp2_with fail
              go_meet
              exact ⟨HF.out.iff (fun _ => Iff.rfl) (fun q => by rw [PW_step HX.out]; simp), HN.out⟩
          case rest =>
            obtain ⟨w5, hw5⟩ : ∃ w5, w5 = wc := ⟨_, rfl⟩
            subst hw5
            have HQ := Lib.hid hcut.out
            generalize hBa : wr.heap.size = Ba at HQ ⊢
            clear hcut HB HBX kb c0 c1 c2 hBa HI
            have hkc : (k : Int) ≤ (c : Int) := by omega
            have hkc2 : k ≤ c := by omega
            go_wp2_with fail
            go_loopw [46] (fun j wr => ∃ q : Nat, q ≤ k ∧ j = .int .i64 q ∧ Hid (ShS w wr (some ⟨b, off, none⟩) m U (U + 1) (U + 1 + 1) (PU size m k q) (PW size m (k + 1)) ∧ wr.heap[Ba]? = some (.cells #[.int .i64 x, .int .i64 y, .int .i64 z] 24 (0, 0)))) (fun j _ => k - (intOf j).toNat)
            case atStart => exact ⟨0, by omega, rfl, HQ.out⟩
            case round =>
              obtain ⟨q, hq, rfl, HJ⟩ := hrel
              by_cases hqk : q < k
              · obtain ⟨⟨x2, y2, z2⟩, hx2⟩ : ∃ x, m[q]? = some x := ⟨m[q]'(by omega), by simp⟩
                obtain ⟨b', off', hAe, hacc⟩ := HJ.out.1.acc.resolve_left (by rintro rfl; simp at hlt)
                cases hAe
                obtain ⟨c0, c1, c2⟩ := hacc q _ hx2
                dsimp only at c0 c1 c2
                have hap := fun W => apart_any W size (x, y, z) (x2, y2, z2) p1 p2 (hbd.out _ (List.mem_of_getElem? HX.out)) (hbd.out _ (List.mem_of_getElem? hx2))
                dsimp only at hap
                have HAp := Lib.hid hap
                have hst := fun q' => PU_step (size := size) HX.out hx2 q'
                have HST := Lib.hid hst
                have d0 := (blk_cell HJ.out.2 0).trans (rfl : _ = some (Value.int .i64 x))
                have d1 := (blk_cell HJ.out.2 1).trans (rfl : _ = some (Value.int .i64 y))
                have d2 := (blk_cell HJ.out.2 2).trans (rfl : _ = some (Value.int .i64 z))
                have hqi : (q : Int) < (k : Int) := by omega
                have hlb : Ba < wr.heap.size := (Array.getElem?_eq_some_iff.1 HJ.out.2).1
                clear hap hst hacc hx2
                cases hab : apartB size (x, y, z) (x2, y2, z2)
                · rw [hab] at HAp
                  simp only [hab, Bool.false_eq_true, false_and, or_false] at HST
                  clear hab
                  go_wp2_with (go_at_call 46; refine (HAp.out _).mono ?_; rintro e w6 ⟨rfl, hg6⟩; have H6 := Lib.hid hg6; clear hg6)
                  go_roundw
                  case rel =>
                    have hG := ((Grow.refl wr).alloc _).trans H6.out
                    exact ⟨q + 1, by omega, by go_num, (HJ.out.1.grow hG).iff (fun q' => (HST.out q').symm) (fun _ => Iff.rfl), hG.at_ HJ.out.2⟩
                  case measure => simp [intOf] <;> omega
                · rw [hab] at HAp
                  simp only [hab, true_and] at HST
                  clear hab
                  go_upto_if 53 with (go_at_call 46; refine (HAp.out _).mono ?_; rintro e w6 ⟨rfl, hg6⟩; have H6 := Lib.hid hg6; clear hg6)
                  have hG := ((Grow.refl wr).alloc _).trans H6.out
                  have HJ6 := Lib.hid (HJ.out.1.grow hG)
                  have HB6 := Lib.hid (hG.at_ HJ.out.2)
                  have d61 := (blk_cell HB6.out 1).trans (rfl : _ = some (Value.int .i64 y))
                  obtain ⟨ks, hu, hu2⟩ := HJ6.out.u
                  have HU := Lib.hid (And.intro hu hu2)
                  clear hG hu hu2 d0 d1 d2 c0 c1 c2
                  go_wp2_with (at_mapUpdate; refine wpList_mput rfl _ _ _ rfl HU.out.1 Try.underlying82 Try.underlying3 (y / size) _ rfl rfl rfl ?_; intro ob him; have HF := Lib.hid (HJ6.out.putU HU.out.2 HU.out.1 him); clear him)
                  go_roundw
                  case rel =>
                    exact ⟨q + 1, by omega, by go_num, HF.out.iff (fun q' => (HST.out q').symm) (fun _ => Iff.rfl), (blk_block_other (fun e => HU.out.1.ne HB6.out e.symm)).trans HB6.out⟩
                  case measure => simp [intOf] <;> omega
              · obtain rfl : q = k := by omega
                have hqi : ¬ (q : Int) < (q : Int) := by omega
                go_wp2_with fail
                go_roundw
                case rel => exact ⟨q + 1, by omega, by go_num, HJ.out.1.iff (PU_next size m q) (fun _ => Iff.rfl)⟩
                case measure => simp [intOf] <;> omega
        · obtain rfl : k = m.length := by omega
          have hki : ¬ (m.length : Int) < (m.length : Int) := by omega
          obtain ⟨ks, hu, hu2⟩ := HI.out.u
          obtain ⟨ws, hv, hv2⟩ := HI.out.v
          have hnd : ks.Nodup := by have := hu.nodup; rwa [setKv_fst] at this
          have hfin := shared_eq HM.out hnd hu2 hv2
          have hlen := used_len HM.out hnd hu2
          have hsort := sortedB_any hu (fun p hp => by
            obtain ⟨q, hq, rfl⟩ := List.mem_map.1 hp
            obtain ⟨a, ha, b, hb, _, e⟩ := (PU_all size m q).1 ((hu2 q).1 hq)
            have hb2 := hbd.out a ha
            simp [bad] at hb2
            have h0 : 0 ≤ a.2.1 / size := Int.ediv_nonneg (by omega) (by omega)
            have h1 : a.2.1 / size ≤ a.2.1 := Int.ediv_le_self _ (by omega)
            dsimp only
            omega) (by simp [setKv]; omega) _ rfl
          rw [setKv_fst] at hsort
          have HSo := Lib.hid hsort
          have HFi := Lib.hid hfin
          have HV2 := Lib.hid hv
          clear hsort hfin hu hu2 hv hv2 hnd
          go_wp2_with (first | (go_at_call 48; refine (keysB_any _ _).mono ?_; rintro e w' ⟨rfl, rfl⟩) | (go_at_call 39; refine HSo.out.mono ?_))
          rintro e w6 ⟨v6, rfl, hown, hg6⟩
          have hG := ((Grow.refl wr).alloc (.cells #[.map (some U)] 82)).trans hg6
          have hbx := hG.at_ HI.out.box
          have hvv := HV2.out.fr hG (fun h => h)
          have hlb := (Array.getElem?_eq_some_iff.1 HI.out.box).1
          have hlv := HV2.out.lt
          have hgw := HI.out.gr.trans hG
          rcases hown.2 with ⟨rfl, hz⟩ | ⟨g, cap2, cur, rfl, hb1, _⟩
          · have h0 : srt ks = [] := List.eq_nil_of_length_eq_zero hz
            have HD := Lib.hid (delete_nil w6 (f := 49) (lb := #[.pointer (some ⟨U + 1 + 1, 0, none⟩)]) (enters_of Try.func49 (by kernel_rfl) rfl))
            have HE : Hid (MadeE w true (shr size l) (.returned (.tuple #[.slice none 0 0, .int .i64 0])) w6) := by
              have hs := HFi.out
              rw [h0] at hs
              have hs2 : shr size l = [] := hs.symm
              rw [hs2]
              exact ⟨_, rfl, World.ownsRow_nil _ _ _ _, hgw⟩
            clear hown hG hbx hvv hgw h0 hg6
            go_wp2_with (go_at_call 47; refine HD.out.mono ?_; rintro e w' ⟨rfl, rfl⟩)
            exact HR.out _ _ HE.out
          · have hb1' : wr.heap.size + 1 ≤ g := by rwa [size_alloc] at hb1
            have hdel := delete_any (f := 49) (lb := #[.pointer (some ⟨U + 1 + 1, 0, none⟩)]) (p := fun q => !(decide (q ∈ ws))) hown (fun W hf x hx => closure49 (hf.at_ hbx (by omega)) (hvv.fr hf (by omega)) x) (enters_of Try.func49 (by kernel_rfl) rfl) (by rw [srt_len]; omega)
            rw [HFi.out] at hdel
            have HD := Lib.hid hdel
            have hws := HI.out.gr.size
            have HG6 := Lib.hid hgw
            clear hdel hown hG hbx hvv hgw hg6
            go_wp2_with (go_at_call 47; refine HD.out.mono ?_; rintro e w' ⟨c7, rfl, hown7, hf7⟩; have HE : Hid (MadeE w true (shr size l) (.returned (.tuple #[.slice (some ⟨g, 0, none⟩) (shr size l).length c7, .int .i64 0])) w') := ⟨_, rfl, own_base_le hown7 (by rw [size_alloc]; omega), Fr.then HG6.out hf7 (fun i hi e => by have e' : i = g := e; omega)⟩; clear hown7 hf7)
            exact HR.out _ _ HE.out
end Go.Proofs.Ytabplbalacldfaa
