/- The reference's manager: Sweep. -/
import Derived.Test.YtcgcljmnnjalpaaGreatGrE
set_option linter.unusedVariables false
set_option linter.unusedSimpArgs false
namespace Go.Proofs.YtcgcljmnnjalpaaGreat
open Go.RowKit Go.Kx
open Go.ChangeMaps (setBlock)
/-- The items of the first k that a test takes. -/
def fq (q : Itm → Bool) (l : List Itm) (k : Nat) : List Itm := (l.take k).filter q
theorem fq_succ {q : Itm → Bool} {l : List Itm} {k : Nat} {x : Itm} (h : l[k]? = some x) : fq q l (k + 1) = if q x then fq q l k ++ [x] else fq q l k := by
  unfold fq
  rw [List.take_add_one, h, List.filter_append]
  cases hx : q x <;> simp [hx]
theorem fq_le (q : Itm → Bool) (l : List Itm) (k : Nat) : (fq q l k).length ≤ k := Nat.le_trans (List.length_filter_le _ _) (List.length_take_le _ _)
theorem fq_all (q : Itm → Bool) (l : List Itm) : fq q l l.length = l.filter q := by unfold fq; rw [List.take_length]
def bornJ (s : RS) (B : List Int) (j : Nat) : RS := { s with born := fun a => if a ∈ B.take j then 0 else s.born a }
def leftS (s : RS) (q : Itm → Bool) : RS := { s with items := s.items.filter fun x => !q x }
theorem sweepR (s : RS) (p : Itm → Bool) : (sweepS s p).back = (s.items.filter fun x => p x && freeB s x).map (·.addr) ∧ (sweepS s p).st = bornJ (leftS s fun x => p x && freeB s x) (sweepS s p).back (sweepS s p).back.length := by
  refine ⟨rfl, ?_⟩
  unfold bornJ leftS
  rw [List.take_length]
  rfl
theorem bornJ_succ (s : RS) {B : List Int} {j : Nat} {a : Int} (h : B[j]? = some a) : bornJ s B (j + 1) = { bornJ s B j with born := fun x => if x = a then 0 else (bornJ s B j).born x } := by
  unfold bornJ
  congr 1
  funext x
  rw [List.take_add_one, h]
  by_cases hx : x = a
  · simp [hx]
  · by_cases h2 : x ∈ B.take j <;> simp [hx, h2]
/-- While the births are taken away. -/
structure SwR (b n : Nat) (w : World) (F : FP) (s : RS) (v : Value) (B : List Int) (j : Nat) (wr : World) : Prop where
  at_ : ∃ vi vb kb F', RMv b vi vb kb wr F' (bornJ s B j) ∧ kb.length ≤ n ∧ Step F w F' wr ∧ ∀ k, v.ownBlock = some k → ¬ F' k
  row : wr.ownsRow w.heap.size 3 1 v B.length (B.map (Value.int .i64))
theorem SwR.call {b n : Nat} {w : World} {F : FP} {s : RS} {v : Value} {B : List Int} {j : Nat} {wr : World} (h : SwR b n w F s v B j wr) (hn : n ≤ 2000000) {a : Int} (ha : B[j]? = some a) : Calls Tryz.prog 124 #[.pointer (some ⟨b, 0, none⟩), .int .i64 a, .int .i64 0] wr fun e w' => e = .returned (.tuple #[]) ∧ SwR b n w F s v B (j + 1) w' := by
  obtain ⟨vi, vb, kb, F', hv, hkl, hs, hne⟩ := h.at_
  refine (rBear hv (Nat.le_trans hkl hn) a 0 (Int.le_refl _)).mono ?_
  rintro e w' ⟨rfl, vb2, F2, hv2, hs2⟩
  refine ⟨rfl, ⟨vi, vb2, _, F2, by rw [bornJ_succ s ha]; exact hv2, ?_, hs.trans hs2, fun k hk => ?_⟩, owns_fr h.row hs2.fr hne⟩
  · have := bear_len kb a 0
    simp at this
    omega
  · intro hf
    rcases hs2.sub k hf with q | q
    · exact hne k hk q
    · have := (h.row.lt k hk).2; omega
set_option maxRecDepth 100000 in
set_option maxHeartbeats 8000000 in
theorem rSweep {b : Nat} {w : World} {F : FP} {s : RS} (h : RM b w F s) (hs : s.items.length ≤ 200000) (hs2 : s.now ≤ 2000000) (t : Int) : Calls Tryz.prog 123 #[.pointer (some ⟨b, 0, none⟩), .int .i64 t] w (OpL (RM b) w F (sweepS s fun x => decide (t < 0) || (x.thr == t))) := by
  refine cph fun R HR => ?_
  obtain ⟨vi, vb, kb, hv, hkl⟩ := h
  have k8 := (blk_cell hv.blk 28).trans (rfl : _ = some vi)
  have hbl := blk_lt hv.blk
  have HV := Lib.hid hv
  obtain ⟨i0, hi, hz0, hz1, hz2⟩ := info_parts info3x
  have HI := Lib.hid (And.intro hi (And.intro hz0 (And.intro hz1 hz2)))
  clear hi hz0 hz1 hz2
  obtain ⟨i1, hi, hz0, hz1, hz2⟩ := info_parts infoR
  have HJ := Lib.hid (And.intro hi (And.intro hz0 (And.intro hz1 hz2)))
  clear hi hz0 hz1 hz2
  obtain ⟨A, cap, rfl, hA⟩ := hv.shape
  have HA := Lib.hid hA
  have hsr := sweepR s (fun x => decide (t < 0) || (x.thr == t))
  obtain ⟨q, hq⟩ : ∃ q : Itm → Bool, (fun x : Itm => (decide (t < 0) || (x.thr == t)) && freeB s x) = q := ⟨_, rfl⟩
  rw [hq] at hsr
  have hqx : ∀ x : Itm, q x = ((decide (t < 0) || (x.thr == t)) && freeB s x) := fun x => by rw [← hq]
  have HQ := Lib.hid hqx
  have HSR := Lib.hid hsr
  have hF : ∀ (W : World) (hg : Grow w W) (x : Itm), x ∈ s.items → Calls Tryz.prog 143 #[.pointer (some ⟨b, 0, none⟩), valR x] W fun e w' => e = .returned (.bool (freeB s x)) ∧ Grow W w' := fun W hg x hx => rFree (hv.local_fr (G := fun _ => False) hg (fun _ _ e => e)) hs2 x (hv.ok.addr x hx) (fun t ht => hv.ok.forI x hx t ht)
  have HF := Lib.hid hF
  clear hv hA hsr hq hqx hF
  go_enter Tryz.func123, Tryz.ntmps123
  go_wp2_with fail
  go_loopw [5, 6, 7] (fun u o i wr => ∃ k : Nat, k ≤ s.items.length ∧ i = .int .i64 k ∧ Hid (wr.ownsRow w.heap.size 153 8 u (fq (fun x => !q x) s.items k).length ((fq (fun x => !q x) s.items k).flatMap encR) ∧ wr.ownsRow w.heap.size 3 1 o (fq q s.items k).length ((fq q s.items k).map fun x => Value.int .i64 x.addr) ∧ Grow w wr)) (fun _ _ i _ => s.items.length - (intOf i).toNat)
  case atStart => exact ⟨0, by omega, rfl, World.ownsRow_nil _ _ _ _, World.ownsRow_nil _ _ _ _, Grow.refl _⟩
  case round =>
    obtain ⟨k, hk, rfl, HO⟩ := hrel
    have k8' := HO.out.2.2.cell k8
    have hgs := HO.out.2.2.size
    have hb1 := fq_le q s.items k
    have hb2 := fq_le (fun x => !q x) s.items k
    by_cases hlt : k < s.items.length
    · obtain ⟨x, hx⟩ : ∃ x, s.items[k]? = some x := ⟨s.items[k], by simp [hlt]⟩
      obtain ⟨g, rfl⟩ := HA.out (by intro e; rw [e] at hlt; simp at hlt)
      have hrow := owns_grow HV.out.row HO.out.2.2
      have c0 := (own_at encR_len hrow hx (o := 0) (by omega)).trans (rfl : _ = some (Value.int .i64 x.addr))
      have c1 := (own_at encR_len hrow hx (o := 1) (by omega)).trans (rfl : _ = some (Value.int .i64 x.thr))
      have c2 := (own_at encR_len hrow hx (o := 2) (by omega)).trans (rfl : _ = some (Value.int .i64 x.at_))
      have c3 := (own_at encR_len hrow hx (o := 3) (by omega)).trans (rfl : _ = some (Value.int .i64 x.birth))
      have c4 := (own_at encR_len hrow hx (o := 4) (by omega)).trans (rfl : _ = some (Value.bool (x.for_ 0)))
      have c5 := (own_at encR_len hrow hx (o := 5) (by omega)).trans (rfl : _ = some (Value.bool (x.for_ 1)))
      have c6 := (own_at encR_len hrow hx (o := 6) (by omega)).trans (rfl : _ = some (Value.bool (x.for_ 2)))
      have c7 := (own_at encR_len hrow hx (o := 7) (by omega)).trans (rfl : _ = some (Value.bool (x.for_ 3)))
      rw [Nat.add_zero] at c0
      have hki : (k : Int) < (s.items.length : Int) := by omega
      have h1 := fq_succ (q := q) hx
      have h2 := fq_succ (q := fun x => !q x) hx
      have hqx := HQ.out x
      have hxm := List.mem_of_getElem? hx
      obtain ⟨wA, hwA⟩ : ∃ wA, wr.alloc (Obj.cells (encR x).toArray 153) = wA := ⟨_, rfl⟩
      have hnA := blk_new wr (Obj.cells (encR x).toArray 153)
      have hgA := (Grow.refl wr).alloc (Obj.cells (encR x).toArray 153)
      rw [hwA] at hnA hgA
      have hwA' : wr.alloc (Obj.cells #[.int .i64 x.addr, .int .i64 x.thr, .int .i64 x.at_, .int .i64 x.birth, .bool (x.for_ 0), .bool (x.for_ 1), .bool (x.for_ 2), .bool (x.for_ 3)] 153) = wA := hwA
      have hFx : Hid (Calls Tryz.prog 143 #[.pointer (some ⟨b, 0, none⟩), .agg #[.int .i64 x.addr, .int .i64 x.thr, .int .i64 x.at_, .int .i64 x.birth, .bool (x.for_ 0), .bool (x.for_ 1), .bool (x.for_ 2), .bool (x.for_ 3)]] wA fun e w' => e = .returned (.bool (freeB s x)) ∧ Grow wA w') := HF.out wA (HO.out.2.2.trans hgA) x hxm
      have HNA := Lib.hid (And.intro hnA hgA)
      clear hx hrow hnA hgA hxm hwA
      have a0 := (blk_cell HNA.out.1 0).trans (rfl : _ = some (Value.int .i64 x.addr))
      have a1 := (blk_cell HNA.out.1 1).trans (rfl : _ = some (Value.int .i64 x.thr))
      have a2 := (blk_cell HNA.out.1 2).trans (rfl : _ = some (Value.int .i64 x.at_))
      have a3 := (blk_cell HNA.out.1 3).trans (rfl : _ = some (Value.int .i64 x.birth))
      have a4 := (blk_cell HNA.out.1 4).trans (rfl : _ = some (Value.bool (x.for_ 0)))
      have a5 := (blk_cell HNA.out.1 5).trans (rfl : _ = some (Value.bool (x.for_ 1)))
      have a6 := (blk_cell HNA.out.1 6).trans (rfl : _ = some (Value.bool (x.for_ 2)))
      have a7 := (blk_cell HNA.out.1 7).trans (rfl : _ = some (Value.bool (x.for_ 3)))
      go_upto_region 7 with fail
      go_cut [38] (fun v wx => v = .bool (q x) ∧ Hid (Grow wA wx))
      case first =>
        by_cases hneg : t < 0
        · have hqq : q x = freeB s x := by rw [hqx]; simp [hneg]
          have HQQ := Lib.hid hqq
          clear hqq hqx h1 h2
          go_wp2_with (go_at_call 143; refine hFx.out.mono ?_; rintro e w' ⟨rfl, hgF⟩)
          go_meet
          exact ⟨by rw [HQQ.out], hgF⟩
        · cases hxt : x.thr == t
          · have hqq : q x = false := by rw [hqx]; simp [hneg, hxt]
            have HQQ := Lib.hid hqq
            clear hqq hqx h1 h2
            go_wp2_with fail
            go_meet
            exact ⟨by rw [HQQ.out], Grow.refl _⟩
          · have hqq : q x = freeB s x := by rw [hqx]; simp [hxt]
            have HQQ := Lib.hid hqq
            clear hqq hqx h1 h2
            go_wp2_with (go_at_call 143; refine hFx.out.mono ?_; rintro e w' ⟨rfl, hgF⟩)
            go_meet
            exact ⟨by rw [HQQ.out], hgF⟩
      case rest =>
        obtain ⟨rfl, HX⟩ := hcut
        clear hqx hFx
        have hgc : Grow wr wc := HNA.out.2.trans HX.out
        have hsc := hgc.size
        replace a0 := HX.out.cell a0
        replace a1 := HX.out.cell a1
        replace a2 := HX.out.cell a2
        replace a3 := HX.out.cell a3
        replace a4 := HX.out.cell a4
        replace a5 := HX.out.cell a5
        replace a6 := HX.out.cell a6
        replace a7 := HX.out.cell a7
        have HGC := Lib.hid hgc
        clear hgc
        cases hqv : q x
        · simp only [hqv, Bool.not_false, Bool.false_eq_true, if_false, if_true] at h1 h2
          have HN := Lib.hid (And.intro h1 h2)
          clear h1 h2 hqv
          generalize fq q s.items k = B at HO HN hb1
          generalize fq (fun x => !q x) s.items k = L at HO HN hb2
          have HNW := Lib.hid (cells_new wc (encR x) 153)
          go_wp2_with (at_builtin; refine wpList_append_own_at _ rfl (.tmp 44) (.tmp 46) 80 rfl w.heap.size 153 i1 (.agg #[.int .i64 0, .int .i64 0, .int .i64 0, .int .i64 0, .bool false, .bool false, .bool false, .bool false]) 8 40 Tryz.underlying80 HJ.out.1 HJ.out.2.1 HJ.out.2.2.1 HJ.out.2.2.2 rfl (by decide) _ _ _ rfl ((owns_grow HO.out.1 HGC.out).alloc _) ⟨wc.heap.size, 0, none⟩ 1 1 (encR x) rfl rfl HNW.out (by simp [Value.oneCell', encR]) (by unfold maxLen; omega) (by omega) (by simp; omega) ?_; intro v' w3 hown hgrow _ _; have H7 : Hid (w3.ownsRow w.heap.size 153 8 v' (L ++ [x]).length ((L ++ [x]).flatMap encR) ∧ w3.ownsRow w.heap.size 3 1 u6 B.length (B.map fun x => Value.int .i64 x.addr) ∧ Grow w w3) := ⟨by simpa using hown, owns_fr (owns_grow HO.out.2.1 (HGC.out.alloc _)) (fr_grown hgrow) (fun j hj e => own_ne HO.out.1 HO.out.2.1 (by decide) j hj e), ((HO.out.2.2.trans HGC.out).alloc _).grown hgrow (fun j e => (HO.out.1.lt j e).1)⟩; clear hown hgrow)
          go_roundw
          case rel => exact ⟨k + 1, by omega, by go_num, by rw [HN.out.1, HN.out.2]; exact H7.out⟩
          case measure => simp [intOf] <;> omega
        · simp only [hqv, Bool.not_true, Bool.false_eq_true, if_false, if_true] at h1 h2
          have HN := Lib.hid (And.intro h1 h2)
          clear h1 h2 hqv
          generalize fq q s.items k = B at HO HN hb1
          generalize fq (fun x => !q x) s.items k = L at HO HN hb2
          have HNW := Lib.hid (cell_one_new wc (.int .i64 x.addr) 3)
          go_wp2_with (at_builtin; refine wpList_append_own_at _ rfl (.tmp 39) (.tmp 42) 34 rfl w.heap.size 3 i0 (.int .i64 0) 1 8 Tryz.underlying34 HI.out.1 HI.out.2.1 HI.out.2.2.1 HI.out.2.2.2 rfl (by decide) _ _ _ rfl ((owns_grow HO.out.2.1 HGC.out).alloc _) ⟨wc.heap.size, 0, none⟩ 1 1 [.int .i64 x.addr] rfl rfl HNW.out (by simp [Value.oneCell']) (by unfold maxLen; omega) (by omega) (by simp; omega) ?_; intro v' w3 hown hgrow _ _; have H7 : Hid (w3.ownsRow w.heap.size 153 8 u5 L.length (L.flatMap encR) ∧ w3.ownsRow w.heap.size 3 1 v' (B ++ [x]).length ((B ++ [x]).map fun x => Value.int .i64 x.addr) ∧ Grow w w3) := ⟨owns_fr (owns_grow HO.out.1 (HGC.out.alloc _)) (fr_grown hgrow) (fun j hj e => own_ne HO.out.2.1 HO.out.1 (by decide) j hj e), by simpa using hown, ((HO.out.2.2.trans HGC.out).alloc _).grown hgrow (fun j e => (HO.out.2.1.lt j e).1)⟩; clear hown hgrow)
          go_roundw
          case rel => exact ⟨k + 1, by omega, by go_num, by rw [HN.out.1, HN.out.2]; exact H7.out⟩
          case measure => simp [intOf] <;> omega
    · obtain rfl : k = s.items.length := by omega
      have hki : ¬ (s.items.length : Int) < (s.items.length : Int) := by omega
      have hl := HO.out.1
      have hb := HO.out.2.1
      rw [fq_all] at hl hb hb1 hb2
      have e1 : (s.items.filter q).map (fun x => Value.int .i64 x.addr) = ((s.items.filter q).map (·.addr)).map (Value.int .i64) := by rw [List.map_map]; rfl
      have e2 : (s.items.filter q).length = ((s.items.filter q).map (·.addr)).length := by simp
      have hR := HSR.out
      rw [← hR.1] at e1 e2
      have e3 := hR.2
      rw [e1, e2] at hb
      rw [e2] at hb1
      have f8 := blk_free (HO.out.2.2.at_ HV.out.blk) 28
      obtain ⟨A5, m5, c5, rfl⟩ := own_sl hl
      obtain ⟨A6, c6, rfl, hints, _, _⟩ := ints_of_own hb
      obtain ⟨r, hr⟩ : ∃ r, sweepS s (fun x => decide (t < 0) || (x.thr == t)) = r := ⟨_, rfl⟩
      rw [hr] at HR e3 hb hb1 hints ⊢
      have HE : Hid (SwR b kb.length w F (leftS s q) (.slice A6 r.back.length c6) r.back 0 (wr.setCell ⟨b, 28, none⟩ (.slice A5 m5 c5))) := by
        have hf : Fr (· = b) wr (wr.setCell ⟨b, 28, none⟩ (.slice A5 m5 c5)) := (Fr.refl _ _).setCell _ _ (.inr rfl)
        have hbk := HO.out.2.2.at_ HV.out.blk
        refine ⟨⟨.slice A5 m5 c5, vb, kb, fun k => k = b ∨ (Value.slice A5 m5 c5).ownBlock = some k ∨ vb.ownBlock = some k, ⟨HV.out.kind, HV.out.ok.sub rfl rfl rfl (fun x hx => (List.mem_filter.1 hx).1) (Int.le_refl _), blk_set hbk 28 _, ?_, ?_, fun a => ?_, fun k => Iff.rfl⟩, Nat.le_refl _, ⟨Fr.then (HO.out.2.2.mono fun _ _ h => h.elim) hf (fun i _ h => (HV.out.fp i).2 (.inl h)), fun k hk => ?_⟩, fun k hk hF => ?_⟩, owns_fr hb hf (fun j hj e => by have := (hb.lt j hj).1; omega)⟩
        · exact own_base_le (owns_fr hl hf (fun j hj e => by have := (hl.lt j hj).1; omega)) (Nat.zero_le _)
        · exact owns_fr (owns_grow HV.out.brow HO.out.2.2) hf (fun j hj e => (HV.out.neb j hj).1 e)
        · rw [HV.out.born a]; simp [bornJ, leftS]
        · rcases hk with q | q | q
          · exact .inl ((HV.out.fp k).2 (.inl q))
          · exact .inr (hl.lt k q).1
          · exact .inl ((HV.out.fp k).2 (.inr (.inr q)))
        · have h0 := (hb.lt k hk).1
          rcases hF with q | q | q
          · omega
          · exact own_ne hb hl (by decide) k q hk
          · have := (HV.out.brow.lt k q).2; omega
      clear hR hl hb e1 e2 hr hints hb2
      have HE3 := Lib.hid e3
      clear e3
      have HKB := Lib.hid hkl
      have hkb : kb.length ≤ 2000000 := by omega
      have hbl2 : r.back.length ≤ 1000000 := by omega
      clear hkl
      go_wp2_with fail
      generalize wr.setCell ⟨b, 28, none⟩ (.slice A5 m5 c5) = wS at HE ⊢
      go_loopw [9] (fun i wq => ∃ j : Nat, j ≤ r.back.length ∧ i = .int .i64 j ∧ Hid (SwR b kb.length w F (leftS s q) (.slice A6 r.back.length c6) r.back j wq)) (fun i _ => r.back.length - (intOf i).toNat)
      case atStart => exact ⟨0, by omega, rfl, HE.out⟩
      case round =>
        obtain ⟨j, hj, rfl, HS⟩ := hrel
        by_cases hl2 : j < r.back.length
        · have hkj : (j : Int) < (r.back.length : Int) := by omega
          obtain ⟨a, ha⟩ : ∃ a, r.back[j]? = some a := ⟨r.back[j], by simp [hl2]⟩
          have hC := HS.out.call hkb ha
          obtain ⟨g, off, rfl, hc⟩ := (ints_own HS.out.row).at_ hl2
          rw [show r.back[j] = a from Option.some.inj ((List.getElem?_eq_getElem hl2).symm.trans ha)] at hc
          have HC := Lib.hid hC
          clear hC ha
          go_wp2_with (go_at_call 124; refine HC.out.mono ?_; rintro e w' ⟨rfl, hs'⟩; have HS' := Lib.hid hs'; clear hs')
          go_roundw
          case rel => exact ⟨j + 1, by omega, by go_num, HS'.out⟩
          case measure => simp [intOf] <;> omega
        · obtain rfl : j = r.back.length := by omega
          have hkj : ¬ (r.back.length : Int) < (r.back.length : Int) := by omega
          go_wp2_with fail
          refine HR.out _ _ ?_
          obtain ⟨vi, vb2, kb2, F', hv2, hk2, hs3, hne⟩ := HS.out.at_
          refine ⟨_, F', rfl, HS.out.row, ⟨vi, vb2, kb2, ?_, ?_⟩, hs3, hne⟩
          · rw [HE3.out]; exact hv2
          · rw [HE3.out]
            have := HKB.out
            show (kb2.length : Int) ≤ s.now
            omega
end Go.Proofs.YtcgcljmnnjalpaaGreat
