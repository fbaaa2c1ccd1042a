/- The span manager: sweep. -/
import Derived.Test.YtcgcljmnnjalpaaGreatGeH
import Derived.StillTailTactics
set_option linter.unusedVariables false
set_option linter.unusedSimpArgs false
namespace Go.Proofs.YtcgcljmnnjalpaaGreat
open Go.RowKit Go.Kx
open Go.ChangeMaps (setBlock)
theorem infoS : (Tryz.prog.info? 147).map (fun i => (i.zero, i.size, i.bytes)) = some (some (.agg #[.int .i64 0, .int .i64 0, .int .i64 0]), 3, 24) := by kernel_rfl
theorem fr_grow {S : Nat → Prop} {a b c : World} (h : Fr S a b) (g : Grow b c) : Fr S a c := h.then g (fun _ _ h => h.elim)
/-- Of the first k items those of which p holds. -/
def bkP (p : Itm → Bool) (l : List Itm) (k : Nat) : List Itm := (l.take k).filter p
theorem bkP_succ {p : Itm → Bool} {l : List Itm} {k : Nat} {x : Itm} (h : l[k]? = some x) : bkP p l (k + 1) = if p x then bkP p l k ++ [x] else bkP p l k := by
  unfold bkP
  rw [List.take_add_one, h, List.filter_append]
  cases hg : p x <;> simp [hg]
theorem bkP_len (p : Itm → Bool) (l : List Itm) (k : Nat) : (bkP p l k).length ≤ k := Nat.le_trans (List.length_filter_le _ _) (List.length_take_le _ _)
theorem bkP_all (p : Itm → Bool) (l : List Itm) : bkP p l l.length = l.filter p := by unfold bkP; rw [List.take_length]
def goneS (s : RS) (x : Itm) : Bool := !((List.range 4).any (spanB s x))
theorem freeS {s : RS} (h : s.kind = 3) (x : Itm) : freeB s x = goneS s x := by
  unfold freeB goneS
  rw [if_neg (by omega), if_neg (by omega), if_pos h]
def bornK (s : RS) (B : List Itm) : Int → Int := fun a => if a ∈ B.map (·.addr) then 0 else s.born a
theorem sweepP {s : RS} (h : s.kind = 3) : (sweepS s fun _ => true).back = (bkP (goneS s) s.items s.items.length).map (·.addr) ∧ (sweepS s fun _ => true).st.items = bkP (fun x => !goneS s x) s.items s.items.length ∧ (sweepS s fun _ => true).st.born = bornK s (bkP (goneS s) s.items s.items.length) := by
  have e : ∀ x : Itm, (true && freeB s x) = goneS s x := fun x => by rw [Bool.true_and, freeS h]
  unfold sweepS bornK
  rw [bkP_all, bkP_all]
  refine ⟨?_, ?_, ?_⟩
  all_goals simp only [e]
/-- What stands in the middle of the loop. -/
structure SwI (w : World) (M : Nat) (s : RS) (B L : List Itm) (u x : Value) (wr : World) : Prop where
  back : wr.ownsRow w.heap.size 3 1 u B.length (B.map fun x => Value.int .i64 x.addr)
  left : wr.ownsRow w.heap.size 147 3 x L.length (L.flatMap encS)
  fr : Fr (· = M) w wr
  born : ∃ kv, IMap wr M kv ∧ BMapP kv (bornK s B)
set_option maxRecDepth 100000 in
set_option maxHeartbeats 8000000 in
theorem spSweep {b : Nat} {w : World} {F : FP} {s : RS} (h : SP b w F s) (hs : s.items.length ≤ 200000) : Calls Tryz.prog 110 #[.pointer (some ⟨b, 0, none⟩)] w (OpL (SP b) w F (sweepS s fun _ => true)) := by
  refine cph fun R HR => ?_
  obtain ⟨M, v, hv⟩ := h
  have k27 := (blk_cell hv.blk 27).trans (rfl : _ = some v)
  have hbl := blk_lt hv.blk
  have HV := Lib.hid hv
  obtain ⟨i0, hi, hz0, hz1, hz2⟩ := info_parts info3x
  have HI := Lib.hid (And.intro hi (And.intro hz0 (And.intro hz1 hz2)))
  clear hi hz0 hz1 hz2
  obtain ⟨i1, hi, hz0, hz1, hz2⟩ := info_parts infoS
  have HJ := Lib.hid (And.intro hi (And.intro hz0 (And.intro hz1 hz2)))
  clear hi hz0 hz1 hz2
  have hsh : ∃ A cap, v = .slice A s.items.length cap ∧ (s.items ≠ [] → ∃ g, A = some ⟨g, 0, none⟩) := by
    rcases own_val hv.row with ⟨rfl, h0⟩ | ⟨g, cap, rfl, _⟩
    · have : s.items = [] := List.eq_nil_of_length_eq_zero h0
      exact ⟨none, 0, by rw [h0], fun h => absurd this h⟩
    · exact ⟨_, cap, rfl, fun _ => ⟨g, rfl⟩⟩
  obtain ⟨A, cap, rfl, hA⟩ := hsh
  have HA := Lib.hid hA
  have hMl : M < w.heap.size := by obtain ⟨kv, hm, _⟩ := hv.cmap; exact hm.lt
  clear hv hA
  go_enter Tryz.func110, Tryz.ntmps110
  go_wp2_with fail
  go_loopw [3, 4, 12] (fun u x i wr => ∃ k : Nat, k ≤ s.items.length ∧ i = .int .i64 k ∧ Hid (SwI w M s (bkP (goneS s) s.items k) (bkP (fun x => !goneS s x) s.items k) u x wr)) (fun _ _ i _ => s.items.length - (intOf i).toNat)
  case atStart =>
    refine ⟨0, by omega, rfl, World.ownsRow_nil _ _ _ _, World.ownsRow_nil _ _ _ _, Fr.refl _ _, ?_⟩
    obtain ⟨kv, hm, hc⟩ := HV.out.cmap
    exact ⟨kv, hm, fun y hy => by rw [hc y hy]; simp [bornK, bkP]⟩
  case round =>
    obtain ⟨k, hk, rfl, HO⟩ := hrel
    by_cases hlt : k < s.items.length
    · obtain ⟨x, hx⟩ : ∃ x, s.items[k]? = some x := ⟨s.items[k], by simp [hlt]⟩
      obtain ⟨g, rfl⟩ := HA.out (by intro e; rw [e] at hlt; simp at hlt)
      have hrow := owns_fr HV.out.row HO.out.fr (fun j hj e => (HV.out.nev j hj).2 e)
      have c0 := (own_at encS_len hrow hx (o := 0) (by omega)).trans (rfl : _ = some (Value.int .i64 x.addr))
      have c1 := (own_at encS_len hrow hx (o := 1) (by omega)).trans (rfl : _ = some (Value.int .i64 x.birth))
      have c2 := (own_at encS_len hrow hx (o := 2) (by omega)).trans (rfl : _ = some (Value.int .i64 x.at_))
      rw [Nat.add_zero] at c0
      have hki : (k : Int) < (s.items.length : Int) := by omega
      have hgs := HO.out.fr.size
      have hb1 := bkP_len (goneS s) s.items k
      have hb2 := bkP_len (fun x => !goneS s x) s.items k
      have hbr := HO.out.fr.at_ HV.out.blk (fun e => HV.out.neM e.symm)
      have h1 := bkP_succ (p := goneS s) hx
      have h2 := bkP_succ (p := fun x => !goneS s x) hx
      have hxa := HV.out.ok.addr x (List.mem_of_getElem? hx)
      -- the item's own copy
      have hnA := blk_new wr (Obj.cells #[.int .i64 x.addr, .int .i64 x.birth, .int .i64 x.at_] 147)
      have hgA := (Grow.refl wr).alloc (Obj.cells #[.int .i64 x.addr, .int .i64 x.birth, .int .i64 x.at_] 147)
      obtain ⟨wA, hwA⟩ : ∃ wA, wr.alloc (Obj.cells #[.int .i64 x.addr, .int .i64 x.birth, .int .i64 x.at_] 147) = wA := ⟨_, rfl⟩
      rw [hwA] at hnA hgA
      have a0 := (blk_cell hnA 0).trans (rfl : _ = some (Value.int .i64 x.addr))
      have a1 := (blk_cell hnA 1).trans (rfl : _ = some (Value.int .i64 x.birth))
      have a2 := (blk_cell hnA 2).trans (rfl : _ = some (Value.int .i64 x.at_))
      have HM := Lib.hid (spMeets (hgA.at_ hbr) x)
      have HNA := Lib.hid (And.intro hnA (And.intro hgA hbr))
      have HXA := Lib.hid hxa
      clear hx hrow hnA hgA hbr hxa
      cases hq : (List.range 4).any (spanB s x)
      · have hgo : goneS s x = true := by unfold goneS; rw [hq]; rfl
        rw [hq] at HM
        rw [hgo] at h1
        simp only [hgo, Bool.not_true, Bool.false_eq_true, if_false, if_true] at h1 h2
        have HN := Lib.hid (And.intro h1 h2)
        clear h1 h2 hgo hq
        generalize bkP (goneS s) s.items k = B at HO HN hb1
        generalize bkP (fun x => !goneS s x) s.items k = L at HO HN hb2
        go_wp2_with (first | (go_at_call 141; refine HM.out.mono ?_; rintro e wB ⟨rfl, hgB⟩; have b0 := hgB.cell a0; have HGB := Lib.hid (HNA.out.2.1.trans hgB); have hsB := HGB.out.size; have HBB := Lib.hid (hgB.at_ HNA.out.1); clear hgB) | (at_builtin; refine wpList_append_own_at _ rfl (.tmp 23) (.tmp 26) 34 rfl w.heap.size 3 i0 (.int .i64 0) 1 8 Tryz.underlying34 HI.out.1 HI.out.2.1 HI.out.2.2.1 HI.out.2.2.2 rfl (by decide) _ _ _ rfl ((owns_grow HO.out.back HGB.out).alloc _) ⟨wB.heap.size, 0, none⟩ 1 1 [.int .i64 x.addr] rfl rfl (cell_one_new _ _ _) (by simp [Value.oneCell']) (by unfold maxLen; omega) (by omega) (by simp; omega) ?_))
        intro v' w3 hown hgrow _ hat
        have hfg := fr_grown hgrow
        have hM3 : ∀ j, u3.ownBlock = some j → M ≠ j := fun j e => by have := (HO.out.back.lt j e).1; omega
        have hfr3 : Fr (· = M) w w3 := ((fr_grow HO.out.fr HGB.out).alloc _).grown hgrow (fun j e => .inl (HO.out.back.lt j e).1)
        have hJ3 := hfg.at_ (blk_alloc' _ HBB.out) (fun e => by have := (HO.out.back.lt _ e).2; omega)
        have hb3 := hfr3.at_ HV.out.blk (fun e => HV.out.neM e.symm)
        have hl3 := owns_fr (owns_grow HO.out.left (HGB.out.alloc (Obj.cells #[.int .i64 x.addr] 3))) hfg (fun j hj e => own_ne HO.out.back HO.out.left (by decide) j hj e)
        obtain ⟨kv, hm, hc⟩ := HO.out.born
        have hm3 := (hm.fr (HGB.out.alloc (Obj.cells #[.int .i64 x.addr] 3)) (fun h => h)).fr hfg (fun e => hM3 M e rfl)
        have H3 : Hid ((w3.drewN 1).ownsRow w.heap.size 3 1 v' (B ++ [x]).length ((B ++ [x]).map fun x => Value.int .i64 x.addr) ∧ (w3.drewN 1).ownsRow w.heap.size 147 3 u4 L.length (L.flatMap encS) ∧ Fr (· = M) w (w3.drewN 1) ∧ IMap (w3.drewN 1) M kv) :=
          ⟨owns_grow (by simpa using hown) ((Grow.refl _).drewN 1), owns_grow hl3 ((Grow.refl _).drewN 1), hfr3.drewN 1, hm3.fr (S := fun _ => False) ((Fr.refl _ w3).drewN 1) (fun h => h)⟩
        have HC := Lib.hid hc
        have k26 : (w3.drewN 1).cell? ⟨b, 26, none⟩ = some (.map (some M)) := (blk_cell hb3 26).trans rfl
        have j0 : (w3.drewN 1).cell? ⟨wr.heap.size, 0, none⟩ = some (.int .i64 x.addr) := (blk_cell hJ3 0).trans rfl
        clear hown hgrow hat hfg hM3 hfr3 hJ3 hb3 hl3 hm hm3 hc
        go_upto_region 9 with fail
        refine wp_region_still_tail 6 (by kernel_rfl) (by kernel_rfl) ?_
        change wpStill _ _ (w3.drewN 1) (fun a' => wpList _ _ _ _ a' (w3.drewN 1)) _ _
        generalize w3.drewN 1 = w4 at H3 k26 j0 ⊢
        simp only [List.take_succ_cons, List.take_zero, List.drop_succ_cons, List.drop_zero]
        repeat still_step
        refine wpStill_nil ?_
        obtain ⟨ob, hdel, him⟩ := H3.out.2.2.2.delete (e := 3) Tryz.underlying124 Tryz.underlying3 x.addr 0
        have hfb : Fr (· = M) w4 (setBlock w4 M ob) := (Fr.refl _ _).block _ _ (.inr rfl)
        have H7 : Hid (SwI w M s (B ++ [x]) L v' u4 (setBlock w4 M ob)) := by
          refine ⟨owns_fr H3.out.1 hfb (fun j hj e => by have := (H3.out.1.lt j hj).1; omega), owns_fr H3.out.2.1 hfb (fun j hj e => by have := (H3.out.2.1.lt j hj).1; omega), H3.out.2.2.1.trans hfb, _, him, HC.out.del x.addr (fun y hy => ?_)⟩
          unfold bornK
          by_cases e : y = x.addr
          · rw [if_pos e, if_pos (by simp [e])]
          · rw [if_neg e, List.map_append]
            simp only [List.mem_append, List.map_cons, List.map_nil, List.mem_singleton, e, or_false]
        clear him hfb
        go_wp2_with fail
        go_roundw
        case rel => exact ⟨k + 1, by omega, by go_num, by rw [HN.out.1, HN.out.2]; exact H7.out⟩
        case measure => simp [intOf] <;> omega
      · have hgo : goneS s x = false := by unfold goneS; rw [hq]; rfl
        rw [hq] at HM
        rw [hgo] at h1
        simp only [hgo, Bool.not_false, Bool.false_eq_true, if_false, if_true] at h1 h2
        have HN := Lib.hid (And.intro h1 h2)
        clear h1 h2 hgo hq
        generalize bkP (goneS s) s.items k = B at HO HN hb1
        generalize bkP (fun x => !goneS s x) s.items k = L at HO HN hb2
        go_wp2_with (first | (go_at_call 141; refine HM.out.mono ?_; rintro e wB ⟨rfl, hgB⟩; have b0 := hgB.cell a0; have b1 := hgB.cell a1; have b2 := hgB.cell a2; have HGB := Lib.hid (HNA.out.2.1.trans hgB); have hsB := HGB.out.size; clear hgB) | (at_builtin; refine wpList_append_own_at _ rfl (.tmp 19) (.tmp 21) 128 rfl w.heap.size 147 i1 (.agg #[.int .i64 0, .int .i64 0, .int .i64 0]) 3 24 Tryz.underlying128 HJ.out.1 HJ.out.2.1 HJ.out.2.2.1 HJ.out.2.2.2 rfl (by decide) _ _ _ rfl ((owns_grow HO.out.left HGB.out).alloc _) ⟨wB.heap.size, 0, none⟩ 1 1 [.int .i64 x.addr, .int .i64 x.birth, .int .i64 x.at_] rfl rfl (cells_new wB [.int .i64 x.addr, .int .i64 x.birth, .int .i64 x.at_] 147) (by simp [Value.oneCell']) (by unfold maxLen; omega) (by omega) (by simp; omega) ?_))
        intro v' w3 hown hgrow _ hat
        have hfg := fr_grown hgrow
        have hM3 : ∀ j, u4.ownBlock = some j → M ≠ j := fun j e => by have := (HO.out.left.lt j e).1; omega
        have H7 : Hid (SwI w M s B (L ++ [x]) u3 v' w3) := by
          obtain ⟨kv, hm, hc⟩ := HO.out.born
          refine ⟨owns_fr (owns_grow HO.out.back (HGB.out.alloc _)) hfg (fun j hj e => own_ne HO.out.left HO.out.back (by decide) j hj e), ?_, ((fr_grow HO.out.fr HGB.out).alloc _).grown hgrow (fun j e => .inl (HO.out.left.lt j e).1), kv, (hm.fr (HGB.out.alloc _) (fun h => h)).fr hfg (fun e => hM3 M e rfl), hc⟩
          have he : [Value.int .i64 x.addr, .int .i64 x.birth, .int .i64 x.at_] = encS x := rfl
          rw [he] at hown
          simpa using hown
        clear hown hgrow hat hfg hM3
        go_wp2_with fail
        go_roundw
        case rel => exact ⟨k + 1, by omega, by go_num, by rw [HN.out.1, HN.out.2]; exact H7.out⟩
        case measure => simp [intOf] <;> omega
    · obtain rfl : k = s.items.length := by omega
      have hki : ¬ (s.items.length : Int) < (s.items.length : Int) := by omega
      have kb := HO.out.fr.at_ HV.out.blk (fun e => HV.out.neM e.symm)
      have k27' := (blk_cell kb 27).trans (rfl : _ = some (Value.slice A s.items.length cap))
      have f27' := blk_free kb 27
      obtain ⟨A4, m4, p4, hu4⟩ := own_sl HO.out.left
      subst hu4
      have HF : Hid (OpL (SP b) w F (sweepS s fun _ => true) (.returned u3) (wr.setCell ⟨b, 27, none⟩ (.slice A4 m4 p4))) := by
        obtain ⟨hbe, hie, hbo⟩ := sweepP (s := s) HV.out.kind
        have hfb : Fr (· = b) wr (wr.setCell ⟨b, 27, none⟩ (.slice A4 m4 p4)) := (Fr.refl _ _).setCell _ _ (.inr rfl)
        obtain ⟨kv, hm, hc⟩ := HO.out.born
        refine ⟨u3, fun k => k = b ∨ k = M ∨ (Value.slice A4 m4 p4).ownBlock = some k, rfl, ?_, ⟨M, .slice A4 m4 p4, HV.out.kind, HV.out.ok.sweep _, blk_set kb 27 _, ⟨kv, hm.fr hfb HV.out.neM, ?_⟩, ?_, fun k => Iff.rfl⟩, ?_, ?_⟩
        · rw [hbe, List.length_map, List.map_map]
          exact owns_fr HO.out.back hfb (fun j hj e => by have := (HO.out.back.lt j hj).1; omega)
        · rw [hbo]; exact hc
        · rw [hie]
          exact own_base_le (owns_fr HO.out.left hfb (fun j hj e => by have := (HO.out.left.lt j hj).1; omega)) (Nat.zero_le _)
        · refine ⟨Fr.then (HO.out.fr.mono fun i _ e => (HV.out.fp i).2 (.inr (.inl e))) hfb (fun i _ e => (HV.out.fp i).2 (.inl e)), fun k hk => ?_⟩
          rcases hk with e | e | e
          · exact .inl ((HV.out.fp k).2 (.inl e))
          · exact .inl ((HV.out.fp k).2 (.inr (.inl e)))
          · exact .inr (HO.out.left.lt k e).1
        · intro k hk hf
          have h1 := (HO.out.back.lt k hk).1
          rcases hf with e | e | e
          · omega
          · omega
          · exact own_ne HO.out.left HO.out.back (by decide) k hk e
      clear kb
      go_wp2_with fail
      exact HR.out _ _ HF.out
end Go.Proofs.YtcgcljmnnjalpaaGreat
