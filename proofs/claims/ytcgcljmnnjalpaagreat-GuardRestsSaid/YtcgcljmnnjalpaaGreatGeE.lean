/- The counting manager, in every state: loose and all that is asked of it. -/
import Derived.Test.YtcgcljmnnjalpaaGreatGeD
set_option linter.unusedVariables false
set_option linter.unusedSimpArgs false
namespace Go.Proofs.YtcgcljmnnjalpaaGreat
open Go.RowKit Go.Kx
open Go.ChangeMaps (setBlock)
theorem CMv.upd {b H M : Nat} {v : Value} {w : World} {F : FP} {s s' : RS} (h : CMv b H M v w F s) (hok : Ok s') (hk : s'.kind = s.kind) (hn : s'.n = s.n) (hh : s'.holds = s.holds) (hit : addrs s' = addrs s) : CMv b H M v w F s' :=
  ⟨hk.trans h.kind, hok, by rw [hn]; exact h.blk, by rw [hn, show hRows s' = hRows s by unfold hRows; rw [hn, hh]]; exact h.hrow, by rw [hh]; exact h.cmap, by rw [hit]; exact h.row, h.fp⟩
/-- Of the first k addresses those of which p holds. -/
def bkI (p : Int → Bool) (l : List Int) (k : Nat) : List Int := (l.take k).filter p
theorem bkI_succ {p : Int → Bool} {l : List Int} {k : Nat} {x : Int} (h : l[k]? = some x) : bkI p l (k + 1) = if p x then bkI p l k ++ [x] else bkI p l k := by
  unfold bkI
  rw [List.take_add_one, h, List.filter_append]
  cases hg : p x <;> simp [hg]
theorem bkI_len (p : Int → Bool) (l : List Int) (k : Nat) : (bkI p l k).length ≤ k := Nat.le_trans (List.length_filter_le _ _) (List.length_take_le _ _)
def goneC (s : RS) (a : Int) : Bool := decide (cnH s.holds a = 0)
theorem freeC {s : RS} (h : s.kind = 4) (x : Itm) : freeB s x = goneC s x.addr := by
  unfold freeB goneC
  rw [if_pos (.inr h), held_cn]
  by_cases e : cnH s.holds x.addr = 0 <;> simp [e]
theorem sweepC {s : RS} (h : s.kind = 4) : (sweepS s fun _ => true).back = bkI (goneC s) (addrs s) (addrs s).length ∧ addrs (sweepS s fun _ => true).st = bkI (fun a => !goneC s a) (addrs s) (addrs s).length := by
  have e : ∀ x : Itm, (true && freeB s x) = goneC s x.addr := fun x => by rw [Bool.true_and, freeC h]
  unfold sweepS bkI addrs
  rw [List.take_length]
  simp only [e]
  constructor
  · rw [List.filter_map]; rfl
  · rw [List.filter_map]; rfl
set_option maxRecDepth 100000 in
set_option maxHeartbeats 8000000 in
theorem coLoose {b : Nat} {w : World} {F : FP} {s : RS} (h : CM b w F s) (hs : s.items.length ≤ 200000) : Calls Tryz.prog 113 #[.pointer (some ⟨b, 0, none⟩)] w (OpL (CM b) w F (sweepS s fun _ => true)) := by
  refine cph fun R HR => ?_
  obtain ⟨H, M, v, hv⟩ := h
  have k2 := (blk_cell hv.blk 2).trans (rfl : _ = some v)
  have hbl := blk_lt hv.blk
  have HV := Lib.hid hv
  obtain ⟨i0, hi, hz0, hz1, hz2⟩ := info_parts info3x
  have HI := Lib.hid (And.intro hi (And.intro hz0 (And.intro hz1 hz2)))
  clear hi hz0 hz1 hz2
  obtain ⟨A, cap, rfl, hints, _, _⟩ := ints_of_own hv.row
  have hal : (addrs s).length ≤ 200000 := by rw [addrs_len]; exact hs
  have hpos : Hid (∀ x ∈ addrs s, x ≠ 0) := fun x hx => by
    obtain ⟨y, hy, rfl⟩ := List.mem_map.1 hx
    have := hv.ok.addr y hy
    omega
  obtain ⟨kv, hm, hcm⟩ := hv.cmap
  have HM := Lib.hid (And.intro hm hcm)
  have HIn := Lib.hid hints
  clear hv hints hm hcm
  go_enter Tryz.func113, Tryz.ntmps113
  go_wp2_with fail
  go_loopw [3, 4, 12] (fun u x i wr => ∃ k : Nat, k ≤ (addrs s).length ∧ i = .int .i64 k ∧ Hid (wr.ownsRow w.heap.size 3 1 u (bkI (goneC s) (addrs s) k).length ((bkI (goneC s) (addrs s) k).map (Value.int .i64)) ∧ wr.ownsRow w.heap.size 3 1 x (bkI (fun a => !goneC s a) (addrs s) k).length ((bkI (fun a => !goneC s a) (addrs s) k).map (Value.int .i64)) ∧ Grow w wr ∧ ∀ j, u.ownBlock = some j → ¬ x.ownBlock = some j)) (fun _ _ i _ => (addrs s).length - (intOf i).toNat)
  case atStart => exact ⟨0, by omega, rfl, World.ownsRow_nil _ _ _ _, World.ownsRow_nil _ _ _ _, Grow.refl _, fun j hj => by simp [Value.ownBlock] at hj⟩
  case round =>
    obtain ⟨k, hk, rfl, HO⟩ := hrel
    by_cases hlt : k < (addrs s).length
    · obtain ⟨x, hx⟩ : ∃ x, (addrs s)[k]? = some x := ⟨(addrs s)[k], by simp [hlt]⟩
      obtain ⟨bA, offA, hAe, hca⟩ := HIn.out.resolve_left (by intro e; rw [e] at hlt; simp at hlt)
      subst hAe
      have c0 := HO.out.2.2.1.cell (hca k x hx)
      have hxp := hpos.out x (List.mem_of_getElem? hx)
      have hki : (k : Int) < ((addrs s).length : Int) := by omega
      have hgs := HO.out.2.2.1.size
      have hb1 := bkI_len (goneC s) (addrs s) k
      have hb2 := bkI_len (fun a => !goneC s a) (addrs s) k
      have kb1 := (blk_cell (HO.out.2.2.1.at_ HV.out.blk) 1).trans (rfl : _ = some (Value.map (some M)))
      have hmr := HM.out.1.fr HO.out.2.2.1 (fun h => h)
      have hlook := hmr.lookup Tryz.underlying124 Tryz.underlying3 (zero3x wr) x false
      simp only [Bool.false_eq_true, if_false] at hlook
      rw [CMapP.get HM.out.2 hxp] at hlook
      have h1 := bkI_succ (p := goneC s) hx
      have h2 := bkI_succ (p := fun a => !goneC s a) hx
      have hgo : goneC s x = decide (cnH s.holds x = 0) := rfl
      generalize cnH s.holds x = n at hlook hgo
      clear hx hca hmr
      by_cases hn : n = 0
      · subst hn
        have hgo2 : goneC s x = true := by rw [hgo]; rfl
        rw [hgo2] at h1
        simp only [hgo2, Bool.not_true, Bool.false_eq_true, if_false, if_true] at h1 h2
        have HN := Lib.hid (And.intro h1 h2)
        clear h1 h2 hgo hgo2
        generalize bkI (goneC s) (addrs s) k = B at HO HN hb1
        generalize bkI (fun a => !goneC s a) (addrs s) k = L at HO HN hb2
        go_wp2_with (at_builtin; refine wpList_append_own_at _ rfl (.tmp 23) (.tmp 25) 34 rfl w.heap.size 3 i0 (.int .i64 0) 1 8 Tryz.underlying34 HI.out.1 HI.out.2.1 HI.out.2.2.1 HI.out.2.2.2 rfl (by decide) _ _ _ rfl (HO.out.1.alloc _) ⟨wr.heap.size, 0, none⟩ 1 1 [.int .i64 x] rfl rfl (cell_one_new _ _ _) (by simp [Value.oneCell']) (by unfold maxLen; omega) (by omega) (by simp; omega) ?_)
        intro v' w3 hown hgrow _ hat
        have H7 : Hid (w3.ownsRow w.heap.size 3 1 v' (B ++ [x]).length ((B ++ [x]).map (Value.int .i64)) ∧ w3.ownsRow w.heap.size 3 1 u4 L.length (L.map (Value.int .i64)) ∧ Grow w w3 ∧ ∀ j, v'.ownBlock = some j → ¬ u4.ownBlock = some j) := by
          refine ⟨by simpa using hown, owns_fr (owns_grow HO.out.2.1 ((Grow.refl _).alloc _)) (fr_grown hgrow) (fun j hj e => HO.out.2.2.2 j e hj), (HO.out.2.2.1.alloc _).grown hgrow (fun j e => (HO.out.1.lt j e).1), fun j hj e => ?_⟩
          rcases hat with h | h
          · exact HO.out.2.2.2 j (h ▸ hj) e
          · rw [h] at hj
            have := (HO.out.2.1.lt j e).2
            simp at hj
            omega
        clear hown hgrow hat
        go_wp2_with fail
        go_roundw
        case rel => exact ⟨k + 1, by omega, by go_num, by rw [HN.out.1, HN.out.2]; exact H7.out⟩
        case measure => simp [intOf] <;> omega
      · have hn2 : ¬ (n : Int) = 0 := by omega
        have hgo2 : goneC s x = false := by rw [hgo]; exact decide_eq_false hn
        rw [hgo2] at h1
        simp only [hgo2, Bool.not_false, Bool.false_eq_true, if_false, if_true] at h1 h2
        have HN := Lib.hid (And.intro h1 h2)
        clear h1 h2 hgo hgo2
        generalize bkI (goneC s) (addrs s) k = B at HO HN hb1
        generalize bkI (fun a => !goneC s a) (addrs s) k = L at HO HN hb2
        go_wp2_with (at_builtin; refine wpList_append_own_at _ rfl (.tmp 27) (.tmp 29) 34 rfl w.heap.size 3 i0 (.int .i64 0) 1 8 Tryz.underlying34 HI.out.1 HI.out.2.1 HI.out.2.2.1 HI.out.2.2.2 rfl (by decide) _ _ _ rfl (HO.out.2.1.alloc _) ⟨wr.heap.size, 0, none⟩ 1 1 [.int .i64 x] rfl rfl (cell_one_new _ _ _) (by simp [Value.oneCell']) (by unfold maxLen; omega) (by omega) (by simp; omega) ?_)
        intro v' w3 hown hgrow _ hat
        have H7 : Hid (w3.ownsRow w.heap.size 3 1 u3 B.length (B.map (Value.int .i64)) ∧ w3.ownsRow w.heap.size 3 1 v' (L ++ [x]).length ((L ++ [x]).map (Value.int .i64)) ∧ Grow w w3 ∧ ∀ j, u3.ownBlock = some j → ¬ v'.ownBlock = some j) := by
          refine ⟨owns_fr (owns_grow HO.out.1 ((Grow.refl _).alloc _)) (fr_grown hgrow) (fun j hj e => HO.out.2.2.2 j hj e), by simpa using hown, (HO.out.2.2.1.alloc _).grown hgrow (fun j e => (HO.out.2.1.lt j e).1), fun j hj e => ?_⟩
          rcases hat with h | h
          · exact HO.out.2.2.2 j hj (h ▸ e)
          · rw [h] at e
            have := (HO.out.1.lt j hj).2
            simp at e
            omega
        clear hown hgrow hat
        go_wp2_with fail
        go_roundw
        case rel => exact ⟨k + 1, by omega, by go_num, by rw [HN.out.1, HN.out.2]; exact H7.out⟩
        case measure => simp [intOf] <;> omega
    · obtain rfl : k = (addrs s).length := by omega
      have hki : ¬ ((addrs s).length : Int) < ((addrs s).length : Int) := by omega
      have kb := HO.out.2.2.1.at_ HV.out.blk
      have k2' := (blk_cell kb 2).trans (rfl : _ = some (Value.slice A (addrs s).length cap))
      have f2' := blk_free kb 2
      obtain ⟨A4, m4, p4, hu4⟩ := own_sl HO.out.2.1
      subst hu4
      have HF : Hid (OpL (CM b) w F (sweepS s fun _ => true) (.returned u3) (wr.setCell ⟨b, 2, none⟩ (.slice A4 m4 p4))) := by
        obtain ⟨hbe, hie⟩ := sweepC (s := s) HV.out.kind
        have hfb : Fr (· = b) wr (wr.setCell ⟨b, 2, none⟩ (.slice A4 m4 p4)) := (Fr.refl _ _).setCell _ _ (.inr rfl)
        have hHl : H < w.heap.size := by obtain ⟨c, hc⟩ := HV.out.hblk; exact blk_lt hc
        have hMl : M < w.heap.size := HM.out.1.lt
        refine ⟨u3, fun k => k = b ∨ k = H ∨ k = M ∨ (Value.slice A4 m4 p4).ownBlock = some k, rfl, ?_, ⟨H, M, .slice A4 m4 p4, HV.out.kind, HV.out.ok.sweep _, blk_set kb 2 _, ?_, ?_, ?_, fun k => Iff.rfl⟩, ?_, ?_⟩
        · rw [hbe]
          exact owns_fr HO.out.1 hfb (fun j hj e => by have := (HO.out.1.lt j hj).1; omega)
        · exact owns_fr (owns_grow HV.out.hrow HO.out.2.2.1) hfb (fun j hj e => HV.out.neH (by
            have : H = j := by simpa [Value.ownBlock] using hj
            rw [this, e]))
        · exact ⟨kv, (HM.out.1.fr HO.out.2.2.1 (fun h => h)).fr hfb (fun e => HV.out.neM e), HM.out.2⟩
        · rw [hie]
          exact own_base_le (owns_fr HO.out.2.1 hfb (fun j hj e => by have := (HO.out.2.1.lt j hj).1; omega)) (Nat.zero_le _)
        · refine Step.mono HO.out.2.2.1 ((Fr.refl F _).setCell _ _ (.inr ((HV.out.fp b).2 (.inl rfl)))) (fun k hk => ?_)
          rcases hk with e | e | e | e
          · exact .inl ((HV.out.fp k).2 (.inl e))
          · exact .inl ((HV.out.fp k).2 (.inr (.inl e)))
          · exact .inl ((HV.out.fp k).2 (.inr (.inr (.inl e))))
          · exact .inr (HO.out.2.1.lt k e).1
        · intro k hk hf
          have h1 := (HO.out.1.lt k hk).1
          rcases hf with e | e | e | e
          · omega
          · omega
          · omega
          · exact HO.out.2.2.2 k hk e
      clear kb
      go_wp2_with fail
      exact HR.out _ _ HF.out
end Go.Proofs.YtcgcljmnnjalpaaGreat
