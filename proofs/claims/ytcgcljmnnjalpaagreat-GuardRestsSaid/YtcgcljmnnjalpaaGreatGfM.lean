/- The hazard manager: scan. -/
import Derived.Test.YtcgcljmnnjalpaaGreatGfL
import Derived.Deep.RegionHeld3
set_option linter.unusedVariables false
set_option linter.unusedSimpArgs false
namespace Go.Proofs.YtcgcljmnnjalpaaGreat
open Go.RowKit Go.Kx
open Go.ChangeMaps (setBlock)
theorem goes_free {s : RS} (hk : s.kind = 1) (hok : Ok s) (t : Int) {x : Itm} (hx : x ∈ s.items) : (x.thr == t && freeB s x) = goesZ s t (x.thr, x.addr) := by
  unfold freeB goesZ
  rw [if_pos (.inl hk), heldR_eq hok (hok.addr x hx)]
  congr 1
theorem sweepZ {s : RS} (hk : s.kind = 1) (hok : Ok s) (t : Int) : (sweepS s fun x => x.thr == t).back = bkJ (goesZ s t) (·.2) (hzl s) (hzl s).length ∧ hzl (sweepS s fun x => x.thr == t).st = keepA (goesZ s t) (hzl s) := by
  have e1 : (s.items.filter fun x => x.thr == t && freeB s x) = s.items.filter fun x => goesZ s t (x.thr, x.addr) := List.filter_congr fun x hx => goes_free hk hok t hx
  have e2 : (s.items.filter fun x => !(x.thr == t && freeB s x)) = s.items.filter fun x => !goesZ s t (x.thr, x.addr) := List.filter_congr fun x hx => by rw [goes_free hk hok t hx]
  unfold bkJ keepA
  rw [List.take_length]
  unfold sweepS hzl
  dsimp only
  rw [e1, e2]
  constructor
  · rw [List.filter_map, List.map_map]; rfl
  · rw [List.filter_map]; rfl
set_option maxRecDepth 100000 in
set_option maxHeartbeats 8000000 in
theorem hzScan {b : Nat} {w : World} {F : FP} {s : RS} (h : HZ b w F s) (hs : s.items.length ≤ 200000) (t : Int) : Calls Tryz.prog 104 #[.pointer (some ⟨b, 0, none⟩), .int .i64 t] w (OpL (HZ b) w F (sweepS s fun x => x.thr == t)) := by
  refine cph fun R HR => ?_
  obtain ⟨H, v, hv⟩ := h
  have HV := Lib.hid hv
  have hbl := blk_lt hv.blk
  have hHl : H < w.heap.size := hv.lt H ((hv.fp H).2 (.inr (.inl rfl)))
  have hGlt : ∀ k, v.ownBlock = some k → k < w.heap.size := fun k hk => (hv.row.lt k hk).2
  -- the boxes
  have hga := (Grow.refl w).alloc (Obj.cells #[.pointer (some ⟨b, 0, none⟩)] 91)
  have hna := blk_new w (Obj.cells #[.pointer (some ⟨b, 0, none⟩)] 91)
  have hsa := size_alloc w (Obj.cells #[.pointer (some ⟨b, 0, none⟩)] 91)
  obtain ⟨wa, hwa⟩ : ∃ wa, w.alloc (Obj.cells #[.pointer (some ⟨b, 0, none⟩)] 91) = wa := ⟨_, rfl⟩
  rw [hwa] at hga hna hsa
  have hgb := (Grow.refl wa).alloc (Obj.cells #[.int .i64 t] 3)
  have hnb := blk_new wa (Obj.cells #[.int .i64 t] 3)
  have hsb := size_alloc wa (Obj.cells #[.int .i64 t] 3)
  obtain ⟨wb, hwb⟩ : ∃ wb, wa.alloc (Obj.cells #[.int .i64 t] 3) = wb := ⟨_, rfl⟩
  rw [hwb] at hgb hnb hsb
  rw [hsa] at hnb hsb
  have hgc := (Grow.refl wb).alloc (Obj.cells #[.slice none 0 0] 34)
  have hnc := blk_new wb (Obj.cells #[.slice none 0 0] 34)
  have hsc := size_alloc wb (Obj.cells #[.slice none 0 0] 34)
  obtain ⟨wc, hwc⟩ : ∃ wc, wb.alloc (Obj.cells #[.slice none 0 0] 34) = wc := ⟨_, rfl⟩
  rw [hwc] at hgc hnc hsc
  rw [hsb] at hnc hsc
  have hgd := (Grow.refl wc).alloc (Obj.cells #[.nilFunc] 137)
  have hnd := blk_new wc (Obj.cells #[.nilFunc] 137)
  have hsd := size_alloc wc (Obj.cells #[.nilFunc] 137)
  obtain ⟨wd, hwd⟩ : ∃ wd, wc.alloc (Obj.cells #[.nilFunc] 137) = wd := ⟨_, rfl⟩
  rw [hwd] at hgd hnd hsd
  rw [hsc] at hnd hsd
  have kN := (blk_cell hnd 0).trans (rfl : _ = some Value.nilFunc)
  have fN := blk_free hnd 0
  obtain ⟨w2, hw2⟩ : ∃ w2, wd.setCell ⟨w.heap.size + 1 + 1 + 1, 0, none⟩ (.func (.func 130) #[] #[.pointer (some ⟨w.heap.size, 0, none⟩)]) = w2 := ⟨_, rfl⟩
  have hst : (store ⟨w.heap.size + 1 + 1 + 1, 0, none⟩ (.func (.func 130) #[] #[.pointer (some ⟨w.heap.size, 0, none⟩)])).run Tryz.prog wd = .ok () w2 := by
    rw [run_store _ _ _ _ _ rfl, ← hw2]
    simp [stored, kN, fN]
  have hf2 : Fr (· = w.heap.size + 1 + 1 + 1) wd w2 := by rw [← hw2]; exact (Fr.refl _ _).setCell _ _ (.inr rfl)
  have hb2 := blk_set hnd 0 (.func (.func 130) #[] #[.pointer (some ⟨w.heap.size, 0, none⟩)])
  rw [hw2] at hb2
  have hs2 : w2.heap.size = w.heap.size + 1 + 1 + 1 + 1 := by rw [← hsd, ← hw2]; exact size_set _ _ _
  have hgw : Grow w wd := ((hga.trans hgb).trans hgc).trans hgd
  have kB := (blk_cell (hf2.at_ (((hgb.trans hgc).trans hgd).at_ hna) (by omega)) 0).trans (rfl : _ = some (Value.pointer (some ⟨b, 0, none⟩)))
  have kT := (blk_cell (hf2.at_ ((hgc.trans hgd).at_ hnb) (by omega)) 0).trans (rfl : _ = some (Value.int .i64 t))
  have hk2 := hf2.at_ (hgd.at_ hnc) (by omega)
  have kH := (blk_cell hb2 0).trans (rfl : _ = some (Value.func (.func 130) #[] #[.pointer (some ⟨w.heap.size, 0, none⟩)]))
  have hbb := hf2.at_ (hgw.at_ hv.blk) (by omega)
  have m0 := (blk_cell hbb 0).trans (rfl : _ = some (Value.slice (some ⟨H, 0, none⟩) s.n s.n))
  have m1 := (blk_cell hbb 1).trans (rfl : _ = some v)
  have hrow2 : w2.ownsRow 0 140 2 v (hzl s).length ((hzl s).flatMap enc2) := by
    rw [hzl_len]
    exact owns_fr (owns_grow hv.row hgw) hf2 (fun j hj e => by have := hGlt j hj; omega)
  have hro2 := owns_fr (owns_grow hv.hrow hgw) hf2 (fun j hj e => by rw [hv.tH hj] at e; omega)
  have hpj := hzScan2 (w0 := w2.drew) (b := b) (B := w.heap.size) (H := H) (Tb := w.heap.size + 1) (Hd := w.heap.size + 1 + 1 + 1) (Bk := w.heap.size + 1 + 1) (s := s) (t := t) (G := fun k => v.ownBlock = some k) (l := hzl s) (fun k hk => by have := hGlt k hk; show k < w2.heap.size; omega) (fun hk => by have := hGlt _ hk; omega) (by show _ < w2.heap.size; omega)
    ⟨fun hk => by have := hGlt _ hk; omega, by omega⟩ ⟨fun hk => (hv.nev b hk).1 rfl, by omega⟩ ⟨fun hk => by have := hGlt _ hk; omega, by omega⟩ ⟨fun hk => by have := hGlt _ hk; omega, by omega⟩ ⟨fun hk => (hv.nev H hk).2 rfl, by omega⟩ kB m0 kT kH (owns_grow hro2 (Fr.refl _ _).drew) hv.ok.n4 (by rw [hzl_len]; exact hs)
  have hj0 : TJ w2.drew (w.heap.size + 1 + 1) (fun k => v.ownBlock = some k) (goesZ s t) (·.2) (hzl s) 0 w2.drew := ⟨.slice none 0 0, hk2, World.ownsRow_nil _ _ _ _, Fr.refl _ _⟩
  have hdel := delete_Z (base := 0) (w := w2.drew) (v := v) (l := hzl s) (owns_grow hrow2 (Fr.refl _ _).drew) hpj hj0 (fun n W W' hj hf => TJ.fr (fun k hk => by have := hGlt k hk; show k < w2.heap.size; omega) (fun hk => by have := hGlt _ hk; omega) hj hf) eg134 (by rw [hzl_len]; exact hs)
  have HD := Lib.hid hdel
  have H3 := Lib.hid (And.intro hbb (And.intro hgw (And.intro hf2 hGlt)))
  obtain ⟨A, m, c, hvs⟩ := own_sl hv.row
  subst hvs
  clear hv hga hna hgb hnb hgc hnc hgd hnd hf2 hb2 hgw hk2 hbb hrow2 hro2 hpj hj0 hdel hGlt
  go_enter Tryz.func104, Tryz.ntmps104
  go_upto_region 3 with fail
  refine wp_region_held_drew (S := fun w' => w'.cell? ⟨w.heap.size, 0, none⟩ = some (.pointer (some ⟨b, 0, none⟩))) (by kernel_rfl) ?_ (fun hHeld => ?_)
  · exact kB
  refine wpAnyH_take (i := 0) (v := ?v0) rfl (by kernel_rfl) (by kernel_rfl) (by kernel_rfl) (fun _ _ _ h => h) (Or.inl ⟨by rfl, ?y0⟩) hHeld ?_
  case y0 => intro w hSw; (try dsimp only at hSw); go_simp; (try with_reducible rfl)
  try simp only [Act.put, List.setIfInBounds_toArray, List.set_cons_zero, List.set_cons_succ]
  refine wpAnyH_take (i := 1) (v := ?v1) rfl (by kernel_rfl) (by kernel_rfl) (by kernel_rfl) (fun _ _ _ h => h) (Or.inl ⟨by rfl, ?y1⟩) hHeld ?_
  case y1 => intro w hSw; (try dsimp only at hSw); go_simp; (try with_reducible rfl)
  try simp only [Act.put, List.setIfInBounds_toArray, List.set_cons_zero, List.set_cons_succ]
  refine wpAnyH_take (i := 2) (v := ?v2) rfl (by kernel_rfl) (by kernel_rfl) (by kernel_rfl) (fun _ _ _ h => h) (Or.inl ⟨by rfl, ?y2⟩) hHeld ?_
  case y2 => intro w hSw; (try dsimp only at hSw); go_simp; (try with_reducible rfl)
  try simp only [Act.put, List.setIfInBounds_toArray, List.set_cons_zero, List.set_cons_succ]
  refine wpAnyH_take (i := 3) (v := ?v3) rfl (by kernel_rfl) (by kernel_rfl) (by kernel_rfl) (fun _ _ _ h => h) (Or.inl ⟨by rfl, ?y3⟩) hHeld ?_
  case y3 => intro w hSw; (try dsimp only at hSw); go_simp; (try with_reducible rfl)
  try simp only [Act.put, List.setIfInBounds_toArray, List.set_cons_zero, List.set_cons_succ]
  refine wpAnyH_take (i := 5) (v := ?v5) rfl (by kernel_rfl) (by kernel_rfl) (by kernel_rfl) (fun _ _ _ h => h) (Or.inl ⟨by rfl, ?y5⟩) hHeld ?_
  case y5 => intro w hSw; (try dsimp only at hSw); go_simp; (try with_reducible rfl)
  try simp only [Act.put, List.setIfInBounds_toArray, List.set_cons_zero, List.set_cons_succ]
  refine wpAnyH_ready (rs := [4]) (by kernel_rfl) (by simp) ?_
  refine AllReadyH.cons rfl (fun K hK => ?_) AllReadyH.nil
  go_simp
  refine hK.out _ _ ?_ (fun hHeld => ?_)
  · exact kB
  clear hK K
  try simp only [Act.put, List.setIfInBounds_toArray, List.set_cons_zero, List.set_cons_succ]
  refine wpAnyH_ready (rs := [6]) (by kernel_rfl) (by simp) ?_
  refine AllReadyH.cons rfl (fun K hK => ?_) AllReadyH.nil
  go_simp
  go_at_call 133
  refine HD.out.mono ?_; rintro e W5 ⟨v5, rfl, hown, ⟨u5, t1, t2, t3⟩, hsub⟩; have hb5 : W5.heap[b]? = some (.cells #[.slice (some ⟨H, 0, none⟩) s.n s.n, .slice A m c] 119 (0, 0)) := t3.at_ (a := w2.drew) H3.out.1 (fun e => e.elim (fun e => by omega) (fun e => (HV.out.nev b e).1 rfl)); have qB : W5.cell? ⟨w.heap.size, 0, none⟩ = some (.pointer (some ⟨b, 0, none⟩)) := (World.cell?_of_block (w := w2.drew) (t3.blk w.heap.size (by show _ < w2.heap.size; omega) (fun e => e.elim (fun e => by omega) (fun e => by have := H3.out.2.2.2 _ e; omega)))).trans kB; have q2 := (blk_cell hb5 1).trans (rfl : _ = some (Value.slice A m c)); have qf2 := blk_free hb5 1; obtain ⟨A5, m5, c5, hv5⟩ := own_sl hown; subst hv5; have qk := (blk_cell (w := W5.setCell ⟨b, 1, none⟩ (.slice A5 m5 c5)) ((blk_set_other (a := ⟨b, 1, none⟩) (by show w.heap.size + 1 + 1 ≠ b; omega) _).trans t1) 0).trans (rfl : _ = some u5); have H5 := Lib.hid (And.intro hown (And.intro t2 (And.intro t3 (And.intro hsub hb5)))); clear hown t1 t2 t3 hsub hb5
  try go_wp2_with fail
  refine hK.out _ _ ?_ (fun hHeld => ?_)
  · exact qB
  clear hK K
  try simp only [Act.put, List.setIfInBounds_toArray, List.set_cons_zero, List.set_cons_succ]
  refine wpAnyH_take (i := 7) (v := ?v7) rfl (by kernel_rfl) (by kernel_rfl) (by kernel_rfl) (fun _ _ _ h => h) (Or.inl ⟨by rfl, ?y7⟩) hHeld ?_
  case y7 => intro w hSw; (try dsimp only at hSw); go_simp; (try with_reducible rfl)
  try simp only [Act.put, List.setIfInBounds_toArray, List.set_cons_zero, List.set_cons_succ]
  refine wpAnyH_take (i := 8) (v := ?v8) rfl (by kernel_rfl) (by kernel_rfl) (by kernel_rfl) (fun _ _ _ h => h) (Or.inl ⟨by rfl, ?y8⟩) hHeld ?_
  case y8 => intro w hSw; (try dsimp only at hSw); go_simp; (try with_reducible rfl)
  try simp only [Act.put, List.setIfInBounds_toArray, List.set_cons_zero, List.set_cons_succ]
  refine wpAnyH_ready (rs := [9]) (by kernel_rfl) (by simp) ?_
  refine AllReadyH.cons rfl (fun K hK => ?_) AllReadyH.nil
  go_simp
  refine hK.out _ _ ?_ (fun hHeld => ?_)
  · rw [World.cell?_setCell_other _ _ _ _ (by intro e; injection e; omega)]; assumption
  clear hK K
  try simp only [Act.put, List.setIfInBounds_toArray, List.set_cons_zero, List.set_cons_succ]
  refine wpAnyH_done (by kernel_rfl) ?_ _
  go_wp2_with fail
  obtain ⟨e1, e2⟩ := sweepZ HV.out.kind HV.out.ok t
  have hfb : Fr (· = b) W5 (W5.setCell ⟨b, 1, none⟩ (.slice A5 m5 c5)) := (Fr.refl _ _).setCell _ _ (.inr rfl)
  have hfr : Fr (fun k => k = b ∨ (Value.slice A m c).ownBlock = some k) w W5 := by
    have h1 : Fr (fun k => k = b ∨ (Value.slice A m c).ownBlock = some k) w w2.drew := Fr.drew (Fr.then (H3.out.2.1.mono fun i _ h => h.elim) H3.out.2.2.1 (fun i hi (h : i = _) => by omega))
    refine h1.then H5.out.2.2.1 (fun i hi h => h.elim (fun e => by omega) .inr)
  refine HR.out _ _ ⟨u5, fun k => k = b ∨ k = H ∨ (Value.slice A5 m5 c5).ownBlock = some k, rfl, ?_, ⟨H, .slice A5 m5 c5, HV.out.kind, Ok.sweep HV.out.ok _, blk_set H5.out.2.2.2.2 1 _, ?_, ?_, fun k => Iff.rfl⟩, ?_, ?_⟩
  · rw [e1]
    exact own_base_le (owns_fr H5.out.2.1 hfb (fun j hj e => by have := (H5.out.2.1.lt j hj).1; have : w2.drew.heap.size = w2.heap.size := rfl; omega)) (by show w.heap.size ≤ w2.heap.size; omega)
  · exact owns_fr (owns_fr HV.out.hrow hfr (fun j hj e => by
      rw [HV.out.tH hj] at e
      exact e.elim HV.out.neH (fun e => (HV.out.nev H e).2 rfl))) hfb (fun j hj e => by rw [HV.out.tH hj] at e; exact HV.out.neH e)
  · rw [← hzl_len, e2]
    exact owns_fr H5.out.1 hfb (fun j hj e => (HV.out.nev j (H5.out.2.2.2.1 j hj)).1 e)
  · refine ⟨(hfr.mono fun i _ h => (HV.out.fp i).2 (h.elim .inl (fun e => .inr (.inr e)))).trans (hfb.mono fun i _ e => (HV.out.fp i).2 (.inl e)), fun k hk => .inl ((HV.out.fp k).2 ?_)⟩
    rcases hk with e | e | e
    · exact .inl e
    · exact .inr (.inl e)
    · exact .inr (.inr (H5.out.2.2.2.1 k e))
  · intro k hk hf
    have h1 := (H5.out.2.1.lt k hk).1
    have h2 : w2.drew.heap.size = w2.heap.size := rfl
    rcases hf with e | e | e
    · omega
    · omega
    · have := H3.out.2.2.2 k (H5.out.2.2.2.1 k e); omega
end Go.Proofs.YtcgcljmnnjalpaaGreat
