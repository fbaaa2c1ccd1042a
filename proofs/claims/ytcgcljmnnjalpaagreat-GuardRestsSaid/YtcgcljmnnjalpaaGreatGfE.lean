/- The epoch manager, in every state: try. -/
import Derived.Test.YtcgcljmnnjalpaaGreatGfD
import Derived.Deep.RegionHeld3
set_option linter.unusedVariables false
set_option linter.unusedSimpArgs false
namespace Go.Proofs.YtcgcljmnnjalpaaGreat
open Go.RowKit Go.Kx
open Go.ChangeMaps (setBlock)
theorem freeE {s : RS} (h : s.kind = 2) (x : Itm) : freeB s x = oldE s.now (x.addr, x.at_) := by
  unfold freeB oldE
  rw [if_neg (by omega), if_pos h]
theorem sweepE {s : RS} (h : s.kind = 2) : (sweepS s fun _ => true).back = bkJ (oldE s.now) (·.1) (epl s) (epl s).length ∧ epl (sweepS s fun _ => true).st = keepA (oldE s.now) (epl s) := by
  have e : ∀ x : Itm, (true && freeB s x) = oldE s.now (x.addr, x.at_) := fun x => by rw [Bool.true_and, freeE h]
  unfold bkJ keepA
  rw [List.take_length]
  unfold sweepS epl
  simp only [e]
  constructor
  · rw [List.filter_map, List.map_map]; rfl
  · rw [List.filter_map]; rfl
theorem behind_any {s : RS} (hok : Ok s) (h0 : ∀ t, s.ins t = true → 0 ≤ s.lo t) : (thr s).any (behI s.now) = behindB s := by
  rw [Bool.eq_iff_iff, List.any_eq_true]
  unfold behindB
  rw [List.any_eq_true]
  constructor
  · rintro ⟨x, hx, hp⟩
    obtain ⟨t, ht, rfl⟩ := List.mem_map.1 hx
    have ht' := List.mem_range.1 ht
    have := hok.n4
    refine ⟨t, List.mem_range.2 (by omega), ?_⟩
    unfold behI at hp
    cases hi : s.ins t
    · rw [hi] at hp; simp at hp
    · rw [hi] at hp
      simp at hp
      simp [hp.2]
  · rintro ⟨t, ht, hp⟩
    cases hi : s.ins t
    · rw [hi] at hp; simp at hp
    · rw [hi] at hp
      have hn : t < s.n := by
        rcases Nat.lt_or_ge t s.n with h | h
        · exact h
        · have := hok.ins t h; rw [hi] at this; cases this
      refine ⟨s.lo t, List.mem_map.2 ⟨t, List.mem_range.2 hn, by rw [hi]; rfl⟩, ?_⟩
      have := h0 t hi
      unfold behI
      simp at hp
      simp [hp]
      omega
set_option maxRecDepth 100000 in
set_option maxHeartbeats 8000000 in
theorem epTry {b : Nat} {w : World} {F : FP} {s : RS} (h : EM b w F s) (hs : s.items.length ≤ 200000) (hn : s.now ≤ 1500000) : Calls Tryz.prog 107 #[.pointer (some ⟨b, 0, none⟩)] w (OpL (EM b) w F (tryS s)) := by
  refine cph fun R HR => ?_
  have HQ := Lib.hid h
  obtain ⟨T, v, hv⟩ := h
  have HV := Lib.hid hv
  have h0 := hv.ok.now0
  have hbl := blk_lt hv.blk
  -- the box of m
  have hg1 := (Grow.refl w).alloc (Obj.cells #[.pointer (some ⟨b, 0, none⟩)] 94)
  have hn1 := blk_new w (Obj.cells #[.pointer (some ⟨b, 0, none⟩)] 94)
  have hs1 := size_alloc w (Obj.cells #[.pointer (some ⟨b, 0, none⟩)] 94)
  obtain ⟨w1, hw1⟩ : ∃ w1, w.alloc (Obj.cells #[.pointer (some ⟨b, 0, none⟩)] 94) = w1 := ⟨_, rfl⟩
  rw [hw1] at hg1 hn1 hs1
  have hb1 := hg1.at_ hv.blk
  have kB := (blk_cell hn1 0).trans (rfl : _ = some (Value.pointer (some ⟨b, 0, none⟩)))
  have k0 := (blk_cell hb1 0).trans (rfl : _ = some (Value.int .i64 s.now))
  have k1 := (blk_cell hb1 1).trans (rfl : _ = some (Value.slice (some ⟨T, 0, none⟩) s.n s.n))
  have k2 := (blk_cell hb1 2).trans (rfl : _ = some v)
  have f0 := blk_free hb1 0
  obtain ⟨A0, c0, hve, hints, _, _⟩ := ints_of_own hv.trow
  have hA0 : A0 = some ⟨T, 0, none⟩ ∧ c0 = s.n := by
    rw [thr_len] at hve
    injection hve with e1 e2 e3
    exact ⟨e1.symm, e3.symm⟩
  obtain ⟨rfl, rfl⟩ := hA0
  have hcf := containsF_any (cap := s.n) (hints.grow hg1) (epTry1 (now := 0) (l := thr s) kB k0) eg136 (by rw [thr_len]; have := hv.ok.n4; omega)
  rw [behind_any hv.ok hv.lo0, thr_len] at hcf
  have HC := Lib.hid hcf
  have H1 := Lib.hid (And.intro hg1 (And.intro hn1 (And.intro hs1 hb1)))
  cases hbe : behindB s
  · rw [hbe] at HC
    have e2 : tryS s = sweepS { s with now := s.now + 1 } (fun _ => true) := by unfold tryS; rw [hbe]; rfl
    rw [e2] at HR
    -- the world at the region of the call
    have hb2 := blk_set hb1 0 (.int .i64 (s.now + 1))
    have hf2 : Fr (· = b) w1 (w1.setCell ⟨b, 0, none⟩ (.int .i64 (s.now + 1))) := (Fr.refl _ _).setCell _ _ (.inr rfl)
    obtain ⟨w2, hw2⟩ : ∃ w2, w1.setCell ⟨b, 0, none⟩ (.int .i64 (s.now + 1)) = w2 := ⟨_, rfl⟩
    rw [hw2] at hb2 hf2
    have hs2 : w2.heap.size = w.heap.size + 1 := by rw [← hw2, ← hs1]; exact size_set _ _ _
    have hn3 := blk_new w2 (Obj.cells #[.slice none 0 0] 34)
    have hg3 := (Grow.refl w2).alloc (Obj.cells #[.slice none 0 0] 34)
    have hs3 := size_alloc w2 (Obj.cells #[.slice none 0 0] 34)
    rw [hs2] at hn3 hs3
    obtain ⟨w3, hw3⟩ : ∃ w3, w2.alloc (Obj.cells #[.slice none 0 0] 34) = w3 := ⟨_, rfl⟩
    rw [hw3] at hn3 hg3 hs3
    have hb3 := hg3.at_ hb2
    have kB3 := hg3.cell ((blk_cell (hf2.at_ hn1 (by omega)) 0).trans (rfl : _ = some (Value.pointer (some ⟨b, 0, none⟩))))
    have m0 := (blk_cell hb3 0).trans (rfl : _ = some (Value.int .i64 (s.now + 1)))
    have m2 := (blk_cell hb3 2).trans (rfl : _ = some v)
    have g2 := blk_free hb3 2
    have hrow3 : w3.ownsRow 0 144 2 v (epl s).length ((epl s).flatMap enc2) := by
      rw [epl_len]
      exact owns_grow (owns_fr (owns_grow hv.row hg1) hf2 (fun j hj e => (hv.nev j hj).1 e)) hg3
    have hGlt : ∀ k, v.ownBlock = some k → k < w.heap.size := fun k hk => (hv.row.lt k hk).2
    have hpj := epTry2 (w0 := w3.drew) (b := b) (B := w.heap.size) (Bk := w.heap.size + 1) (now := s.now + 1) (G := fun k => v.ownBlock = some k) (l := epl s) (fun k hk => by have := hGlt k hk; show k < w3.heap.size; omega) (fun hk => by have := hGlt _ hk; omega) (by show _ < w3.heap.size; omega) ⟨fun hk => by have := hGlt _ hk; omega, by omega⟩ ⟨fun hk => (hv.nev b hk).1 rfl, by omega⟩ kB3 m0 ⟨by omega, by omega⟩ (by rw [epl_len]; exact hs)
    have hj0 : TJ w3.drew (w.heap.size + 1) (fun k => v.ownBlock = some k) (oldE (s.now + 1)) (·.1) (epl s) 0 w3.drew := ⟨.slice none 0 0, hn3, World.ownsRow_nil _ _ _ _, Fr.refl _ _⟩
    have hdel := delete_E (base := 0) (w := w3.drew) (v := v) (l := epl s) (owns_grow hrow3 (Fr.refl _ _).drew) hpj hj0 (fun n W W' hj hf => TJ.fr (fun k hk => by have := hGlt k hk; show k < w3.heap.size; omega) (fun hk => by have := hGlt _ hk; omega) hj hf) eg139 (by rw [epl_len]; exact hs)
    have HD := Lib.hid hdel
    have H3 := Lib.hid (And.intro hb3 (And.intro hg3 (And.intro hf2 (And.intro hn3 hGlt))))
    obtain ⟨A, m, c, hvs⟩ := own_sl hv.row
    subst hvs
    clear hv e2 hb1 hve hints hcf hbe hb2 hf2 hn3 hg3 hb3 hrow3 hpj hj0 hdel hGlt hn1 hg1
    go_enter Tryz.func107, Tryz.ntmps107
    go_upto_region 6 with (go_at_call 137; refine HC.out.mono ?_; rintro e w' ⟨rfl, rfl⟩)
    refine wp_region_held_drew (S := fun w' => w'.cell? ⟨w.heap.size, 0, none⟩ = some (.pointer (some ⟨b, 0, none⟩))) (by kernel_rfl) ?_ (fun hHeld => ?_)
    · exact kB3
    refine wpAnyH_take (i := 0) (v := ?v0) rfl (by kernel_rfl) (by kernel_rfl) (by kernel_rfl) (fun _ _ _ h => h) (Or.inl ⟨by rfl, ?y0⟩) hHeld ?_
    case y0 => intro w hSw; (try dsimp only at hSw); go_simp; (try with_reducible rfl)
    try simp only [Act.put, List.setIfInBounds_toArray, List.set_cons_zero, List.set_cons_succ]
    refine wpAnyH_take (i := 1) (v := ?v1) rfl (by kernel_rfl) (by kernel_rfl) (by kernel_rfl) (fun _ _ _ h => h) (Or.inl ⟨by rfl, ?y1⟩) hHeld ?_
    case y1 => intro w hSw; (try dsimp only at hSw); go_simp; (try with_reducible rfl)
    try simp only [Act.put, List.setIfInBounds_toArray, List.set_cons_zero, List.set_cons_succ]
    refine wpAnyH_take (i := 2) (v := ?v2) rfl (by kernel_rfl) (by kernel_rfl) (by kernel_rfl) (fun _ _ _ h => h) (Or.inl ⟨by rfl, ?y2⟩) hHeld ?_
    case y2 => intro w hSw; (try dsimp only at hSw); go_simp; (try with_reducible rfl)
    try simp only [Act.put, List.setIfInBounds_toArray, List.set_cons_zero, List.set_cons_succ]
    refine wpAnyH_take (i := 3) (v := ?v3) rfl (by kernel_rfl) (by kernel_rfl) (by kernel_rfl) (fun _ _ _ h => h) (Or.inl ⟨by rfl, ?y3⟩) hHeld ?_
    case y3 => intro w hSw; (try dsimp only at hSw); go_simp; (try with_reducible rfl)
    try simp only [Act.put, List.setIfInBounds_toArray, List.set_cons_zero, List.set_cons_succ]
    refine wpAnyH_take (i := 5) (v := ?v5) rfl (by kernel_rfl) (by kernel_rfl) (by kernel_rfl) (fun _ _ _ h => h) (Or.inl ⟨by rfl, ?y5⟩) hHeld ?_
    case y5 => intro w hSw; (try dsimp only at hSw); go_simp; (try with_reducible rfl)
    try simp only [Act.put, List.setIfInBounds_toArray, List.set_cons_zero, List.set_cons_succ]
    refine wpAnyH_ready (rs := [4]) (by kernel_rfl) (by simp) ?_
    refine AllReadyH.cons rfl (fun K hK => ?_) AllReadyH.nil
    go_simp
    refine hK.out _ _ ?_ (fun hHeld => ?_)
    · exact kB3
    clear hK K
    try simp only [Act.put, List.setIfInBounds_toArray, List.set_cons_zero, List.set_cons_succ]
    refine wpAnyH_ready (rs := [6]) (by kernel_rfl) (by simp) ?_
    refine AllReadyH.cons rfl (fun K hK => ?_) AllReadyH.nil
    go_simp
    go_at_call 138
    refine HD.out.mono ?_; rintro e W5 ⟨v5, rfl, hown, ⟨u5, t1, t2, t3⟩, hsub⟩; have hb5 : W5.heap[b]? = some (.cells #[.int .i64 (s.now + 1), .slice (some ⟨T, 0, none⟩) s.n s.n, .slice A m c] 123 (0, 0)) := t3.at_ (a := w3.drew) H3.out.1 (fun e => e.elim (fun e => by omega) (fun e => (HV.out.nev b e).1 rfl)); have qB : W5.cell? ⟨w.heap.size, 0, none⟩ = some (.pointer (some ⟨b, 0, none⟩)) := (World.cell?_of_block (w := w3.drew) (t3.blk w.heap.size (by show _ < w3.heap.size; omega) (fun e => e.elim (fun e => by omega) (fun e => by have := H3.out.2.2.2.2 _ e; omega)))).trans kB3; have q2 := (blk_cell hb5 2).trans (rfl : _ = some (Value.slice A m c)); have qf2 := blk_free hb5 2; obtain ⟨A5, m5, c5, hv5⟩ := own_sl hown; subst hv5; have qk := (blk_cell (w := W5.setCell ⟨b, 2, none⟩ (.slice A5 m5 c5)) ((blk_set_other (a := ⟨b, 2, none⟩) (by show w.heap.size + 1 ≠ b; omega) _).trans t1) 0).trans (rfl : _ = some u5); have H5 := Lib.hid (And.intro hown (And.intro t2 (And.intro t3 (And.intro hsub hb5)))); clear hown t1 t2 t3 hsub hb5
    try go_wp2_with fail
    refine hK.out _ _ ?_ (fun hHeld => ?_)
    · exact qB
    clear hK K
    try simp only [Act.put, List.setIfInBounds_toArray, List.set_cons_zero, List.set_cons_succ]
    refine wpAnyH_take (i := 7) (v := ?v7) rfl (by kernel_rfl) (by kernel_rfl) (by kernel_rfl) (fun _ _ _ h => h) (Or.inl ⟨by rfl, ?y7⟩) hHeld ?_
    case y7 => intro w hSw; (try dsimp only at hSw); go_simp; (try with_reducible rfl)
    try simp only [Act.put, List.setIfInBounds_toArray, List.set_cons_zero, List.set_cons_succ]
    refine wpAnyH_take (i := 8) (v := ?v8) rfl (by kernel_rfl) (by kernel_rfl) (by kernel_rfl) (fun _ _ _ h => h) (Or.inl ⟨by rfl, ?y8⟩) hHeld ?_
    case y8 => intro w hSw; (try dsimp only at hSw); go_simp; (try with_reducible rfl)
    try simp only [Act.put, List.setIfInBounds_toArray, List.set_cons_zero, List.set_cons_succ]
    refine wpAnyH_ready (rs := [9]) (by kernel_rfl) (by simp) ?_
    refine AllReadyH.cons rfl (fun K hK => ?_) AllReadyH.nil
    go_simp
    refine hK.out _ _ ?_ (fun hHeld => ?_)
    · rw [World.cell?_setCell_other _ _ _ _ (by intro e; injection e; omega)]; assumption
    clear hK K
    try simp only [Act.put, List.setIfInBounds_toArray, List.set_cons_zero, List.set_cons_succ]
    refine wpAnyH_done (by kernel_rfl) ?_ _
    all_goals
      go_wp2_with fail
      have hst : { s with now := s.now + 1 }.kind = 2 := HV.out.kind
      obtain ⟨e1, e2⟩ := sweepE hst
      have hfb : Fr (· = b) W5 (W5.setCell ⟨b, 2, none⟩ (.slice A5 m5 c5)) := (Fr.refl _ _).setCell _ _ (.inr rfl)
      have hel : epl { s with now := s.now + 1 } = epl s := rfl
      have hfr : Fr (fun k => k = b ∨ (Value.slice A m c).ownBlock = some k) w W5 := by
        have h1 : Fr (fun k => k = b ∨ (Value.slice A m c).ownBlock = some k) w w3.drew := Fr.drew (fr_grow (Fr.then (H1.out.1.mono fun i _ h => h.elim) H3.out.2.2.1 (fun i _ h => .inl h)) H3.out.2.1)
        refine h1.then H5.out.2.2.1 (fun i hi h => h.elim (fun e => by omega) .inr)
      refine HR.out _ _ ⟨u5, fun k => k = b ∨ k = T ∨ (Value.slice A5 m5 c5).ownBlock = some k, rfl, ?_, ⟨T, .slice A5 m5 c5, HV.out.kind, ?_, HV.out.lo0, blk_set H5.out.2.2.2.2 2 _, ?_, ?_, fun k => Iff.rfl⟩, ?_, ?_⟩
      · rw [e1, hel]
        exact own_base_le (owns_fr H5.out.2.1 hfb (fun j hj e => by have := (H5.out.2.1.lt j hj).1; have : w3.drew.heap.size = w3.heap.size := rfl; omega)) (by show w.heap.size ≤ w3.heap.size; omega)
      · exact Ok.sweep (s := { s with now := s.now + 1 }) (HV.out.ok.sub (s' := { s with now := s.now + 1 }) rfl rfl rfl (fun x hx => hx) (show s.now ≤ s.now + 1 by omega)) _
      · exact owns_fr (owns_fr HV.out.trow hfr (fun j hj e => by
          rw [HV.out.tT hj] at e
          exact e.elim HV.out.neT (fun e => (HV.out.nev T e).2 rfl))) hfb (fun j hj e => by rw [HV.out.tT hj] at e; exact HV.out.neT e)
      · rw [← epl_len, e2, hel]
        exact owns_fr H5.out.1 hfb (fun j hj e => (HV.out.nev j (H5.out.2.2.2.1 j hj)).1 e)
      · refine ⟨(hfr.mono fun i _ h => (HV.out.fp i).2 (h.elim .inl (fun e => .inr (.inr e)))).trans (hfb.mono fun i _ e => (HV.out.fp i).2 (.inl e)), fun k hk => .inl ((HV.out.fp k).2 ?_)⟩
        rcases hk with e | e | e
        · exact .inl e
        · exact .inr (.inl e)
        · exact .inr (.inr (H5.out.2.2.2.1 k e))
      · intro k hk hf
        have h1 := (H5.out.2.1.lt k hk).1
        have h2 : w3.drew.heap.size = w3.heap.size := rfl
        rcases hf with e | e | e
        · omega
        · have := HV.out.lt T ((HV.out.fp T).2 (.inr (.inl rfl))); omega
        · have := H3.out.2.2.2.2 k (H5.out.2.2.2.1 k e); omega
  · rw [hbe] at HC
    have e2 : tryS s = ⟨s, [], 0⟩ := by unfold tryS; rw [hbe]; rfl
    rw [e2] at HR
    clear hv e2 hg1 hn1 hb1 hve hints hcf hbe
    go_enter Tryz.func107, Tryz.ntmps107
    go_wp2_with (go_at_call 137; refine HC.out.mono ?_; rintro e w' ⟨rfl, rfl⟩)
    exact HR.out _ _ ⟨_, F, rfl, World.ownsRow_nil _ _ _ _, (EM.local b).fr HQ.out (G := fun _ => False) H1.out.1 (fun _ _ h => h), ⟨H1.out.1.mono fun _ _ h => h.elim, fun j hj => .inl hj⟩, fun j hj => by simp [Value.ownBlock] at hj⟩
end Go.Proofs.YtcgcljmnnjalpaaGreat
