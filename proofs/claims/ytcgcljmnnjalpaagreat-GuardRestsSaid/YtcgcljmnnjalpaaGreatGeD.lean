/- The counting manager: has, set. -/
import Derived.Test.YtcgcljmnnjalpaaGreatGeC
set_option linter.unusedVariables false
set_option linter.unusedSimpArgs false
namespace Go.Proofs.YtcgcljmnnjalpaaGreat
open Go.RowKit Go.Kx
open Go.ChangeMaps (setBlock)
structure CMv (b H M : Nat) (v : Value) (w : World) (F : FP) (s : RS) : Prop where
  kind : s.kind = 4
  ok : Ok s
  blk : w.heap[b]? = some (.cells #[.slice (some ⟨H, 0, none⟩) s.n s.n, .map (some M), v] 132 (0, 0))
  hrow : w.ownsRow 0 76 3 (.slice (some ⟨H, 0, none⟩) s.n s.n) s.n ((hRows s).flatMap encH)
  cmap : ∃ kv, IMap w M kv ∧ CMapP kv (cnH s.holds)
  row : w.ownsRow 0 3 1 v (addrs s).length ((addrs s).map (Value.int .i64))
  fp : ∀ k, F k ↔ (k = b ∨ k = H ∨ k = M ∨ v.ownBlock = some k)
/-- The counting manager at block b. -/
def CM (b : Nat) (w : World) (F : FP) (s : RS) : Prop := ∃ H M v, CMv b H M v w F s
theorem blk_ty {w : World} {k : Nat} {c d : Array Value} {t u : TypeId} {fz gz : Nat × Nat} (h : w.heap[k]? = some (.cells c t fz)) (h2 : w.heap[k]? = some (.cells d u gz)) : t = u := by
  rw [h] at h2; simp at h2; exact h2.2.1
section
variable {b H M : Nat} {v : Value} {w : World} {F : FP} {s : RS}
theorem CMv.hblk (h : CMv b H M v w F s) : ∃ c, w.heap[H]? = some (.cells c 76 (0, 0)) := owns_blk h.hrow rfl
theorem CMv.neH (h : CMv b H M v w F s) : H ≠ b := by
  rintro rfl; obtain ⟨c, hc⟩ := h.hblk
  exact absurd (blk_ty hc h.blk) (by decide)
theorem CMv.neM (h : CMv b H M v w F s) : M ≠ b := by
  obtain ⟨kv, hm, _⟩ := h.cmap
  exact hm.ne h.blk
theorem CMv.neHM (h : CMv b H M v w F s) : M ≠ H := by
  obtain ⟨kv, hm, _⟩ := h.cmap
  obtain ⟨c, hc⟩ := h.hblk
  exact hm.ne hc
theorem CMv.nev (h : CMv b H M v w F s) (k : Nat) (hk : v.ownBlock = some k) : k ≠ b ∧ k ≠ H ∧ k ≠ M := by
  obtain ⟨c, hc⟩ := owns_blk h.row hk
  refine ⟨?_, ?_, ?_⟩
  · rintro rfl; exact absurd (blk_ty hc h.blk) (by decide)
  · rintro rfl; obtain ⟨d, hd⟩ := h.hblk; exact absurd (blk_ty hc hd) (by decide)
  · rintro rfl; obtain ⟨kv, hm, _⟩ := h.cmap; exact hm.ne hc rfl
theorem CMv.local_fr {w' : World} {G : FP} (h : CMv b H M v w F s) (hf : Fr G w w') (hn : ∀ k, F k → ¬ G k) : CMv b H M v w' F s := by
  obtain ⟨kv, hm, hc⟩ := h.cmap
  exact ⟨h.kind, h.ok, hf.at_ h.blk (hn b ((h.fp b).2 (.inl rfl))), owns_fr h.hrow hf (fun k hk => hn k ((h.fp k).2 (.inr (.inl (by simpa [Value.ownBlock] using hk.symm))))), ⟨kv, hm.fr hf (hn M ((h.fp M).2 (.inr (.inr (.inl rfl))))), hc⟩, owns_fr h.row hf (fun k hk => hn k ((h.fp k).2 (.inr (.inr (.inr hk))))), h.fp⟩
theorem CMv.lt (h : CMv b H M v w F s) (k : Nat) (hk : F k) : k < w.heap.size := by
  rcases (h.fp k).1 hk with rfl | rfl | rfl | hk
  · exact blk_lt h.blk
  · obtain ⟨c, hc⟩ := h.hblk; exact blk_lt hc
  · obtain ⟨kv, hm, _⟩ := h.cmap; exact hm.lt
  · exact (h.row.lt k hk).2
end
theorem CM.local (b : Nat) : Local (CM b) := ⟨fun ⟨H, M, v, h⟩ k hk => h.lt k hk, fun ⟨H, M, v, h⟩ hf hn => ⟨H, M, v, h.local_fr hf hn⟩⟩
theorem zero3x (w : World) : (zeroValue 3).run Tryz.prog w = .ok (.int .i64 0) w := by kernel_rfl
theorem coHas {b H M : Nat} {v : Value} {w : World} {F : FP} {s : RS} (h : CMv b H M v w F s) (t : Int) : Calls Tryz.prog 111 #[.pointer (some ⟨b, 0, none⟩), .int .i64 t] w fun e w' => e = .returned (.bool (okTh s t)) ∧ w = w' := by
  refine cph fun R HR => ?_
  have k0 := (blk_cell h.blk 0).trans (rfl : _ = some (Value.slice (some ⟨H, 0, none⟩) s.n s.n))
  rcases okTh_cases s t h.ok.n4 with ⟨h1, e⟩ | ⟨h1, h2, e⟩ | ⟨h1, h2, e⟩
  · rw [e] at HR
    have d1 : decide (0 ≤ t) = false := decide_eq_false (by omega)
    clear h e
    go_enter Tryz.func111, Tryz.ntmps111
    go_wp2_with fail
    exact HR.out _ _ ⟨rfl, rfl⟩
  · rw [e] at HR
    have d1 : decide (0 ≤ t) = true := decide_eq_true h2
    have d2 : decide (t < (s.n : Int)) = false := decide_eq_false (by omega)
    clear h e
    go_enter Tryz.func111, Tryz.ntmps111
    go_wp2_with fail
    exact HR.out _ _ ⟨rfl, rfl⟩
  · rw [e] at HR
    have d1 : decide (0 ≤ t) = true := decide_eq_true h1
    have d2 : decide (t < (s.n : Int)) = true := decide_eq_true h2
    clear h e
    go_enter Tryz.func111, Tryz.ntmps111
    go_wp2_with fail
    exact HR.out _ _ ⟨rfl, rfl⟩
def SetP (b H M : Nat) (v : Value) (w : World) (F : FP) (s' : RS) (e : Ending) (w' : World) : Prop := e = .returned (.tuple #[]) ∧ CMv b H M v w' F s' ∧ Fr F w w'
set_option maxRecDepth 100000 in
set_option maxHeartbeats 4000000 in
theorem coSet {b H M : Nat} {v : Value} {w : World} {F : FP} {s : RS} (h : CMv b H M v w F s) {t k : Nat} (ht : t < s.n) (hk : k < 3) (a : Int) (ha : 0 ≤ a) :
    Calls Tryz.prog 112 #[.pointer (some ⟨b, 0, none⟩), .int .i64 t, .int .i64 k, .int .i64 a] w (SetP b H M v w F (holdS0 s t k a)) := by
  refine cph fun R HR => ?_
  have HV := Lib.hid h
  have h4 : t < 4 := by have := h.ok.n4; omega
  have hokn := Lib.hid (h.ok.hold0 ht hk ha)
  have kb0 := (blk_cell h.blk 0).trans (rfl : _ = some (Value.slice (some ⟨H, 0, none⟩) s.n s.n))
  have kb1 := (blk_cell h.blk 1).trans (rfl : _ = some (Value.map (some M)))
  have hold := own_at encH_len h.hrow (hRows_at ht) (o := k) hk
  have hold2 : w.cell? ⟨H, t * 3 + k, none⟩ = some (.int .i64 (s.holds t k)) := by
    rw [hold]
    obtain rfl | rfl | rfl : k = 0 ∨ k = 1 ∨ k = 2 := by omega
    all_goals rfl
  have hfz := h.hrow.frozenAt (t * 3 + k)
  have hti : (t : Int) < (s.n : Int) := by omega
  have hki : (k : Int) < 3 := by omega
  -- behind the store
  obtain ⟨w1, hw1⟩ : ∃ w1, w.setCell ⟨H, t * 3 + k, none⟩ (.int .i64 a) = w1 := ⟨_, rfl⟩
  have hfr1 : Fr F w w1 := by rw [← hw1]; exact (Fr.refl F w).setCell _ _ (.inr ((h.fp H).2 (.inr (.inl rfl))))
  have hb1 : w1.heap[b]? = some (.cells #[.slice (some ⟨H, 0, none⟩) s.n s.n, .map (some M), v] 132 (0, 0)) := by
    rw [← hw1]; exact (blk_set_other (a := ⟨H, t * 3 + k, none⟩) (fun e => h.neH e.symm) _).trans h.blk
  have hh1 : w1.ownsRow 0 76 3 (.slice (some ⟨H, 0, none⟩) s.n s.n) s.n ((hRows (holdS0 s t k a)).flatMap encH) := by
    have h1 := (h.hrow.stored (t * 3 + k) (.int .i64 a)).1
    rw [flat_set encH_len _ t _ (upd1 (s.holds t) k a) k _ (hRows_at ht) hk (encH_set _ hk a), hRows_upd ht _ (holdS0 s t k a) rfl rfl, hw1] at h1
    exact h1
  have hr1 : w1.ownsRow 0 3 1 v (addrs s).length ((addrs s).map (Value.int .i64)) := by
    rw [← hw1]
    exact owns_fr h.row ((Fr.refl (· = H) w).setCell _ _ (.inr rfl)) (fun j hj e => (h.nev j hj).2.1 e)
  obtain ⟨kv, hm, hcm⟩ := h.cmap
  have hm1 : IMap w1 M kv := by rw [← hw1]; exact hm.setCell h.neHM _
  have hup := fun x => cnH_upd (h := s.holds) h4 hk a x
  have hpos := h.ok.pos t k
  have H1 := Lib.hid (And.intro hfr1 (And.intro hb1 (And.intro hh1 (And.intro hr1 (And.intro hm1 hcm)))))
  have HU := Lib.hid hup
  have hle := fun x => cnH_le s.holds x
  have HLE := Lib.hid hle
  have HW := Lib.hid hw1
  have kc0 := (blk_cell hb1 0).trans (rfl : _ = some (Value.slice (some ⟨H, 0, none⟩) s.n s.n))
  have kc1 := (blk_cell hb1 1).trans (rfl : _ = some (Value.map (some M)))
  have hlook := hm1.lookup Tryz.underlying124 Tryz.underlying3 (zero3x w1) a false
  simp only [Bool.false_eq_true, if_false] at hlook
  clear h hold hfr1 hb1 hh1 hr1 hm hm1 hcm hup hle
  generalize hold' : s.holds t k = old at hold2 hpos HU
  go_enter Tryz.func112, Tryz.ntmps112
  go_upto_if 28 with fail
  clear hw1
  go_cut [] (fun wx => Hid (∃ kv1, IMap wx M kv1 ∧ CMapP kv1 (fun x => cnH s.holds x + if a = x then 1 else 0) ∧ Fr (· = M) w1 wx))
  case first =>
    by_cases ha0 : a = 0
    · subst ha0
      go_wp2_with fail
      go_meet
      exact ⟨kv, H1.out.2.2.2.2.1, fun x hx => by
        have := H1.out.2.2.2.2.2 x hx
        have h0 : (if (0 : Int) = x then 1 else 0) = 0 := if_neg (fun e => hx e.symm)
        simp only [h0, Nat.add_zero]
        exact this, Fr.refl _ _⟩
    · rw [CMapP.get H1.out.2.2.2.2.2 ha0] at hlook
      have hb := HLE.out a
      generalize hn : cnH s.holds a = n at hlook hb
      have hb2 : (n : Int) ≤ 12 := by omega
      have HN := Lib.hid hn
      clear hn
      go_wp2_with (at_mapUpdate; refine wpList_mput rfl _ _ _ rfl H1.out.2.2.2.2.1 Tryz.underlying124 Tryz.underlying3 a (.int .i64 ((n : Int) + 1)) rfl rfl rfl ?_; intro ob him; have HF := Lib.hid him; clear him)
      go_meet
      exact ⟨_, HF.out, H1.out.2.2.2.2.2.put (x := a) ((n : Int) + 1) (by simp [HN.out]) (by simp) (fun y hy => by rw [if_neg (fun e => hy e.symm)]; rfl), (Fr.refl _ _).block _ _ (.inr rfl)⟩
  case rest =>
    obtain ⟨w2, hw2⟩ : ∃ w2, w2 = wc := ⟨_, rfl⟩
    subst hw2
    obtain ⟨kv1, hm2, hc2, hf2⟩ := hcut.out
    have hnM : ∀ j, F j → True := fun _ _ => trivial
    have hFM : F M := (HV.out.fp M).2 (.inr (.inr (.inl rfl)))
    have hb2 := hf2.at_ H1.out.2.1 (fun e => HV.out.neM e.symm)
    have hh2 := owns_fr H1.out.2.2.1 hf2 (fun j hj e => HV.out.neHM (by
      have : H = j := by simpa [Value.ownBlock] using hj
      rw [this, e]))
    have hr2 := owns_fr H1.out.2.2.2.1 hf2 (fun j hj e => (HV.out.nev j hj).2.2 e)
    have hF2 : Fr F w w2 := Fr.then H1.out.1 hf2 (fun i _ (e : i = M) => e ▸ hFM)
    have ke1 := (blk_cell hb2 1).trans (rfl : _ = some (Value.map (some M)))
    have hbl := blk_lt hb2
    -- what the whole has in the end
    have HE : Hid (∀ w' kv', IMap w' M kv' → CMapP kv' (cnH (upd1 s.holds t (upd1 (s.holds t) k a))) → Fr (· = M) w2 w' → SetP b H M v w F (holdS0 s t k a) (.returned (.tuple #[])) w') := by
      intro w' kv' hm' hc' hf'
      refine ⟨rfl, ⟨HV.out.kind, hokn.out, hf'.at_ hb2 (fun e => HV.out.neM e.symm), owns_fr hh2 hf' (fun j hj e => HV.out.neHM (by
        have : H = j := by simpa [Value.ownBlock] using hj
        rw [this, e])), ⟨kv', hm', hc'⟩, owns_fr hr2 hf' (fun j hj e => (HV.out.nev j hj).2.2 e), HV.out.fp⟩, Fr.then hF2 hf' (fun i _ (e : i = M) => e ▸ hFM)⟩
    by_cases ho : old = 0
    · subst ho
      have HF := Lib.hid (HE.out w2 kv1 hm2 (fun x hx => by
        have h1 := hc2 x hx
        have h2 := HU.out x
        rw [if_neg (fun e => hx e.symm)] at h2
        rw [show cnH (upd1 s.holds t (upd1 (s.holds t) k a)) x = cnH s.holds x + if a = x then 1 else 0 by omega]
        exact h1) (Fr.refl _ _))
      clear hm2 hc2 hf2 hb2 hh2 hr2 hF2 hcut
      go_wp2_with fail
      refine bodyPost_ret (results_none rfl _ _ _) rfl ?_
      exact HR.out _ _ HF.out
    · have hlook2 := hm2.lookup Tryz.underlying124 Tryz.underlying3 (zero3x w2) old false
      simp only [Bool.false_eq_true, if_false] at hlook2
      rw [CMapP.get hc2 ho] at hlook2
      have hU := HU.out old
      rw [if_pos rfl] at hU
      have hle := HLE.out old
      generalize hn1 : cnH s.holds old + (if a = old then 1 else 0) = n1 at hlook2 hU
      have hn13 : n1 ≤ 13 := by rw [← hn1]; split <;> omega
      generalize hg : cnH (upd1 s.holds t (upd1 (s.holds t) k a)) old = gn at hU
      have hgn : (n1 : Int) = gn + 1 := by omega
      have HGo : Hid (∀ y, y ≠ old → cnH (upd1 s.holds t (upd1 (s.holds t) k a)) y = cnH s.holds y + if a = y then 1 else 0) := fun y hy => by
        have := HU.out y
        rw [if_neg (fun e => hy e.symm)] at this
        omega
      have HGn := Lib.hid hg
      have HM2 := Lib.hid (And.intro hm2 hc2)
      have HB2 := Lib.hid hb2
      have hgb : (gn : Int) ≤ 13 := by omega
      rw [hgn] at hlook2
      clear hm2 hc2 hf2 hb2 hh2 hr2 hF2 hcut hn1 hg hgn hU hn13
      go_upto_region 6 with (at_mapUpdate; refine wpList_mput rfl _ _ _ rfl HM2.out.1 Tryz.underlying124 Tryz.underlying3 old (.int .i64 gn) rfl rfl (by simp [Act.eval, Act.put]) ?_; intro ob him; have HF := Lib.hid him; clear him)
      obtain ⟨w3, hw3⟩ : ∃ w3, setBlock w2 M ob = w3 := ⟨_, rfl⟩
      have hf3 : Fr (· = M) w2 w3 := by rw [← hw3]; exact (Fr.refl _ _).block _ _ (.inr rfl)
      have hm3 : IMap w3 M (mput kv1 old (.int .i64 gn)) := by rw [← hw3]; exact HF.out
      have hb3 := hf3.at_ HB2.out (fun e => HV.out.neM e.symm)
      have kf1 := (blk_cell hb3 1).trans (rfl : _ = some (Value.map (some M)))
      have hlook3 := hm3.lookup Tryz.underlying124 Tryz.underlying3 (zero3x w3) old false
      simp only [Bool.false_eq_true, if_false] at hlook3
      rw [mget_put, if_pos rfl, Option.getD_some] at hlook3
      rw [hw3]
      have H3 := Lib.hid (And.intro hf3 hm3)
      clear hf3 hm3 hb3 hw3 HF
      by_cases hz : gn = 0
      · subst hz
        obtain ⟨ob2, hdel, him2⟩ := H3.out.2.delete (e := 3) Tryz.underlying124 Tryz.underlying3 old 0
        have HF2 := Lib.hid him2
        clear him2
        go_wp2_with fail
        go_end0
        exact HR.out _ _ (HE.out _ _ HF2.out (HM2.out.2.del (x := old) _ HGn.out HGo.out) (Fr.trans H3.out.1 ((Fr.refl _ _).block _ _ (.inr rfl))))
      · have hz2 : ¬ (gn : Int) = 0 := by omega
        have HF2 := Lib.hid (HE.out w3 _ H3.out.2 (HM2.out.2.put (x := old) (gn : Int) (by rw [HGn.out]) (by rw [HGn.out]; exact hz) HGo.out) H3.out.1)
        go_wp2_with fail
        go_end0
        exact HR.out _ _ HF2.out
end Go.Proofs.YtcgcljmnnjalpaaGreat
