/- The epoch manager: its form in memory; has, In, Out, Hold, Born, Waiting. -/
import Derived.Test.YtcgcljmnnjalpaaGreatGfB
set_option linter.unusedVariables false
set_option linter.unusedSimpArgs false
namespace Go.Proofs.YtcgcljmnnjalpaaGreat
open Go.RowKit Go.Kx
open Go.ChangeMaps (setBlock)
def thr (s : RS) : List Int := (List.range s.n).map fun t => if s.ins t then s.lo t else -1
theorem thr_len (s : RS) : (thr s).length = s.n := by simp [thr]
theorem thr_at {s : RS} {t : Nat} (ht : t < s.n) : (thr s)[t]? = some (if s.ins t then s.lo t else -1) := by simp [thr, ht]
theorem thr_upd {s : RS} {t : Nat} (ht : t < s.n) (x : Int) (s' : RS) (hn : s'.n = s.n) (ho : ∀ i, i ≠ t → s'.ins i = s.ins i ∧ s'.lo i = s.lo i) (hx : (if s'.ins t then s'.lo t else -1) = x) : (thr s).set t x = thr s' := by
  unfold thr
  rw [hn]
  apply List.ext_getElem?
  intro i
  rw [List.getElem?_set]
  by_cases e : t = i
  · subst e; simp [ht, hx]
  · rw [if_neg e]
    simp only [List.getElem?_map]
    by_cases hi : i < s.n
    · obtain ⟨h1, h2⟩ := ho i (fun h => e h.symm)
      simp [hi, h1, h2]
    · simp [hi]
def epl (s : RS) : List P2 := s.items.map fun x => (x.addr, x.at_)
theorem epl_len (s : RS) : (epl s).length = s.items.length := by simp [epl]
structure EMv (b T : Nat) (v : Value) (w : World) (F : FP) (s : RS) : Prop where
  kind : s.kind = 2
  ok : Ok s
  lo0 : ∀ t, s.ins t = true → 0 ≤ s.lo t
  blk : w.heap[b]? = some (.cells #[.int .i64 s.now, .slice (some ⟨T, 0, none⟩) s.n s.n, v] 123 (0, 0))
  trow : w.ownsRow 0 3 1 (.slice (some ⟨T, 0, none⟩) s.n s.n) s.n ((thr s).map (Value.int .i64))
  row : w.ownsRow 0 144 2 v s.items.length ((epl s).flatMap enc2)
  fp : ∀ k, F k ↔ (k = b ∨ k = T ∨ v.ownBlock = some k)
/-- The epoch manager at block b. -/
def EM (b : Nat) (w : World) (F : FP) (s : RS) : Prop := ∃ T v, EMv b T v w F s
section
variable {b T : Nat} {v : Value} {w : World} {F : FP} {s : RS}
theorem EMv.tblk (h : EMv b T v w F s) : ∃ c, w.heap[T]? = some (.cells c 3 (0, 0)) := owns_blk h.trow rfl
theorem EMv.neT (h : EMv b T v w F s) : T ≠ b := by
  rintro rfl; obtain ⟨c, hc⟩ := h.tblk
  exact absurd (blk_ty hc h.blk) (by decide)
theorem EMv.nev (h : EMv b T v w F s) (k : Nat) (hk : v.ownBlock = some k) : k ≠ b ∧ k ≠ T := by
  obtain ⟨c, hc⟩ := owns_blk h.row hk
  refine ⟨?_, ?_⟩
  · rintro rfl; exact absurd (blk_ty hc h.blk) (by decide)
  · rintro rfl; obtain ⟨d, hd⟩ := h.tblk; exact absurd (blk_ty hc hd) (by decide)
theorem EMv.tT (h : EMv b T v w F s) {k : Nat} (hk : (Value.slice (some ⟨T, 0, none⟩) s.n s.n).ownBlock = some k) : k = T := own_sl_eq hk
theorem EMv.local_fr {w' : World} {G : FP} (h : EMv b T v w F s) (hf : Fr G w w') (hn : ∀ k, F k → ¬ G k) : EMv b T v w' F s :=
  ⟨h.kind, h.ok, h.lo0, hf.at_ h.blk (hn b ((h.fp b).2 (.inl rfl))), owns_fr h.trow hf (fun k hk => by rw [h.tT hk]; exact hn T ((h.fp T).2 (.inr (.inl rfl)))), owns_fr h.row hf (fun k hk => hn k ((h.fp k).2 (.inr (.inr hk)))), h.fp⟩
theorem EMv.lt (h : EMv b T v w F s) (k : Nat) (hk : F k) : k < w.heap.size := by
  rcases (h.fp k).1 hk with rfl | rfl | hk
  · exact blk_lt h.blk
  · obtain ⟨c, hc⟩ := h.tblk; exact blk_lt hc
  · exact (h.row.lt k hk).2
end
theorem EM.local (b : Nat) : Local (EM b) := ⟨fun ⟨T, v, h⟩ k hk => h.lt k hk, fun ⟨T, v, h⟩ hf hn => ⟨T, v, h.local_fr hf hn⟩⟩
theorem epHas {b T : Nat} {v : Value} {w : World} {F : FP} {s : RS} (h : EMv b T v w F s) (t : Int) : Calls Tryz.prog 105 #[.pointer (some ⟨b, 0, none⟩), .int .i64 t] w fun e w' => e = .returned (.bool (okTh s t)) ∧ w = w' := by
  refine cph fun R HR => ?_
  have k0 := (blk_cell h.blk 1).trans (rfl : _ = some (Value.slice (some ⟨T, 0, none⟩) s.n s.n))
  rcases okTh_cases s t h.ok.n4 with ⟨h1, e⟩ | ⟨h1, h2, e⟩ | ⟨h1, h2, e⟩
  · rw [e] at HR
    have d1 : decide (0 ≤ t) = false := decide_eq_false (by omega)
    clear h e
    go_enter Tryz.func105, Tryz.ntmps105
    go_wp2_with fail
    exact HR.out _ _ ⟨rfl, rfl⟩
  · rw [e] at HR
    have d1 : decide (0 ≤ t) = true := decide_eq_true h2
    have d2 : decide (t < (s.n : Int)) = false := decide_eq_false (by omega)
    clear h e
    go_enter Tryz.func105, Tryz.ntmps105
    go_wp2_with fail
    exact HR.out _ _ ⟨rfl, rfl⟩
  · rw [e] at HR
    have d1 : decide (0 ≤ t) = true := decide_eq_true h1
    have d2 : decide (t < (s.n : Int)) = true := decide_eq_true h2
    clear h e
    go_enter Tryz.func105, Tryz.ntmps105
    go_wp2_with fail
    exact HR.out _ _ ⟨rfl, rfl⟩
theorem EMv.setT {b T : Nat} {v : Value} {w : World} {F : FP} {s s' : RS} (h : EMv b T v w F s) {t : Nat} (ht : t < s.n) (x : Int) (hok : Ok s') (hk : s'.kind = s.kind) (hn : s'.n = s.n) (h0 : s'.now = s.now) (hl : ∀ t, s'.ins t = true → 0 ≤ s'.lo t) (he : epl s' = epl s) (ho : ∀ i, i ≠ t → s'.ins i = s.ins i ∧ s'.lo i = s.lo i) (hx : (if s'.ins t then s'.lo t else -1) = x) :
    EMv b T v (w.setCell ⟨T, t, none⟩ (.int .i64 x)) F s' ∧ Fr F w (w.setCell ⟨T, t, none⟩ (.int .i64 x)) := by
  have hf : Fr (· = T) w (w.setCell ⟨T, t, none⟩ (.int .i64 x)) := (Fr.refl _ _).setCell _ _ (.inr rfl)
  refine ⟨⟨hk.trans h.kind, hok, hl, ?_, ?_, ?_, h.fp⟩, hf.mono fun i _ e => (h.fp i).2 (.inr (.inl e))⟩
  · rw [h0, hn]; exact hf.at_ h.blk (fun e => h.neT e.symm)
  · have h1 := (h.trow.stored t (.int .i64 x)).1
    rw [← List.map_set, thr_upd ht x s' hn ho hx, ← hn] at h1
    exact h1
  · rw [he, show s'.items.length = s.items.length by rw [← epl_len, he, epl_len]]
    exact owns_fr h.row hf (fun j hj e => (h.nev j hj).2 e)
set_option maxHeartbeats 1000000 in
theorem epIn {b : Nat} {w : World} {F : FP} {s : RS} (h : EM b w F s) (t : Int) : Calls Tryz.prog 58 #[.pointer (some ⟨b, 0, none⟩), .int .i64 t] w (OpP (EM b) w F (inS s t)) := by
  refine cph fun R HR => ?_
  have HQ := Lib.hid h
  obtain ⟨T, v, hv⟩ := h
  have HH := Lib.hid (epHas hv t)
  have HV := Lib.hid hv
  cases ht : okTh s t
  · rw [ht] at HH
    have e : inS s t = ⟨s, [], 1⟩ := by simp [inS, ht]
    rw [e] at HR
    clear hv e
    go_enter Tryz.func58, Tryz.ntmps58
    go_wp2_with (go_at_call 105; refine HH.out.mono ?_; rintro e w' ⟨rfl, rfl⟩)
    exact HR.out _ _ (OpP.none HQ.out (Step.refl _ _))
  · rw [ht] at HH
    have hok := hv.ok.in_ t
    obtain ⟨k, rfl, hk⟩ := okTh_nat ht
    have e : inS s (k : Int) = ⟨(inS s (k : Int)).st, [], 0⟩ := by simp [inS, ht]
    rw [e] at HR
    have hst : EMv b T v (w.setCell ⟨T, k, none⟩ (.int .i64 s.now)) F (inS s (k : Int)).st ∧ Fr F w (w.setCell ⟨T, k, none⟩ (.int .i64 s.now)) := by
      refine hv.setT hk s.now hok (by simp [inS, ht]) (by simp [inS, ht]) (by simp [inS, ht]) (fun i hi => ?_) (by simp [inS, ht, epl]) (fun i hi => by simp [inS, ht, upd1, hi]) (by simp [inS, ht, upd1])
      by_cases e : i = k
      · have := hv.ok.now0; simpa [inS, ht, upd1, e] using this
      · have h1 : s.ins i = true := by simpa [inS, ht, upd1, e] using hi
        simpa [inS, ht, upd1, e] using hv.lo0 i h1
    have HS := Lib.hid hst
    have e0 := (blk_cell hv.blk 0).trans (rfl : _ = some (Value.int .i64 s.now))
    have e1 := (blk_cell hv.blk 1).trans (rfl : _ = some (Value.slice (some ⟨T, 0, none⟩) s.n s.n))
    have eT : ∃ x, w.cell? ⟨T, k, none⟩ = some x := by
      rw [hv.trow.cellAt k (by omega)]
      exact ⟨.int .i64 (if s.ins k then s.lo k else -1), by rw [List.getElem?_map, thr_at hk]; rfl⟩
    have fT := hv.trow.frozenAt k
    obtain ⟨xT, eT⟩ := eT
    have hki : (k : Int) < (s.n : Int) := by omega
    have hbl := blk_lt hv.blk
    clear hv e hok hst ht
    go_enter Tryz.func58, Tryz.ntmps58
    go_wp2_with (go_at_call 105; refine HH.out.mono ?_; rintro e w' ⟨rfl, rfl⟩)
    go_region_law fail
    all_goals
      go_wp2_with fail
      exact HR.out _ _ (OpP.none ((EM.local b).fr ⟨T, v, HS.out.1⟩ (G := fun _ => False) (Fr.refl _ _).drew (fun _ _ h => h)) ⟨HS.out.2.drew, fun j hj => .inl hj⟩)
theorem epl_out (s : RS) (t : Nat) : epl (outS0 s t) = epl s := by simp [epl, outS0]
set_option maxHeartbeats 1000000 in
theorem epOut {b : Nat} {w : World} {F : FP} {s : RS} (h : EM b w F s) (t : Int) : Calls Tryz.prog 59 #[.pointer (some ⟨b, 0, none⟩), .int .i64 t] w (OpP (EM b) w F (outS s t)) := by
  refine cph fun R HR => ?_
  have HQ := Lib.hid h
  obtain ⟨T, v, hv⟩ := h
  have HH := Lib.hid (epHas hv t)
  have HV := Lib.hid hv
  cases ht : okTh s t
  · rw [ht] at HH
    have e : outS s t = ⟨s, [], 1⟩ := by simp [outS, ht]
    rw [e] at HR
    clear hv e
    go_enter Tryz.func59, Tryz.ntmps59
    go_wp2_with (go_at_call 105; refine HH.out.mono ?_; rintro e w' ⟨rfl, rfl⟩)
    exact HR.out _ _ (OpP.none HQ.out (Step.refl _ _))
  · rw [ht] at HH
    obtain ⟨k, rfl, hk⟩ := okTh_nat ht
    have hok := hv.ok.out0 hk
    have e : outS s (k : Int) = ⟨outS0 s k, [], 0⟩ := by simp [outS, ht, hv.kind]
    rw [e] at HR
    have hst : EMv b T v (w.setCell ⟨T, k, none⟩ (.int .i64 (-1))) F (outS0 s k) ∧ Fr F w (w.setCell ⟨T, k, none⟩ (.int .i64 (-1))) := by
      refine hv.setT hk (-1) hok rfl rfl rfl (fun i hi => ?_) (epl_out s k) (fun i hi => by simp [outS0, upd1, hi]) (by simp [outS0, upd1])
      by_cases e : i = k
      · simp [outS0, upd1, e] at hi
      · have h1 : s.ins i = true := by simpa [outS0, upd1, e] using hi
        simpa [outS0, upd1, e] using hv.lo0 i h1
    have HS := Lib.hid hst
    have e1 := (blk_cell hv.blk 1).trans (rfl : _ = some (Value.slice (some ⟨T, 0, none⟩) s.n s.n))
    have eT : ∃ x, w.cell? ⟨T, k, none⟩ = some x := by
      rw [hv.trow.cellAt k (by omega)]
      exact ⟨.int .i64 (if s.ins k then s.lo k else -1), by rw [List.getElem?_map, thr_at hk]; rfl⟩
    have fT := hv.trow.frozenAt k
    obtain ⟨xT, eT⟩ := eT
    have hki : (k : Int) < (s.n : Int) := by omega
    have hbl := blk_lt hv.blk
    clear hv e hok hst ht
    go_enter Tryz.func59, Tryz.ntmps59
    go_wp2_with (go_at_call 105; refine HH.out.mono ?_; rintro e w' ⟨rfl, rfl⟩)
    exact HR.out _ _ (OpP.none ⟨T, v, HS.out.1⟩ ⟨HS.out.2, fun j hj => .inl hj⟩)
theorem EMv.upd {b T : Nat} {v : Value} {w : World} {F : FP} {s s' : RS} (h : EMv b T v w F s) (hok : Ok s') (hk : s'.kind = s.kind) (hn : s'.n = s.n) (h0 : s'.now = s.now) (hi : s'.ins = s.ins) (hl : s'.lo = s.lo) (hit : s'.items = s.items) : EMv b T v w F s' := by
  have e1 : thr s' = thr s := by unfold thr; rw [hn, hi, hl]
  have e2 : epl s' = epl s := by unfold epl; rw [hit]
  exact ⟨hk.trans h.kind, hok, by rw [hi, hl]; exact h.lo0, by rw [hn, h0]; exact h.blk, by rw [hn, e1]; exact h.trow, by rw [hit, e2]; exact h.row, h.fp⟩
set_option maxHeartbeats 1000000 in
theorem epHold {b : Nat} {w : World} {F : FP} {s : RS} (h : EM b w F s) (t k a : Int) : Calls Tryz.prog 180 #[.pointer (some ⟨b, 0, none⟩), .int .i64 t, .int .i64 k, .int .i64 a] w (OpP (EM b) w F (holdS s t k a)) := by
  refine cph fun R HR => ?_
  have HQ := Lib.hid h
  obtain ⟨T, v, hv⟩ := h
  have HH := Lib.hid (epHas hv t)
  have HV := Lib.hid hv
  cases ht : okTh s t
  · rw [ht] at HH
    have e : holdS s t k a = ⟨s, [], 1⟩ := by simp [holdS, ht]
    rw [e] at HR
    clear hv e
    go_enter Tryz.func180, Tryz.ntmps180
    go_wp2_with (go_at_call 105; refine HH.out.mono ?_; rintro e w' ⟨rfl, rfl⟩)
    exact HR.out _ _ (OpP.none HQ.out (Step.refl _ _))
  · rw [ht] at HH
    rcases holdOk_cases k a with ⟨h1, e⟩ | ⟨h1, h2, e⟩ | ⟨h1, h2, h3, e⟩ | ⟨h1, h2, h3, e⟩
    iterate 3
      have e2 : holdS s t k a = ⟨s, [], 1⟩ := by simp [holdS, e]
      rw [e2] at HR
      clear hv e e2 ht
      go_enter Tryz.func180, Tryz.ntmps180
      go_wp2_with (go_at_call 105; refine HH.out.mono ?_; rintro e w' ⟨rfl, rfl⟩)
      exact HR.out _ _ (OpP.none HQ.out (Step.refl _ _))
    have e2 : holdS s t k a = ⟨holdS0 s t.toNat k.toNat a, [], 0⟩ := by simp [holdS, ht, e, hv.kind]
    rw [e2] at HR
    obtain ⟨t', rfl, ht'⟩ := okTh_nat ht
    have HO := Lib.hid (hv.ok.hold0 (t := t') (k := k.toNat) ht' (by omega) h3)
    clear hv e e2 ht
    go_enter Tryz.func180, Tryz.ntmps180
    go_wp2_with (go_at_call 105; refine HH.out.mono ?_; rintro e w' ⟨rfl, rfl⟩)
    exact HR.out _ _ (OpP.none ⟨T, v, HV.out.upd HO.out rfl rfl rfl rfl rfl rfl⟩ (Step.refl _ _))
theorem epBorn {b : Nat} {w : World} {F : FP} {s : RS} (h : EM b w F s) (a : Int) : Calls Tryz.prog 178 #[.pointer (some ⟨b, 0, none⟩), .int .i64 a] w (OpE (EM b) w F (bornS s a)) := by
  refine cph fun R HR => ?_
  have HQ := Lib.hid h
  obtain ⟨T, v, hv⟩ := h
  have HH := Lib.hid (epHas hv 0)
  rw [okTh_zero hv.ok] at HH
  by_cases ha : 0 < a
  · have e : bornS s a = ⟨s, [], 0⟩ := by simp [bornS, ha, hv.kind]
    rw [e] at HR
    have ha2 : ¬ a ≤ 0 := by omega
    clear hv e
    go_enter Tryz.func178, Tryz.ntmps178
    go_wp2_with (go_at_call 105; refine HH.out.mono ?_; rintro e w' ⟨rfl, rfl⟩)
    exact HR.out _ _ ⟨F, rfl, HQ.out, Step.refl _ _⟩
  · have e : bornS s a = ⟨s, [], 1⟩ := by simp [bornS, ha]
    rw [e] at HR
    have ha2 : a ≤ 0 := by omega
    clear hv e
    go_enter Tryz.func178, Tryz.ntmps178
    go_wp2_with (go_at_call 105; refine HH.out.mono ?_; rintro e w' ⟨rfl, rfl⟩)
    exact HR.out _ _ ⟨F, rfl, HQ.out, Step.refl _ _⟩
set_option maxRecDepth 100000 in
set_option maxHeartbeats 4000000 in
theorem epWaiting {b : Nat} {w : World} {F : FP} {s : RS} (h : EM b w F s) (hs : s.items.length ≤ 100000) : Calls Tryz.prog 75 #[.pointer (some ⟨b, 0, none⟩)] w (WaitP w s) := by
  refine cph fun R HR => ?_
  obtain ⟨T, v, hv⟩ := h
  have HH := Lib.hid (epHas hv 0)
  rw [okTh_zero hv.ok] at HH
  have k5 := (blk_cell hv.blk 2).trans (rfl : _ = some v)
  have HV := Lib.hid hv
  obtain ⟨i0, hi, hz0, hz1, hz2⟩ := info_parts info3x
  have HI := Lib.hid (And.intro hi (And.intro hz0 (And.intro hz1 hz2)))
  clear hi hz0 hz1 hz2
  have hsh : ∃ A cap, v = .slice A s.items.length cap ∧ (s.items ≠ [] → ∃ g, A = some ⟨g, 0, none⟩) := by
    rcases own_val hv.row with ⟨rfl, h0⟩ | ⟨g, cap, rfl, _⟩
    · have : s.items = [] := List.eq_nil_of_length_eq_zero h0
      exact ⟨none, 0, by rw [h0], fun h => absurd this h⟩
    · exact ⟨_, cap, rfl, fun _ => ⟨g, rfl⟩⟩
  obtain ⟨A, cap, rfl, hA⟩ := hsh
  have HA := Lib.hid hA
  clear hv hA
  go_enter Tryz.func75, Tryz.ntmps75
  go_wp2_with (go_at_call 105; refine HH.out.mono ?_; rintro e w' ⟨rfl, rfl⟩)
  go_loopw [3, 14] (fun u i wr => ∃ k : Nat, k ≤ s.items.length ∧ i = .int .i64 k ∧ Hid (wr.ownsRow w.heap.size 3 1 u k ((s.items.map fun x => Value.int .i64 x.addr).take k) ∧ Grow w wr)) (fun _ i _ => s.items.length - (intOf i).toNat)
  case atStart => exact ⟨0, by omega, rfl, World.ownsRow_nil _ _ _ _, Grow.refl _⟩
  case round =>
    obtain ⟨k, hk, rfl, HO⟩ := hrel
    by_cases hlt : k < s.items.length
    · obtain ⟨x, hx⟩ : ∃ x, s.items[k]? = some x := ⟨s.items[k], by simp [hlt]⟩
      have hx2 : (epl s)[k]? = some (x.addr, x.at_) := by unfold epl; rw [List.getElem?_map, hx]; rfl
      obtain ⟨g, rfl⟩ := HA.out (by intro e; rw [e] at hlt; simp at hlt)
      have c0 := HO.out.2.cell ((own_at enc2_len HV.out.row hx2 (o := 0) (by omega)).trans (rfl : _ = some (Value.int .i64 x.addr)))
      have c1 := HO.out.2.cell ((own_at enc2_len HV.out.row hx2 (o := 1) (by omega)).trans (rfl : _ = some (Value.int .i64 x.at_)))
      have hki : (k : Int) < (s.items.length : Int) := by omega
      have hgs := HO.out.2.size
      have HX := Lib.hid hx
      clear hx hx2
      rw [Nat.add_zero] at c0
      have hnw := cell_one_new (wr.alloc (Obj.cells #[.int .i64 x.addr, .int .i64 x.at_] 144)) (.int .i64 x.addr) 3
      rw [size_alloc] at hnw
      have HNW := Lib.hid hnw
      clear hnw
      go_wp2_with (at_builtin; refine wpList_append_own_at _ rfl (.tmp 18) (.tmp 21) 34 rfl w.heap.size 3 i0 (.int .i64 0) 1 8 Tryz.underlying34 HI.out.1 HI.out.2.1 HI.out.2.2.1 HI.out.2.2.2 rfl (by decide) _ _ _ rfl ((HO.out.1.alloc _).alloc _) ⟨wr.heap.size + 1, 0, none⟩ 1 1 [.int .i64 x.addr] rfl rfl HNW.out (by simp [Value.oneCell']) (by unfold maxLen; omega) (by omega) (by simp; omega) ?_)
      intro v' w3 hown hgrow _ hat
      have H7 : Hid (w3.ownsRow w.heap.size 3 1 v' (k + 1) ((s.items.map fun x => Value.int .i64 x.addr).take (k + 1)) ∧ Grow w w3) := ⟨by
        rw [List.take_add_one, List.getElem?_map, HX.out]; exact hown, ((HO.out.2.alloc _).alloc _).grown hgrow (fun j e => (HO.out.1.lt j e).1)⟩
      clear hown hgrow hat
      go_wp2_with fail
      go_roundw
      case rel => exact ⟨k + 1, by omega, by go_num, H7.out⟩
      case measure => simp [intOf] <;> omega
    · obtain rfl : k = s.items.length := by omega
      have hki : ¬ (s.items.length : Int) < (s.items.length : Int) := by omega
      go_wp2_with fail
      refine HR.out _ _ ⟨_, rfl, ?_, HO.out.2⟩
      have := HO.out.1
      rwa [List.take_of_length_le (by simp)] at this
end Go.Proofs.YtcgcljmnnjalpaaGreat
