/- The epoch manager: its form in memory; has, In, Out, Hold, Born, Waiting. slices.IndexFunc, ContainsFunc of ints; the epoch manager: try's two closures. The epoch manager, in every state: try. slices.Grow on nil, slices.Concat of some slices of ints. The epoch manager, in every state: Retire, Rest. The epoch manager, in every state: Rest. -/
import Derived.Test.YtcgcljmnnjalpaaGreatGxG
import Derived.Deep.RegionHeld3
import Derived.Lib.SliceRun
import Derived.Lib.AppendZerosOnto
set_option linter.unusedVariables false
set_option linter.unusedSimpArgs false
namespace Go.Proofs.YtcgcljmnnjalpaaGreat
open Go.RowKit Go.Kx
open Go.ChangeMaps (setBlock)
def thr (s : RS) : List Int := (List.range s.n).map fun t => if s.ins t then s.lo t else -1
theorem thr_len (s : RS) : (thr s).length = s.n := by simp [thr]
theorem thr_at {s : RS} {t : Nat} (ht : t < s.n) : (thr s)[t]? = some (if s.ins t then s.lo t else -1) := by simp [thr, ht]
theorem thr_upd {s : RS} {t : Nat} (ht : t < s.n) (x : Int) (s' : RS) (hn : s'.n = s.n) (ho : ∀ i, i ≠ t → s'.ins i = s.ins i ∧ s'.lo i = s.lo i) (hx : (if s'.ins t then s'.lo t else -1) = x) : (thr s).set t x = thr s' := by
  unfold thr
  rw [hn]
  apply List.ext_getElem?
  intro i
  rw [List.getElem?_set]
  by_cases e : t = i
  · subst e; simp [ht, hx]
  · rw [if_neg e]
    simp only [List.getElem?_map]
    by_cases hi : i < s.n
    · obtain ⟨h1, h2⟩ := ho i (fun h => e h.symm)
      simp [hi, h1, h2]
    · simp [hi]
def epl (s : RS) : List P2 := s.items.map fun x => (x.addr, x.at_)
theorem epl_len (s : RS) : (epl s).length = s.items.length := by simp [epl]
structure EMv (b T cT : Nat) (v : Value) (w : World) (F : FP) (s : RS) : Prop where
  kind : s.kind = 2
  ok : Ok s
  lo0 : ∀ t, s.ins t = true → 0 ≤ s.lo t
  blk : w.heap[b]? = some (.cells #[.int .i64 s.now, .slice (some ⟨T, 0, none⟩) s.n cT, v] 123 (0, 0))
  trow : w.ownsRow 0 3 1 (.slice (some ⟨T, 0, none⟩) s.n cT) s.n ((thr s).map (Value.int .i64))
  row : w.ownsRow 0 144 2 v s.items.length ((epl s).flatMap enc2)
  fp : ∀ k, F k ↔ (k = b ∨ k = T ∨ v.ownBlock = some k)
/-- The epoch manager at block b. -/
def EM (b : Nat) (w : World) (F : FP) (s : RS) : Prop := ∃ T cT v, EMv b T cT v w F s
section
variable {b T cT : Nat} {v : Value} {w : World} {F : FP} {s : RS}
theorem EMv.tblk (h : EMv b T cT v w F s) : ∃ c, w.heap[T]? = some (.cells c 3 (0, 0)) := owns_blk h.trow rfl
theorem EMv.neT (h : EMv b T cT v w F s) : T ≠ b := by
  rintro rfl; obtain ⟨c, hc⟩ := h.tblk
  exact absurd (blk_ty hc h.blk) (by decide)
theorem EMv.nev (h : EMv b T cT v w F s) (k : Nat) (hk : v.ownBlock = some k) : k ≠ b ∧ k ≠ T := by
  obtain ⟨c, hc⟩ := owns_blk h.row hk
  refine ⟨?_, ?_⟩
  · rintro rfl; exact absurd (blk_ty hc h.blk) (by decide)
  · rintro rfl; obtain ⟨d, hd⟩ := h.tblk; exact absurd (blk_ty hc hd) (by decide)
theorem EMv.tT (h : EMv b T cT v w F s) {k : Nat} (hk : (Value.slice (some ⟨T, 0, none⟩) s.n cT).ownBlock = some k) : k = T := own_sl_eq hk
theorem EMv.local_fr {w' : World} {G : FP} (h : EMv b T cT v w F s) (hf : Fr G w w') (hn : ∀ k, F k → ¬ G k) : EMv b T cT v w' F s :=
  ⟨h.kind, h.ok, h.lo0, hf.at_ h.blk (hn b ((h.fp b).2 (.inl rfl))), owns_fr h.trow hf (fun k hk => by rw [h.tT hk]; exact hn T ((h.fp T).2 (.inr (.inl rfl)))), owns_fr h.row hf (fun k hk => hn k ((h.fp k).2 (.inr (.inr hk)))), h.fp⟩
theorem EMv.lt (h : EMv b T cT v w F s) (k : Nat) (hk : F k) : k < w.heap.size := by
  rcases (h.fp k).1 hk with rfl | rfl | hk
  · exact blk_lt h.blk
  · obtain ⟨c, hc⟩ := h.tblk; exact blk_lt hc
  · exact (h.row.lt k hk).2
end
theorem EM.local (b : Nat) : Local (EM b) := ⟨fun ⟨T, cT, v, h⟩ k hk => h.lt k hk, fun ⟨T, cT, v, h⟩ hf hn => ⟨T, cT, v, h.local_fr hf hn⟩⟩
theorem epHas {b T cT : Nat} {v : Value} {w : World} {F : FP} {s : RS} (h : EMv b T cT v w F s) (t : Int) : Calls Tryz.prog 105 #[.pointer (some ⟨b, 0, none⟩), .int .i64 t] w fun e w' => e = .returned (.bool (okTh s t)) ∧ w = w' := by
  refine cph fun R HR => ?_
  have k0 := (blk_cell h.blk 1).trans (rfl : _ = some (Value.slice (some ⟨T, 0, none⟩) s.n cT))
  rcases okTh_cases s t h.ok.n4 with ⟨h1, e⟩ | ⟨h1, h2, e⟩ | ⟨h1, h2, e⟩
  · rw [e] at HR
    have d1 : decide (0 ≤ t) = false := decide_eq_false (by omega)
    clear h e
    go_enter Tryz.func105, Tryz.ntmps105
    go_wp2_with fail
    exact HR.out _ _ ⟨rfl, rfl⟩
  · rw [e] at HR
    have d1 : decide (0 ≤ t) = true := decide_eq_true h2
    have d2 : decide (t < (s.n : Int)) = false := decide_eq_false (by omega)
    clear h e
    go_enter Tryz.func105, Tryz.ntmps105
    go_wp2_with fail
    exact HR.out _ _ ⟨rfl, rfl⟩
  · rw [e] at HR
    have d1 : decide (0 ≤ t) = true := decide_eq_true h1
    have d2 : decide (t < (s.n : Int)) = true := decide_eq_true h2
    clear h e
    go_enter Tryz.func105, Tryz.ntmps105
    go_wp2_with fail
    exact HR.out _ _ ⟨rfl, rfl⟩
theorem EMv.setT {b T cT : Nat} {v : Value} {w : World} {F : FP} {s s' : RS} (h : EMv b T cT v w F s) {t : Nat} (ht : t < s.n) (x : Int) (hok : Ok s') (hk : s'.kind = s.kind) (hn : s'.n = s.n) (h0 : s'.now = s.now) (hl : ∀ t, s'.ins t = true → 0 ≤ s'.lo t) (he : epl s' = epl s) (ho : ∀ i, i ≠ t → s'.ins i = s.ins i ∧ s'.lo i = s.lo i) (hx : (if s'.ins t then s'.lo t else -1) = x) :
    EMv b T cT v (w.setCell ⟨T, t, none⟩ (.int .i64 x)) F s' ∧ Fr F w (w.setCell ⟨T, t, none⟩ (.int .i64 x)) := by
  have hf : Fr (· = T) w (w.setCell ⟨T, t, none⟩ (.int .i64 x)) := (Fr.refl _ _).setCell _ _ (.inr rfl)
  refine ⟨⟨hk.trans h.kind, hok, hl, ?_, ?_, ?_, h.fp⟩, hf.mono fun i _ e => (h.fp i).2 (.inr (.inl e))⟩
  · rw [h0, hn]; exact hf.at_ h.blk (fun e => h.neT e.symm)
  · have h1 := (h.trow.stored t (.int .i64 x)).1
    rw [← List.map_set, thr_upd ht x s' hn ho hx, ← hn] at h1
    exact h1
  · rw [he, show s'.items.length = s.items.length by rw [← epl_len, he, epl_len]]
    exact owns_fr h.row hf (fun j hj e => (h.nev j hj).2 e)
set_option maxHeartbeats 1000000 in
theorem epIn {b : Nat} {w : World} {F : FP} {s : RS} (h : EM b w F s) (t : Int) : Calls Tryz.prog 58 #[.pointer (some ⟨b, 0, none⟩), .int .i64 t] w (OpP (EM b) w F (inS s t)) := by
  refine cph fun R HR => ?_
  have HQ := Lib.hid h
  obtain ⟨T, cT, v, hv⟩ := h
  have HH := Lib.hid (epHas hv t)
  have HV := Lib.hid hv
  cases ht : okTh s t
  · rw [ht] at HH
    have e : inS s t = ⟨s, [], 1⟩ := by simp [inS, ht]
    rw [e] at HR
    clear hv e
    go_enter Tryz.func58, Tryz.ntmps58
    go_wp2_with (go_at_call 105; refine HH.out.mono ?_; rintro e w' ⟨rfl, rfl⟩)
    exact HR.out _ _ (OpP.none HQ.out (Step.refl _ _))
  · rw [ht] at HH
    have hok := hv.ok.in_ t
    obtain ⟨k, rfl, hk⟩ := okTh_nat ht
    have e : inS s (k : Int) = ⟨(inS s (k : Int)).st, [], 0⟩ := by simp [inS, ht]
    rw [e] at HR
    have hst : EMv b T cT v (w.setCell ⟨T, k, none⟩ (.int .i64 s.now)) F (inS s (k : Int)).st ∧ Fr F w (w.setCell ⟨T, k, none⟩ (.int .i64 s.now)) := by
      refine hv.setT hk s.now hok (by simp [inS, ht]) (by simp [inS, ht]) (by simp [inS, ht]) (fun i hi => ?_) (by simp [inS, ht, epl]) (fun i hi => by simp [inS, ht, upd1, hi]) (by simp [inS, ht, upd1])
      by_cases e : i = k
      · have := hv.ok.now0; simpa [inS, ht, upd1, e] using this
      · have h1 : s.ins i = true := by simpa [inS, ht, upd1, e] using hi
        simpa [inS, ht, upd1, e] using hv.lo0 i h1
    have HS := Lib.hid hst
    have e0 := (blk_cell hv.blk 0).trans (rfl : _ = some (Value.int .i64 s.now))
    have e1 := (blk_cell hv.blk 1).trans (rfl : _ = some (Value.slice (some ⟨T, 0, none⟩) s.n cT))
    have eT : ∃ x, w.cell? ⟨T, k, none⟩ = some x := by
      rw [hv.trow.cellAt k (by omega)]
      exact ⟨.int .i64 (if s.ins k then s.lo k else -1), by rw [List.getElem?_map, thr_at hk]; rfl⟩
    have fT := hv.trow.frozenAt k
    obtain ⟨xT, eT⟩ := eT
    have hki : (k : Int) < (s.n : Int) := by omega
    have hbl := blk_lt hv.blk
    clear hv e hok hst ht
    go_enter Tryz.func58, Tryz.ntmps58
    go_wp2_with (go_at_call 105; refine HH.out.mono ?_; rintro e w' ⟨rfl, rfl⟩)
    go_region_law fail
    all_goals
      go_wp2_with fail
      exact HR.out _ _ (OpP.none ((EM.local b).fr ⟨T, cT, v, HS.out.1⟩ (G := fun _ => False) (Fr.refl _ _).drew (fun _ _ h => h)) ⟨HS.out.2.drew, fun j hj => .inl hj⟩)
theorem epl_out (s : RS) (t : Nat) : epl (outS0 s t) = epl s := by simp [epl, outS0]
set_option maxHeartbeats 1000000 in
theorem epOut {b : Nat} {w : World} {F : FP} {s : RS} (h : EM b w F s) (t : Int) : Calls Tryz.prog 59 #[.pointer (some ⟨b, 0, none⟩), .int .i64 t] w (OpP (EM b) w F (outS s t)) := by
  refine cph fun R HR => ?_
  have HQ := Lib.hid h
  obtain ⟨T, cT, v, hv⟩ := h
  have HH := Lib.hid (epHas hv t)
  have HV := Lib.hid hv
  cases ht : okTh s t
  · rw [ht] at HH
    have e : outS s t = ⟨s, [], 1⟩ := by simp [outS, ht]
    rw [e] at HR
    clear hv e
    go_enter Tryz.func59, Tryz.ntmps59
    go_wp2_with (go_at_call 105; refine HH.out.mono ?_; rintro e w' ⟨rfl, rfl⟩)
    exact HR.out _ _ (OpP.none HQ.out (Step.refl _ _))
  · rw [ht] at HH
    obtain ⟨k, rfl, hk⟩ := okTh_nat ht
    have hok := hv.ok.out0 hk
    have e : outS s (k : Int) = ⟨outS0 s k, [], 0⟩ := by simp [outS, ht, hv.kind]
    rw [e] at HR
    have hst : EMv b T cT v (w.setCell ⟨T, k, none⟩ (.int .i64 (-1))) F (outS0 s k) ∧ Fr F w (w.setCell ⟨T, k, none⟩ (.int .i64 (-1))) := by
      refine hv.setT hk (-1) hok rfl rfl rfl (fun i hi => ?_) (epl_out s k) (fun i hi => by simp [outS0, upd1, hi]) (by simp [outS0, upd1])
      by_cases e : i = k
      · simp [outS0, upd1, e] at hi
      · have h1 : s.ins i = true := by simpa [outS0, upd1, e] using hi
        simpa [outS0, upd1, e] using hv.lo0 i h1
    have HS := Lib.hid hst
    have e1 := (blk_cell hv.blk 1).trans (rfl : _ = some (Value.slice (some ⟨T, 0, none⟩) s.n cT))
    have eT : ∃ x, w.cell? ⟨T, k, none⟩ = some x := by
      rw [hv.trow.cellAt k (by omega)]
      exact ⟨.int .i64 (if s.ins k then s.lo k else -1), by rw [List.getElem?_map, thr_at hk]; rfl⟩
    have fT := hv.trow.frozenAt k
    obtain ⟨xT, eT⟩ := eT
    have hki : (k : Int) < (s.n : Int) := by omega
    have hbl := blk_lt hv.blk
    clear hv e hok hst ht
    go_enter Tryz.func59, Tryz.ntmps59
    go_wp2_with (go_at_call 105; refine HH.out.mono ?_; rintro e w' ⟨rfl, rfl⟩)
    exact HR.out _ _ (OpP.none ⟨T, cT, v, HS.out.1⟩ ⟨HS.out.2, fun j hj => .inl hj⟩)
theorem EMv.upd {b T cT : Nat} {v : Value} {w : World} {F : FP} {s s' : RS} (h : EMv b T cT v w F s) (hok : Ok s') (hk : s'.kind = s.kind) (hn : s'.n = s.n) (h0 : s'.now = s.now) (hi : s'.ins = s.ins) (hl : s'.lo = s.lo) (hit : s'.items = s.items) : EMv b T cT v w F s' := by
  have e1 : thr s' = thr s := by unfold thr; rw [hn, hi, hl]
  have e2 : epl s' = epl s := by unfold epl; rw [hit]
  exact ⟨hk.trans h.kind, hok, by rw [hi, hl]; exact h.lo0, by rw [hn, h0]; exact h.blk, by rw [hn, e1]; exact h.trow, by rw [hit, e2]; exact h.row, h.fp⟩
set_option maxHeartbeats 1000000 in
theorem epHold {b : Nat} {w : World} {F : FP} {s : RS} (h : EM b w F s) (t k a : Int) : Calls Tryz.prog 180 #[.pointer (some ⟨b, 0, none⟩), .int .i64 t, .int .i64 k, .int .i64 a] w (OpP (EM b) w F (holdS s t k a)) := by
  refine cph fun R HR => ?_
  have HQ := Lib.hid h
  obtain ⟨T, cT, v, hv⟩ := h
  have HH := Lib.hid (epHas hv t)
  have HV := Lib.hid hv
  cases ht : okTh s t
  · rw [ht] at HH
    have e : holdS s t k a = ⟨s, [], 1⟩ := by simp [holdS, ht]
    rw [e] at HR
    clear hv e
    go_enter Tryz.func180, Tryz.ntmps180
    go_wp2_with (go_at_call 105; refine HH.out.mono ?_; rintro e w' ⟨rfl, rfl⟩)
    exact HR.out _ _ (OpP.none HQ.out (Step.refl _ _))
  · rw [ht] at HH
    rcases holdOk_cases k a with ⟨h1, e⟩ | ⟨h1, h2, e⟩ | ⟨h1, h2, h3, e⟩ | ⟨h1, h2, h3, e⟩
    iterate 3
      have e2 : holdS s t k a = ⟨s, [], 1⟩ := by simp [holdS, e]
      rw [e2] at HR
      clear hv e e2 ht
      go_enter Tryz.func180, Tryz.ntmps180
      go_wp2_with (go_at_call 105; refine HH.out.mono ?_; rintro e w' ⟨rfl, rfl⟩)
      exact HR.out _ _ (OpP.none HQ.out (Step.refl _ _))
    have e2 : holdS s t k a = ⟨holdS0 s t.toNat k.toNat a, [], 0⟩ := by simp [holdS, ht, e, hv.kind]
    rw [e2] at HR
    obtain ⟨t', rfl, ht'⟩ := okTh_nat ht
    have HO := Lib.hid (hv.ok.hold0 (t := t') (k := k.toNat) ht' (by omega) h3)
    clear hv e e2 ht
    go_enter Tryz.func180, Tryz.ntmps180
    go_wp2_with (go_at_call 105; refine HH.out.mono ?_; rintro e w' ⟨rfl, rfl⟩)
    exact HR.out _ _ (OpP.none ⟨T, cT, v, HV.out.upd HO.out rfl rfl rfl rfl rfl rfl⟩ (Step.refl _ _))
theorem epBorn {b : Nat} {w : World} {F : FP} {s : RS} (h : EM b w F s) (a : Int) : Calls Tryz.prog 178 #[.pointer (some ⟨b, 0, none⟩), .int .i64 a] w (OpE (EM b) w F (bornS s a)) := by
  refine cph fun R HR => ?_
  have HQ := Lib.hid h
  obtain ⟨T, cT, v, hv⟩ := h
  have HH := Lib.hid (epHas hv 0)
  rw [okTh_zero hv.ok] at HH
  by_cases ha : 0 < a
  · have e : bornS s a = ⟨s, [], 0⟩ := by simp [bornS, ha, hv.kind]
    rw [e] at HR
    have ha2 : ¬ a ≤ 0 := by omega
    clear hv e
    go_enter Tryz.func178, Tryz.ntmps178
    go_wp2_with (go_at_call 105; refine HH.out.mono ?_; rintro e w' ⟨rfl, rfl⟩)
    exact HR.out _ _ ⟨F, rfl, HQ.out, Step.refl _ _⟩
  · have e : bornS s a = ⟨s, [], 1⟩ := by simp [bornS, ha]
    rw [e] at HR
    have ha2 : a ≤ 0 := by omega
    clear hv e
    go_enter Tryz.func178, Tryz.ntmps178
    go_wp2_with (go_at_call 105; refine HH.out.mono ?_; rintro e w' ⟨rfl, rfl⟩)
    exact HR.out _ _ ⟨F, rfl, HQ.out, Step.refl _ _⟩
set_option maxRecDepth 100000 in
set_option maxHeartbeats 4000000 in
theorem epWaiting {b : Nat} {w : World} {F : FP} {s : RS} (h : EM b w F s) (hs : s.items.length ≤ 100000) : Calls Tryz.prog 75 #[.pointer (some ⟨b, 0, none⟩)] w (WaitP w s) := by
  refine cph fun R HR => ?_
  obtain ⟨T, cT, v, hv⟩ := h
  have HH := Lib.hid (epHas hv 0)
  rw [okTh_zero hv.ok] at HH
  have k5 := (blk_cell hv.blk 2).trans (rfl : _ = some v)
  have HV := Lib.hid hv
  obtain ⟨i0, hi, hz0, hz1, hz2⟩ := info_parts info3x
  have HI := Lib.hid (And.intro hi (And.intro hz0 (And.intro hz1 hz2)))
  clear hi hz0 hz1 hz2
  have hsh : ∃ A cap, v = .slice A s.items.length cap ∧ (s.items ≠ [] → ∃ g, A = some ⟨g, 0, none⟩) := by
    rcases own_val hv.row with ⟨rfl, h0⟩ | ⟨g, cap, rfl, _⟩
    · have : s.items = [] := List.eq_nil_of_length_eq_zero h0
      exact ⟨none, 0, by rw [h0], fun h => absurd this h⟩
    · exact ⟨_, cap, rfl, fun _ => ⟨g, rfl⟩⟩
  obtain ⟨A, cap, rfl, hA⟩ := hsh
  have HA := Lib.hid hA
  clear hv hA
  go_enter Tryz.func75, Tryz.ntmps75
  go_wp2_with (go_at_call 105; refine HH.out.mono ?_; rintro e w' ⟨rfl, rfl⟩)
  go_loopw [3, 14] (fun u i wr => ∃ k : Nat, k ≤ s.items.length ∧ i = .int .i64 k ∧ Hid (wr.ownsRow w.heap.size 3 1 u k ((s.items.map fun x => Value.int .i64 x.addr).take k) ∧ Grow w wr)) (fun _ i _ => s.items.length - (intOf i).toNat)
  case atStart => exact ⟨0, by omega, rfl, World.ownsRow_nil _ _ _ _, Grow.refl _⟩
  case round =>
    obtain ⟨k, hk, rfl, HO⟩ := hrel
    by_cases hlt : k < s.items.length
    · obtain ⟨x, hx⟩ : ∃ x, s.items[k]? = some x := ⟨s.items[k], by simp [hlt]⟩
      have hx2 : (epl s)[k]? = some (x.addr, x.at_) := by unfold epl; rw [List.getElem?_map, hx]; rfl
      obtain ⟨g, rfl⟩ := HA.out (by intro e; rw [e] at hlt; simp at hlt)
      have c0 := HO.out.2.cell ((own_at enc2_len HV.out.row hx2 (o := 0) (by omega)).trans (rfl : _ = some (Value.int .i64 x.addr)))
      have c1 := HO.out.2.cell ((own_at enc2_len HV.out.row hx2 (o := 1) (by omega)).trans (rfl : _ = some (Value.int .i64 x.at_)))
      have hki : (k : Int) < (s.items.length : Int) := by omega
      have hgs := HO.out.2.size
      have HX := Lib.hid hx
      clear hx hx2
      rw [Nat.add_zero] at c0
      have hnw := cell_one_new (wr.alloc (Obj.cells #[.int .i64 x.addr, .int .i64 x.at_] 144)) (.int .i64 x.addr) 3
      rw [size_alloc] at hnw
      have HNW := Lib.hid hnw
      clear hnw
      go_wp2_with (at_builtin; refine wpList_append_own_at _ rfl (.tmp 18) (.tmp 21) 34 rfl w.heap.size 3 i0 (.int .i64 0) 1 8 Tryz.underlying34 HI.out.1 HI.out.2.1 HI.out.2.2.1 HI.out.2.2.2 rfl (by decide) _ _ _ rfl ((HO.out.1.alloc _).alloc _) ⟨wr.heap.size + 1, 0, none⟩ 1 1 [.int .i64 x.addr] rfl rfl HNW.out (by simp [Value.oneCell']) (by unfold maxLen; omega) (by omega) (by simp; omega) ?_)
      intro v' w3 hown hgrow _ hat
      have H7 : Hid (w3.ownsRow w.heap.size 3 1 v' (k + 1) ((s.items.map fun x => Value.int .i64 x.addr).take (k + 1)) ∧ Grow w w3) := ⟨by
        rw [List.take_add_one, List.getElem?_map, HX.out]; exact hown, ((HO.out.2.alloc _).alloc _).grown hgrow (fun j e => (HO.out.1.lt j e).1)⟩
      clear hown hgrow hat
      go_wp2_with fail
      go_roundw
      case rel => exact ⟨k + 1, by omega, by go_num, H7.out⟩
      case measure => simp [intOf] <;> omega
    · obtain rfl : k = s.items.length := by omega
      have hki : ¬ (s.items.length : Int) < (s.items.length : Int) := by omega
      go_wp2_with fail
      refine HR.out _ _ ⟨_, rfl, ?_, HO.out.2⟩
      have := HO.out.1
      rwa [List.take_of_length_le (by simp)] at this
end Go.Proofs.YtcgcljmnnjalpaaGreat
set_option linter.unusedVariables false
set_option linter.unusedSimpArgs false
namespace Go.Proofs.YtcgcljmnnjalpaaGreat
open Go.RowKit Go.Kx
open Go.ChangeMaps (setBlock)
/-- What a predicate answers, the world left alone. -/
def PredI (g : Nat) (lb : Array Value) (p : Int → Bool) (w : World) (l : List Int) : Prop :=
  ∀ x ∈ l, Calls Tryz.prog g (#[.int .i64 x] ++ lb) w fun e w' => e = .returned (.bool (p x)) ∧ w = w'
def fstI (p : Int → Bool) : List Int → Int
  | [] => -1
  | x :: l => if p x then 0 else if fstI p l < 0 then -1 else fstI p l + 1
theorem fstI_ge (p : Int → Bool) : ∀ l, -1 ≤ fstI p l
  | [] => by simp [fstI]
  | x :: l => by
    have := fstI_ge p l
    unfold fstI
    split
    · omega
    · split <;> omega
theorem fstI_stop {p : Int → Bool} {l : List Int} {k : Nat} (hk : k < l.length) (h : ∀ x ∈ l.take k, p x = false) (hp : p l[k] = true) : fstI p l = k := by
  induction l generalizing k with
  | nil => simp at hk
  | cons x l ih =>
    cases k with
    | zero => simp at hp; simp [fstI, hp]
    | succ k =>
      have h0 : p x = false := h x (by simp)
      have := ih (k := k) (by simpa using hk) (fun y hy => h y (by simp [hy])) (by simpa using hp)
      unfold fstI
      rw [if_neg (by simp [h0]), this, if_neg (by omega)]
      simp
theorem fstI_none {p : Int → Bool} {l : List Int} (h : ∀ x ∈ l, p x = false) : fstI p l = -1 := by
  induction l with
  | nil => rfl
  | cons x l ih =>
    unfold fstI
    rw [if_neg (by simp [h x (by simp)]), ih fun y hy => h y (by simp [hy])]
    rfl
theorem takeI {p : Int → Bool} {l : List Int} {k : Nat} (hk : k < l.length) (h : ∀ x ∈ l.take k, p x = false) (hp : p l[k] = false) : ∀ x ∈ l.take (k + 1), p x = false := by
  rw [List.take_succ_eq_append_getElem hk]
  intro x hx
  rcases List.mem_append.1 hx with h1 | h1
  · exact h x h1
  · rw [List.mem_singleton.1 h1]; exact hp
theorem fstI_any (p : Int → Bool) (l : List Int) : decide (0 ≤ fstI p l) = l.any p := by
  induction l with
  | nil => rfl
  | cons x l ih =>
    have := fstI_ge p l
    rw [List.any_cons, ← ih, show fstI p (x :: l) = if p x then 0 else if fstI p l < 0 then -1 else fstI p l + 1 from rfl]
    by_cases h : p x
    · simp [h]
    · rw [if_neg h, show p x = false by simpa using h, Bool.false_or]
      by_cases h2 : fstI p l < 0
      · rw [if_pos h2, decide_eq_false (by omega), decide_eq_false (by omega)]
      · rw [if_neg h2, decide_eq_true (by omega), decide_eq_true (by omega)]
theorem indexF_any {w : World} {A : Option Addr} {cap : Nat} {l : List Int} {g : Nat} {lb : Array Value} {p : Int → Bool} (h : IntsAt w A l) (hp : PredI g lb p w l) (eg : ∀ args w, (callFunc g args).run Tryz.prog w = .ok (.enter g args) w) (hl : l.length ≤ 20000000000000) :
    Calls Tryz.prog 147 #[.slice A l.length cap, .func (.func g) #[] lb] w fun e w' => e = .returned (.int .i64 (fstI p l)) ∧ w = w' := by
  refine cph fun R HR => ?_
  have H := Lib.hid h
  have HP := Lib.hid hp
  clear h hp
  go_enter Tryz.func147, Tryz.ntmps147
  go_wp2_with fail
  go_loop [8] (fun i => ∃ k : Nat, k ≤ l.length ∧ i = .int .i64 k ∧ Hid (∀ x ∈ l.take k, p x = false)) (fun i => l.length - (intOf i).toNat)
  case atStart => exact ⟨0, Nat.zero_le _, rfl, fun x hx => by simp at hx⟩
  case round =>
    obtain ⟨k, hk, rfl, HK⟩ := hrel
    by_cases hlt : k < l.length
    · obtain ⟨b, off, rfl, hc⟩ := H.out.at_ hlt
      have hki : (k : Int) < (l.length : Int) := by omega
      have hq := Lib.hid (HP.out l[k] (List.getElem_mem hlt))
      obtain ⟨x, hx⟩ : ∃ x, x = l[k] := ⟨_, rfl⟩
      rw [← hx] at hc hq
      have HX := Lib.hid hx
      clear hx
      cases hpx : p x
      · rw [hpx] at hq
        have HF := Lib.hid hpx
        clear hpx
        go_wp2_with (go_at_fn g; refine hq.out.mono ?_; rintro e w' ⟨rfl, rfl⟩)
        go_round
        case rel => exact ⟨k + 1, by omega, by go_num, takeI hlt HK.out (by rw [← HX.out]; exact HF.out)⟩
        case measure => simp [intOf]; omega
      · rw [hpx] at hq
        have HF := Lib.hid hpx
        clear hpx
        have e := fstI_stop hlt HK.out (by rw [← HX.out]; exact HF.out)
        rw [e] at HR
        clear e
        go_wp2_with (go_at_fn g; refine hq.out.mono ?_; rintro e w' ⟨rfl, rfl⟩)
        exact HR.out _ _ ⟨rfl, rfl⟩
    · have hki : ¬ (k : Int) < (l.length : Int) := by omega
      have e := fstI_none (p := p) (l := l) fun x hx => HK.out x (by rw [List.take_of_length_le (by omega)]; exact hx)
      rw [e] at HR
      clear e
      go_wp2_with fail
      exact HR.out _ _ ⟨rfl, rfl⟩
theorem containsF_any {w : World} {A : Option Addr} {cap : Nat} {l : List Int} {g : Nat} {lb : Array Value} {p : Int → Bool} (h : IntsAt w A l) (hp : PredI g lb p w l) (eg : ∀ args w, (callFunc g args).run Tryz.prog w = .ok (.enter g args) w) (hl : l.length ≤ 20000000000000) :
    Calls Tryz.prog 137 #[.slice A l.length cap, .func (.func g) #[] lb] w fun e w' => e = .returned (.bool (l.any p)) ∧ w = w' := by
  refine cph fun R HR => ?_
  have HI := Lib.hid (indexF_any (cap := cap) h hp eg hl)
  rw [← fstI_any] at HR
  generalize fstI p l = i at HI HR
  clear h hp
  go_enter Tryz.func137, Tryz.ntmps137
  go_wp2_with (go_at_call 147; refine HI.out.mono ?_; rintro e w' ⟨rfl, rfl⟩)
  exact HR.out _ _ ⟨rfl, rfl⟩
theorem eg136 (args : Array Value) (w : World) : (callFunc 136 args).run Tryz.prog w = .ok (.enter 136 args) w := by kernel_rfl
theorem eg139 (args : Array Value) (w : World) : (callFunc 139 args).run Tryz.prog w = .ok (.enter 139 args) w := by kernel_rfl
def behI (e0 x : Int) : Bool := decide (x ≠ -1) && decide (x ≠ e0)
theorem epTry1 {w : World} {b B now : Nat} {e0 : Int} {l : List Int} (h1 : w.cell? ⟨B, 0, none⟩ = some (.pointer (some ⟨b, 0, none⟩))) (h2 : w.cell? ⟨b, 0, none⟩ = some (.int .i64 e0)) :
    PredI 136 #[.pointer (some ⟨B, 0, none⟩)] (behI e0) w l := by
  intro x _
  refine cph fun R HR => ?_
  by_cases c1 : x = -1
  · subst c1
    rw [show behI e0 (-1) = false by simp [behI]] at HR
    go_enter Tryz.func136, Tryz.ntmps136
    go_wp2_with fail
    exact HR.out _ _ ⟨rfl, rfl⟩
  · have d1 : (x == -1) = false := by simpa using c1
    by_cases c2 : x = e0
    · subst c2
      rw [show behI x x = false by simp [behI]] at HR
      go_enter Tryz.func136, Tryz.ntmps136
      go_wp2_with fail
      exact HR.out _ _ ⟨rfl, rfl⟩
    · have dd : (x != -1 && x != e0) = true := by simp [c1, c2]
      have DD := Lib.hid dd
      rw [show behI e0 x = true by simp [behI, c1, c2]] at HR
      clear dd d1
      go_enter Tryz.func136, Tryz.ntmps136
      go_wp2_with fail
      exact HR.out _ _ ⟨by show Ending.returned (.bool (x != -1 && x != e0)) = _; rw [DD.out], rfl⟩
/-- What was given back of the first n. -/
def bkJ (p : P2 → Bool) (f : P2 → Int) (l : List P2) (n : Nat) : List Int := ((l.take n).filter p).map f
theorem bkJ_succ {p : P2 → Bool} {f : P2 → Int} {l : List P2} {n : Nat} {x : P2} (h : l[n]? = some x) : bkJ p f l (n + 1) = if p x then bkJ p f l n ++ [f x] else bkJ p f l n := by
  unfold bkJ
  rw [List.take_add_one, h, List.filter_append, List.map_append]
  cases hg : p x <;> simp [hg]
theorem bkJ_len (p : P2 → Bool) (f : P2 → Int) (l : List P2) (n : Nat) : (bkJ p f l n).length ≤ n := by
  unfold bkJ; rw [List.length_map]
  exact Nat.le_trans (List.length_filter_le _ _) (List.length_take_le _ _)
/-- The state between two questions: the box Bk holds what was given back. -/
def TJ (w0 : World) (Bk : Nat) (G : Nat → Prop) (p : P2 → Bool) (f : P2 → Int) (l : List P2) (n : Nat) (W : World) : Prop :=
  ∃ u, W.heap[Bk]? = some (.cells #[u] 34 (0, 0)) ∧ W.ownsRow w0.heap.size 3 1 u (bkJ p f l n).length ((bkJ p f l n).map (Value.int .i64)) ∧ Fr (fun k => k = Bk ∨ G k) w0 W
theorem TJ.fr {w0 : World} {Bk : Nat} {G : Nat → Prop} {p : P2 → Bool} {f : P2 → Int} {l : List P2} (hG : ∀ k, G k → k < w0.heap.size) (hB : ¬ G Bk) {n : Nat} {W W' : World} (h : TJ w0 Bk G p f l n W) (hf : Fr G W W') : TJ w0 Bk G p f l n W' := by
  obtain ⟨u, h1, h2, h3⟩ := h
  exact ⟨u, hf.at_ h1 hB, owns_fr h2 hf (fun k hk e => by have := (h2.lt k hk).1; have := hG k e; omega), Fr.then h3 hf (fun i _ h => .inr h)⟩
/-- One that is given back is put into the box: what is left behind. -/
theorem TJ.put {w0 : World} {Bk : Nat} {G : Nat → Prop} {p : P2 → Bool} {f : P2 → Int} {l : List P2} (hG : ∀ k, G k → k < w0.heap.size) (hB : ¬ G Bk) (hBl : Bk < w0.heap.size) {n : Nat} {W0 W Wx w3 : World} {u v' : Value} {x : P2} (hx : l[n]? = some x) (hp : p x = true)
    (h0 : W0.ownsRow w0.heap.size 3 1 u (bkJ p f l n).length ((bkJ p f l n).map (Value.int .i64))) (h3 : Fr (fun k => k = Bk ∨ G k) w0 W) (hWx : Grow W Wx) (hbW : W.heap[Bk]? = some (.cells #[u] 34 (0, 0))) (hs : w0.heap.size ≤ W0.heap.size)
    (hown : w3.ownsRow w0.heap.size 3 1 v' ((bkJ p f l n).length + 1) ((bkJ p f l n).map (Value.int .i64) ++ [Value.int .i64 (f x)])) (hgr : Wx.grownBy w3 u.ownBlock) :
    TJ w0 Bk G p f l (n + 1) (w3.setCell ⟨Bk, 0, none⟩ v') ∧ Fr (fun k => k < W0.heap.size ∧ ¬ G k) W (w3.setCell ⟨Bk, 0, none⟩ v') := by
  have hfg := fr_grown hgr
  have hfb : Fr (· = Bk) w3 (w3.setCell ⟨Bk, 0, none⟩ v') := (Fr.refl _ _).setCell _ _ (.inr rfl)
  have hu : ∀ j, u.ownBlock = some j → w0.heap.size ≤ j ∧ j < W0.heap.size := fun j hj => h0.lt j hj
  have hb3 : w3.heap[Bk]? = some (.cells #[u] 34 (0, 0)) := hfg.at_ (hWx.at_ hbW) (fun e => by have := hu Bk e; omega)
  have e : bkJ p f l (n + 1) = bkJ p f l n ++ [f x] := by rw [bkJ_succ hx, if_pos hp]
  refine ⟨⟨v', blk_set hb3 0 v', ?_, ?_⟩, ?_⟩
  · rw [e, List.map_append, List.length_append]
    exact owns_fr hown hfb (fun j hj e => by have := (hown.lt j hj).1; omega)
  · exact ((fr_grow h3 hWx).grown hgr (fun j hj => .inl (hu j hj).1)).then hfb (fun i _ h => .inl h)
  · refine Fr.then (Fr.grown (S := fun k => k < W0.heap.size ∧ ¬ G k) (hWx.mono fun i _ h => h.elim) hgr (fun j hj => .inr ⟨(hu j hj).2, fun h => by have := hG j h; have := (hu j hj).1; omega⟩)) hfb (fun i hi (h : i = Bk) => ?_)
    subst h
    exact ⟨by omega, hB⟩
def oldE (now : Int) (x : P2) : Bool := decide (x.2 ≤ now - 2)
set_option maxRecDepth 100000 in
set_option maxHeartbeats 4000000 in
theorem epTry2 {w0 : World} {b B Bk : Nat} {now : Int} {G : Nat → Prop} {l : List P2} (hG : ∀ k, G k → k < w0.heap.size) (hBk : ¬ G Bk) (hBl : Bk < w0.heap.size) (hB : ¬ G B ∧ B ≠ Bk) (hb : ¬ G b ∧ b ≠ Bk)
    (h1 : w0.cell? ⟨B, 0, none⟩ = some (.pointer (some ⟨b, 0, none⟩))) (h2 : w0.cell? ⟨b, 0, none⟩ = some (.int .i64 now)) (hn : 0 ≤ now ∧ now ≤ 2000000) (hl : l.length ≤ 200000) :
    PredJ 139 #[.pointer (some ⟨B, 0, none⟩), .pointer (some ⟨Bk, 0, none⟩)] G (oldE now) l (TJ w0 Bk G (oldE now) (·.1) l) := by
  intro n x W0 W hx hJ hfr
  refine cph fun R HR => ?_
  obtain ⟨u, j1, j2, j3⟩ := hJ
  have hnl : n < l.length := (List.getElem?_eq_some_iff.1 hx).1
  have hW : Fr (fun k => k = Bk ∨ G k) w0 W := Fr.then j3 hfr (fun i _ h => .inr h)
  have hcB : W.cell? ⟨B, 0, none⟩ = some (.pointer (some ⟨b, 0, none⟩)) := (World.cell?_of_block (w := w0) (hW.blk B (World.block_lt_of_cell? w0 _ h1) (fun h => h.elim hB.2 hB.1))).trans h1
  have hcb : W.cell? ⟨b, 0, none⟩ = some (.int .i64 now) := (World.cell?_of_block (w := w0) (hW.blk b (World.block_lt_of_cell? w0 _ h2) (fun h => h.elim hb.2 hb.1))).trans h2
  have hbk := hfr.at_ j1 hBk
  have hkk := (blk_cell hbk 0).trans (rfl : _ = some u)
  have hfk := blk_free hbk 0
  have hru := owns_fr j2 hfr (fun k hk e => by have := (j2.lt k hk).1; have := hG k e; omega)
  have hrl := bkJ_len (oldE now) (·.1) l n
  have HJ := Lib.hid (And.intro j2 (And.intro hW (And.intro hbk (And.intro hru (And.intro j1 (And.intro j3.size hfr))))))
  have HX := Lib.hid hx
  obtain ⟨i0, hi, hz0, hz1, hz2⟩ := info_parts info3x
  have HI := Lib.hid (And.intro hi (And.intro hz0 (And.intro hz1 hz2)))
  obtain ⟨A, m, c, rfl⟩ := own_sl j2
  have hBs := World.block_lt_of_cell? W _ hcB
  have hbs := World.block_lt_of_cell? W _ hcb
  have hks := World.block_lt_of_cell? W _ hkk
  have hgs := hfr.size
  have hw0 := j3.size
  have HG := Lib.hid (And.intro hG (And.intro hBk hBl))
  have hnA := blk_new W (Obj.cells #[.int .i64 x.1, .int .i64 x.2] 144)
  have hgA := (Grow.refl W).alloc (Obj.cells #[.int .i64 x.1, .int .i64 x.2] 144)
  obtain ⟨wA, hwA⟩ : ∃ wA, W.alloc (Obj.cells #[.int .i64 x.1, .int .i64 x.2] 144) = wA := ⟨_, rfl⟩
  rw [hwA] at hnA hgA
  have hsA : wA.heap.size = W.heap.size + 1 := by rw [← hwA]; exact size_alloc _ _
  have a0 := (blk_cell hnA 0).trans (rfl : _ = some (Value.int .i64 x.1))
  have a1 := (blk_cell hnA 1).trans (rfl : _ = some (Value.int .i64 x.2))
  have aB := hgA.cell hcB
  have ab := hgA.cell hcb
  have ak := hgA.cell hkk
  have afk := blk_free (hgA.at_ hbk) 0
  have HA := Lib.hid hgA
  clear hx j1 j2 j3 hW hbk hru hi hz0 hz1 hz2 hnA hgA hfr hG hBk hBl hB hb h1 h2
  by_cases hc : x.2 ≤ now - 2
  · have HC := Lib.hid hc
    have hpx : oldE now x = true := decide_eq_true hc
    have HPX := Lib.hid hpx
    rw [hpx] at HR
    clear hpx
    go_enter Tryz.func139, Tryz.ntmps139
    go_upto_region 1 with fail
    go_quiet (fail)
    have hgX : Grow W (wA.drewN nq) := HA.out.drewN nq
    have x0 : (wA.drewN nq).cell? ⟨W.heap.size, 0, none⟩ = some (.int .i64 x.1) := a0
    have xk : (wA.drewN nq).cell? ⟨Bk, 0, none⟩ = some (.slice A m c) := ak
    have hsX : (wA.drewN nq).heap.size = W.heap.size + 1 := hsA
    clear a0 a1 aB ab ak afk
    generalize wA.drewN nq = wX at hgX x0 xk hsX ⊢
    have HGX := Lib.hid hgX
    have hnw := cell_one_new wX (.int .i64 x.1) 3
    rw [hsX] at hnw
    have HNW := Lib.hid hnw
    clear hgX hnw
    go_wp2_with (at_builtin; refine wpList_append_own_at _ rfl (.tmp 15) (.tmp 18) 34 rfl w0.heap.size 3 i0 (.int .i64 0) 1 8 Tryz.underlying34 HI.out.1 HI.out.2.1 HI.out.2.2.1 HI.out.2.2.2 rfl (by decide) _ _ _ rfl ((owns_grow HJ.out.2.2.2.1 HGX.out).alloc _) ⟨W.heap.size + 1, 0, none⟩ 1 1 [.int .i64 x.1] rfl rfl HNW.out (by simp [Value.oneCell']) (by unfold maxLen; omega) (by omega) (by simp; omega) ?_; intro v1 w3 hown hgrow _ hat; obtain ⟨g, cap3, rfl⟩ := own_some hown; have hb3 : w3.heap[Bk]? = some (.cells #[.slice A m c] 34 (0, 0)) := (fr_grown hgrow).at_ (blk_alloc' _ (HGX.out.at_ HJ.out.2.2.1)) (fun e => by have := (HJ.out.2.2.2.1.lt Bk e).1; have := HG.out.2.2; omega); have k3 := (blk_cell hb3 0).trans (rfl : _ = some (Value.slice A m c)); have f3 := blk_free hb3 0; have H8 := Lib.hid (And.intro hown hgrow); clear hown hgrow hat hb3)
    obtain ⟨p1, p2⟩ := TJ.put (w0 := w0) (W0 := W0) (W := W) (Wx := wX.alloc (.cells #[.int .i64 x.1] 3)) (u := .slice A m c) (x := x) (f := (·.1)) HG.out.1 HG.out.2.1 HG.out.2.2 HX.out HPX.out HJ.out.1 HJ.out.2.1 (HGX.out.alloc _) HJ.out.2.2.1 HJ.out.2.2.2.2.2.1 H8.out.1 H8.out.2
    exact HR.out _ _ ⟨rfl, p1, p2⟩
  · have HC := Lib.hid hc
    have hpx : oldE now x = false := decide_eq_false hc
    have HPX := Lib.hid hpx
    rw [hpx] at HR
    clear hpx
    go_enter Tryz.func139, Tryz.ntmps139
    go_upto_region 1 with fail
    go_quiet (fail)
    go_wp2_with fail
    refine HR.out _ _ ⟨rfl, ⟨_, HA.out.at_ HJ.out.2.2.1, ?_, fr_grow HJ.out.2.1 (HA.out.drewN nq)⟩, (HA.out.drewN nq).mono fun i _ h => h.elim⟩
    rw [bkJ_succ HX.out, HPX.out]
    exact owns_grow HJ.out.2.2.2.1 (HA.out.drewN nq)
end Go.Proofs.YtcgcljmnnjalpaaGreat
set_option linter.unusedVariables false
set_option linter.unusedSimpArgs false
namespace Go.Proofs.YtcgcljmnnjalpaaGreat
open Go.RowKit Go.Kx
open Go.ChangeMaps (setBlock)
theorem freeE {s : RS} (h : s.kind = 2) (x : Itm) : freeB s x = oldE s.now (x.addr, x.at_) := by
  unfold freeB oldE
  rw [if_neg (by omega), if_pos h]
theorem sweepE {s : RS} (h : s.kind = 2) : (sweepS s fun _ => true).back = bkJ (oldE s.now) (·.1) (epl s) (epl s).length ∧ epl (sweepS s fun _ => true).st = keepA (oldE s.now) (epl s) := by
  have e : ∀ x : Itm, (true && freeB s x) = oldE s.now (x.addr, x.at_) := fun x => by rw [Bool.true_and, freeE h]
  unfold bkJ keepA
  rw [List.take_length]
  unfold sweepS epl
  simp only [e]
  constructor
  · rw [List.filter_map, List.map_map]; rfl
  · rw [List.filter_map]; rfl
theorem behind_any {s : RS} (hok : Ok s) (h0 : ∀ t, s.ins t = true → 0 ≤ s.lo t) : (thr s).any (behI s.now) = behindB s := by
  rw [Bool.eq_iff_iff, List.any_eq_true]
  unfold behindB
  rw [List.any_eq_true]
  constructor
  · rintro ⟨x, hx, hp⟩
    obtain ⟨t, ht, rfl⟩ := List.mem_map.1 hx
    have ht' := List.mem_range.1 ht
    have := hok.n4
    refine ⟨t, List.mem_range.2 (by omega), ?_⟩
    unfold behI at hp
    cases hi : s.ins t
    · rw [hi] at hp; simp at hp
    · rw [hi] at hp
      simp at hp
      simp [hp.2]
  · rintro ⟨t, ht, hp⟩
    cases hi : s.ins t
    · rw [hi] at hp; simp at hp
    · rw [hi] at hp
      have hn : t < s.n := by
        rcases Nat.lt_or_ge t s.n with h | h
        · exact h
        · have := hok.ins t h; rw [hi] at this; cases this
      refine ⟨s.lo t, List.mem_map.2 ⟨t, List.mem_range.2 hn, by rw [hi]; rfl⟩, ?_⟩
      have := h0 t hi
      unfold behI
      simp at hp
      simp [hp]
      omega
set_option maxRecDepth 100000 in
set_option maxHeartbeats 8000000 in
theorem epTry {b : Nat} {w : World} {F : FP} {s : RS} (h : EM b w F s) (hs : s.items.length ≤ 200000) (hn : s.now ≤ 1500000) : Calls Tryz.prog 107 #[.pointer (some ⟨b, 0, none⟩)] w (OpL (EM b) w F (tryS s)) := by
  refine cph fun R HR => ?_
  have HQ := Lib.hid h
  obtain ⟨T, cT, v, hv⟩ := h
  have HV := Lib.hid hv
  have h0 := hv.ok.now0
  have hbl := blk_lt hv.blk
  -- the box of m
  have hg1 := (Grow.refl w).alloc (Obj.cells #[.pointer (some ⟨b, 0, none⟩)] 94)
  have hn1 := blk_new w (Obj.cells #[.pointer (some ⟨b, 0, none⟩)] 94)
  have hs1 := size_alloc w (Obj.cells #[.pointer (some ⟨b, 0, none⟩)] 94)
  obtain ⟨w1, hw1⟩ : ∃ w1, w.alloc (Obj.cells #[.pointer (some ⟨b, 0, none⟩)] 94) = w1 := ⟨_, rfl⟩
  rw [hw1] at hg1 hn1 hs1
  have hb1 := hg1.at_ hv.blk
  have kB := (blk_cell hn1 0).trans (rfl : _ = some (Value.pointer (some ⟨b, 0, none⟩)))
  have k0 := (blk_cell hb1 0).trans (rfl : _ = some (Value.int .i64 s.now))
  have k1 := (blk_cell hb1 1).trans (rfl : _ = some (Value.slice (some ⟨T, 0, none⟩) s.n cT))
  have k2 := (blk_cell hb1 2).trans (rfl : _ = some v)
  have f0 := blk_free hb1 0
  obtain ⟨A0, c0, hve, hints, _, _⟩ := ints_of_own hv.trow
  have hA0 : A0 = some ⟨T, 0, none⟩ ∧ cT = c0 := by
    rw [thr_len] at hve
    injection hve with e1 e2 e3
    exact ⟨e1.symm, e3⟩
  obtain ⟨rfl, rfl⟩ := hA0
  have hcf := containsF_any (cap := cT) (hints.grow hg1) (epTry1 (now := 0) (l := thr s) kB k0) eg136 (by rw [thr_len]; have := hv.ok.n4; omega)
  rw [behind_any hv.ok hv.lo0, thr_len] at hcf
  have HC := Lib.hid hcf
  have H1 := Lib.hid (And.intro hg1 (And.intro hn1 (And.intro hs1 hb1)))
  cases hbe : behindB s
  · rw [hbe] at HC
    have e2 : tryS s = sweepS { s with now := s.now + 1 } (fun _ => true) := by unfold tryS; rw [hbe]; rfl
    rw [e2] at HR
    -- the world at the region of the call
    have hb2 := blk_set hb1 0 (.int .i64 (s.now + 1))
    have hf2 : Fr (· = b) w1 (w1.setCell ⟨b, 0, none⟩ (.int .i64 (s.now + 1))) := (Fr.refl _ _).setCell _ _ (.inr rfl)
    obtain ⟨w2, hw2⟩ : ∃ w2, w1.setCell ⟨b, 0, none⟩ (.int .i64 (s.now + 1)) = w2 := ⟨_, rfl⟩
    rw [hw2] at hb2 hf2
    have hs2 : w2.heap.size = w.heap.size + 1 := by rw [← hw2, ← hs1]; exact size_set _ _ _
    have hn3 := blk_new w2 (Obj.cells #[.slice none 0 0] 34)
    have hg3 := (Grow.refl w2).alloc (Obj.cells #[.slice none 0 0] 34)
    have hs3 := size_alloc w2 (Obj.cells #[.slice none 0 0] 34)
    rw [hs2] at hn3 hs3
    obtain ⟨w3, hw3⟩ : ∃ w3, w2.alloc (Obj.cells #[.slice none 0 0] 34) = w3 := ⟨_, rfl⟩
    rw [hw3] at hn3 hg3 hs3
    have hb3 := hg3.at_ hb2
    have kB3 := hg3.cell ((blk_cell (hf2.at_ hn1 (by omega)) 0).trans (rfl : _ = some (Value.pointer (some ⟨b, 0, none⟩))))
    have m0 := (blk_cell hb3 0).trans (rfl : _ = some (Value.int .i64 (s.now + 1)))
    have m2 := (blk_cell hb3 2).trans (rfl : _ = some v)
    have g2 := blk_free hb3 2
    have hrow3 : w3.ownsRow 0 144 2 v (epl s).length ((epl s).flatMap enc2) := by
      rw [epl_len]
      exact owns_grow (owns_fr (owns_grow hv.row hg1) hf2 (fun j hj e => (hv.nev j hj).1 e)) hg3
    have hGlt : ∀ k, v.ownBlock = some k → k < w.heap.size := fun k hk => (hv.row.lt k hk).2
    have hpj := epTry2 (w0 := w3.drew) (b := b) (B := w.heap.size) (Bk := w.heap.size + 1) (now := s.now + 1) (G := fun k => v.ownBlock = some k) (l := epl s) (fun k hk => by have := hGlt k hk; show k < w3.heap.size; omega) (fun hk => by have := hGlt _ hk; omega) (by show _ < w3.heap.size; omega) ⟨fun hk => by have := hGlt _ hk; omega, by omega⟩ ⟨fun hk => (hv.nev b hk).1 rfl, by omega⟩ kB3 m0 ⟨by omega, by omega⟩ (by rw [epl_len]; exact hs)
    have hj0 : TJ w3.drew (w.heap.size + 1) (fun k => v.ownBlock = some k) (oldE (s.now + 1)) (·.1) (epl s) 0 w3.drew := ⟨.slice none 0 0, hn3, World.ownsRow_nil _ _ _ _, Fr.refl _ _⟩
    have hdel := delete_E (base := 0) (w := w3.drew) (v := v) (l := epl s) (owns_grow hrow3 (Fr.refl _ _).drew) hpj hj0 (fun n W W' hj hf => TJ.fr (fun k hk => by have := hGlt k hk; show k < w3.heap.size; omega) (fun hk => by have := hGlt _ hk; omega) hj hf) eg139 (by rw [epl_len]; exact hs)
    have HD := Lib.hid hdel
    have H3 := Lib.hid (And.intro hb3 (And.intro hg3 (And.intro hf2 (And.intro hn3 hGlt))))
    obtain ⟨A, m, c, hvs⟩ := own_sl hv.row
    subst hvs
    clear hv e2 hb1 hve hints hcf hbe hb2 hf2 hn3 hg3 hb3 hrow3 hpj hj0 hdel hGlt hn1 hg1
    go_enter Tryz.func107, Tryz.ntmps107
    go_upto_region 6 with (go_at_call 137; refine HC.out.mono ?_; rintro e w' ⟨rfl, rfl⟩)
    refine wp_region_held_drew (S := fun w' => w'.cell? ⟨w.heap.size, 0, none⟩ = some (.pointer (some ⟨b, 0, none⟩))) (by kernel_rfl) ?_ (fun hHeld => ?_)
    · exact kB3
    refine wpAnyH_take (i := 0) (v := ?v0) rfl (by kernel_rfl) (by kernel_rfl) (by kernel_rfl) (fun _ _ _ h => h) (Or.inl ⟨by rfl, ?y0⟩) hHeld ?_
    case y0 => intro w hSw; (try dsimp only at hSw); go_simp; (try with_reducible rfl)
    try simp only [Act.put, List.setIfInBounds_toArray, List.set_cons_zero, List.set_cons_succ]
    refine wpAnyH_take (i := 1) (v := ?v1) rfl (by kernel_rfl) (by kernel_rfl) (by kernel_rfl) (fun _ _ _ h => h) (Or.inl ⟨by rfl, ?y1⟩) hHeld ?_
    case y1 => intro w hSw; (try dsimp only at hSw); go_simp; (try with_reducible rfl)
    try simp only [Act.put, List.setIfInBounds_toArray, List.set_cons_zero, List.set_cons_succ]
    refine wpAnyH_take (i := 2) (v := ?v2) rfl (by kernel_rfl) (by kernel_rfl) (by kernel_rfl) (fun _ _ _ h => h) (Or.inl ⟨by rfl, ?y2⟩) hHeld ?_
    case y2 => intro w hSw; (try dsimp only at hSw); go_simp; (try with_reducible rfl)
    try simp only [Act.put, List.setIfInBounds_toArray, List.set_cons_zero, List.set_cons_succ]
    refine wpAnyH_take (i := 3) (v := ?v3) rfl (by kernel_rfl) (by kernel_rfl) (by kernel_rfl) (fun _ _ _ h => h) (Or.inl ⟨by rfl, ?y3⟩) hHeld ?_
    case y3 => intro w hSw; (try dsimp only at hSw); go_simp; (try with_reducible rfl)
    try simp only [Act.put, List.setIfInBounds_toArray, List.set_cons_zero, List.set_cons_succ]
    refine wpAnyH_take (i := 5) (v := ?v5) rfl (by kernel_rfl) (by kernel_rfl) (by kernel_rfl) (fun _ _ _ h => h) (Or.inl ⟨by rfl, ?y5⟩) hHeld ?_
    case y5 => intro w hSw; (try dsimp only at hSw); go_simp; (try with_reducible rfl)
    try simp only [Act.put, List.setIfInBounds_toArray, List.set_cons_zero, List.set_cons_succ]
    refine wpAnyH_ready (rs := [4]) (by kernel_rfl) (by simp) ?_
    refine AllReadyH.cons rfl (fun K hK => ?_) AllReadyH.nil
    go_simp
    refine hK.out _ _ ?_ (fun hHeld => ?_)
    · exact kB3
    clear hK K
    try simp only [Act.put, List.setIfInBounds_toArray, List.set_cons_zero, List.set_cons_succ]
    refine wpAnyH_ready (rs := [6]) (by kernel_rfl) (by simp) ?_
    refine AllReadyH.cons rfl (fun K hK => ?_) AllReadyH.nil
    go_simp
    go_at_call 138
    refine HD.out.mono ?_; rintro e W5 ⟨v5, rfl, hown, ⟨u5, t1, t2, t3⟩, hsub⟩; have hb5 : W5.heap[b]? = some (.cells #[.int .i64 (s.now + 1), .slice (some ⟨T, 0, none⟩) s.n cT, .slice A m c] 123 (0, 0)) := t3.at_ (a := w3.drew) H3.out.1 (fun e => e.elim (fun e => by omega) (fun e => (HV.out.nev b e).1 rfl)); have qB : W5.cell? ⟨w.heap.size, 0, none⟩ = some (.pointer (some ⟨b, 0, none⟩)) := (World.cell?_of_block (w := w3.drew) (t3.blk w.heap.size (by show _ < w3.heap.size; omega) (fun e => e.elim (fun e => by omega) (fun e => by have := H3.out.2.2.2.2 _ e; omega)))).trans kB3; have q2 := (blk_cell hb5 2).trans (rfl : _ = some (Value.slice A m c)); have qf2 := blk_free hb5 2; obtain ⟨A5, m5, c5, hv5⟩ := own_sl hown; subst hv5; have qk := (blk_cell (w := W5.setCell ⟨b, 2, none⟩ (.slice A5 m5 c5)) ((blk_set_other (a := ⟨b, 2, none⟩) (by show w.heap.size + 1 ≠ b; omega) _).trans t1) 0).trans (rfl : _ = some u5); have H5 := Lib.hid (And.intro hown (And.intro t2 (And.intro t3 (And.intro hsub hb5)))); clear hown t1 t2 t3 hsub hb5
    try go_wp2_with fail
    refine hK.out _ _ ?_ (fun hHeld => ?_)
    · exact qB
    clear hK K
    try simp only [Act.put, List.setIfInBounds_toArray, List.set_cons_zero, List.set_cons_succ]
    refine wpAnyH_take (i := 7) (v := ?v7) rfl (by kernel_rfl) (by kernel_rfl) (by kernel_rfl) (fun _ _ _ h => h) (Or.inl ⟨by rfl, ?y7⟩) hHeld ?_
    case y7 => intro w hSw; (try dsimp only at hSw); go_simp; (try with_reducible rfl)
    try simp only [Act.put, List.setIfInBounds_toArray, List.set_cons_zero, List.set_cons_succ]
    refine wpAnyH_take (i := 8) (v := ?v8) rfl (by kernel_rfl) (by kernel_rfl) (by kernel_rfl) (fun _ _ _ h => h) (Or.inl ⟨by rfl, ?y8⟩) hHeld ?_
    case y8 => intro w hSw; (try dsimp only at hSw); go_simp; (try with_reducible rfl)
    try simp only [Act.put, List.setIfInBounds_toArray, List.set_cons_zero, List.set_cons_succ]
    refine wpAnyH_ready (rs := [9]) (by kernel_rfl) (by simp) ?_
    refine AllReadyH.cons rfl (fun K hK => ?_) AllReadyH.nil
    go_simp
    refine hK.out _ _ ?_ (fun hHeld => ?_)
    · rw [World.cell?_setCell_other _ _ _ _ (by intro e; injection e; omega)]; assumption
    clear hK K
    try simp only [Act.put, List.setIfInBounds_toArray, List.set_cons_zero, List.set_cons_succ]
    refine wpAnyH_done (by kernel_rfl) ?_ _
    all_goals
      go_wp2_with fail
      have hst : { s with now := s.now + 1 }.kind = 2 := HV.out.kind
      obtain ⟨e1, e2⟩ := sweepE hst
      have hfb : Fr (· = b) W5 (W5.setCell ⟨b, 2, none⟩ (.slice A5 m5 c5)) := (Fr.refl _ _).setCell _ _ (.inr rfl)
      have hel : epl { s with now := s.now + 1 } = epl s := rfl
      have hfr : Fr (fun k => k = b ∨ (Value.slice A m c).ownBlock = some k) w W5 := by
        have h1 : Fr (fun k => k = b ∨ (Value.slice A m c).ownBlock = some k) w w3.drew := Fr.drew (fr_grow (Fr.then (H1.out.1.mono fun i _ h => h.elim) H3.out.2.2.1 (fun i _ h => .inl h)) H3.out.2.1)
        refine h1.then H5.out.2.2.1 (fun i hi h => h.elim (fun e => by omega) .inr)
      refine HR.out _ _ ⟨u5, fun k => k = b ∨ k = T ∨ (Value.slice A5 m5 c5).ownBlock = some k, rfl, ?_, ⟨T, cT, .slice A5 m5 c5, HV.out.kind, ?_, HV.out.lo0, blk_set H5.out.2.2.2.2 2 _, ?_, ?_, fun k => Iff.rfl⟩, ?_, ?_⟩
      · rw [e1, hel]
        exact own_base_le (owns_fr H5.out.2.1 hfb (fun j hj e => by have := (H5.out.2.1.lt j hj).1; have : w3.drew.heap.size = w3.heap.size := rfl; omega)) (by show w.heap.size ≤ w3.heap.size; omega)
      · exact Ok.sweep (s := { s with now := s.now + 1 }) (HV.out.ok.sub (s' := { s with now := s.now + 1 }) rfl rfl rfl (fun x hx => hx) (show s.now ≤ s.now + 1 by omega)) _
      · exact owns_fr (owns_fr HV.out.trow hfr (fun j hj e => by
          rw [HV.out.tT hj] at e
          exact e.elim HV.out.neT (fun e => (HV.out.nev T e).2 rfl))) hfb (fun j hj e => by rw [HV.out.tT hj] at e; exact HV.out.neT e)
      · rw [← epl_len, e2, hel]
        exact owns_fr H5.out.1 hfb (fun j hj e => (HV.out.nev j (H5.out.2.2.2.1 j hj)).1 e)
      · refine ⟨(hfr.mono fun i _ h => (HV.out.fp i).2 (h.elim .inl (fun e => .inr (.inr e)))).trans (hfb.mono fun i _ e => (HV.out.fp i).2 (.inl e)), fun k hk => .inl ((HV.out.fp k).2 ?_)⟩
        rcases hk with e | e | e
        · exact .inl e
        · exact .inr (.inl e)
        · exact .inr (.inr (H5.out.2.2.2.1 k e))
      · intro k hk hf
        have h1 := (H5.out.2.1.lt k hk).1
        have h2 : w3.drew.heap.size = w3.heap.size := rfl
        rcases hf with e | e | e
        · omega
        · have := HV.out.lt T ((HV.out.fp T).2 (.inr (.inl rfl))); omega
        · have := H3.out.2.2.2.2 k (H5.out.2.2.2.1 k e); omega
  · rw [hbe] at HC
    have e2 : tryS s = ⟨s, [], 0⟩ := by unfold tryS; rw [hbe]; rfl
    rw [e2] at HR
    clear hv e2 hg1 hn1 hb1 hve hints hcf hbe
    go_enter Tryz.func107, Tryz.ntmps107
    go_wp2_with (go_at_call 137; refine HC.out.mono ?_; rintro e w' ⟨rfl, rfl⟩)
    exact HR.out _ _ ⟨_, F, rfl, World.ownsRow_nil _ _ _ _, (EM.local b).fr HQ.out (G := fun _ => False) H1.out.1 (fun _ _ h => h), ⟨H1.out.1.mono fun _ _ h => h.elim, fun j hj => .inl hj⟩, fun j hj => by simp [Value.ownBlock] at hj⟩
end Go.Proofs.YtcgcljmnnjalpaaGreat
set_option linter.unusedVariables false
set_option linter.unusedSimpArgs false
namespace Go.Proofs.YtcgcljmnnjalpaaGreat
open Go.RowKit Go.Kx
open Go.ChangeMaps (setBlock)
def GrowP (w : World) (e : Ending) (w' : World) : Prop := ∃ v, e = .returned v ∧ w'.ownsRow w.heap.size 3 1 v 0 [] ∧ Grow w w'
set_option maxRecDepth 100000 in
set_option maxHeartbeats 1000000 in
theorem grow_any (w : World) (n : Nat) (hn : n ≤ 300000) : Calls Tryz.prog 140 #[.slice none 0 0, .int .i64 n] w (GrowP w) := by
  refine cph fun R HR => ?_
  by_cases h0 : n = 0
  · subst h0
    go_enter Tryz.func140, Tryz.ntmps140
    go_wp2_with fail
    exact HR.out _ _ ⟨_, rfl, World.ownsRow_nil _ _ _ _, Grow.refl _⟩
  · obtain ⟨i0, hi, hz0, hz1, hz2⟩ := info_parts info3x
    have hck : 0 + (0 + n - 0) = 0 + n := by omega
    have hold : (Builtin.firstCells i0.size 0 (.slice none 0 0)).run Tryz.prog w.drew = .ok ([] : List Value).toArray w.drew := run_firstCells_none w.drew i0.size 0 0 0
    have hrz : ∀ ty, (Builtin.append_ #[34, 3] ty #[.slice none 0 0, .int .i64 (n : Int)]).run Tryz.prog w =
        .ok (.slice (some ⟨w.heap.size, 0, none⟩) (0 + n) (grownCap w (0 + n) 0 3)) (w.drew.alloc (.cells (([] : List Value).toArray ++ Builtin.zeroCells (Value.int .i64 0).cells (0 + n - 0) ++ Builtin.zeroCells (Value.int .i64 0).cells (grownCap w (0 + n) 0 3 - (0 + n))) 3)) := fun ty => by
      have h := Lib.run_append_grow_zeros w 34 3 ty 3 i0 (.int .i64 0) .i64 .i64 Tryz.underlying34 Tryz.underlying3 hi hz0 none 0 0 [] hold (0 + n - 0) (by omega) (by omega) (by omega) (by omega) (by rw [hz2]; omega) (by rw [hck]; exact growslice_fits (by omega) (by rw [hz2]; omega))
      rw [hck] at h
      rw [show (n : Int) = ((0 + n - 0 : Nat) : Int) by omega]
      exact h
    have hGn : 0 + n ≤ grownCap w (0 + n) 0 3 := grownCap_ge w _ _ _
    have hG63 := grownCap_le_maxLen w (0 + n) 0 3 (by unfold maxLen; omega)
    obtain ⟨G, hG⟩ : ∃ G, G = grownCap w (0 + n) 0 3 := ⟨_, rfl⟩
    rw [← hG] at hrz hGn hG63
    obtain ⟨cz, hcz⟩ : ∃ cz, cz = ([] : List Value).toArray ++ Builtin.zeroCells (Value.int .i64 0).cells (0 + n - 0) ++ Builtin.zeroCells (Value.int .i64 0).cells (G - (0 + n)) := ⟨_, rfl⟩
    have hsz : cz.size = G * 1 := by
      rw [hcz]
      simp [Builtin.zeroCells, Value.cells]
      omega
    rw [← hcz] at hrz
    have HX := Lib.hid (And.intro hG63 hsz)
    have hG64 : G ≤ 9223372036854775807 := by unfold maxLen at hG63; exact hG63
    have hGG : (n : Int) ≤ (G : Int) := by omega
    have h4 : (0 : Int) < n := by omega
    clear hold hck hG hcz hsz hG63 hGn h0
    simp only [Nat.zero_add] at hrz
    go_enter Tryz.func140, Tryz.ntmps140
    go_wp2_with (at_builtin; refine Lib.wpList_append_run _ rfl _ _ _ _ rfl _ _ rfl rfl _ _ (hrz _) ?_)
    refine HR.out _ _ ⟨_, rfl, ⟨rfl, .inr ⟨w.heap.size, G, cz, rfl, Nat.le_refl _, ?_, Nat.zero_le _, HX.out.1, HX.out.2, rfl⟩⟩, ((Grow.refl w).drew).alloc _⟩
    exact blk_new w.drew _
theorem ints_news {w : World} {A : Option Addr} {l : List Int} (h : IntsAt w A l) : ∀ a, A = some a → ∀ j u, (l.map (Value.int .i64))[j]? = some u → w.cell? (a.add j) = some u := by
  intro a ha j u hu
  rcases h with rfl | ⟨b, off, h1, h2⟩
  · simp at hu
  · rw [ha] at h1
    cases h1
    simp only [List.getElem?_map, Option.map_eq_some_iff] at hu
    obtain ⟨x, hx, rfl⟩ := hu
    rw [Addr.add_lit]
    exact h2 j x hx
def cat3 (ls : List (List Int)) (k : Nat) : List Int := (ls.take k).flatten
theorem cat3_succ {ls : List (List Int)} {k : Nat} {l : List Int} (h : ls[k]? = some l) : cat3 ls (k + 1) = cat3 ls k ++ l := by
  unfold cat3
  rw [List.take_add_one, h, List.flatten_append]
  simp
theorem cat3_len (ls : List (List Int)) (k : Nat) : (cat3 ls k).length ≤ ls.flatten.length := by
  unfold cat3
  have h := congrArg (fun l => l.flatten.length) (List.take_append_drop k ls)
  simp only [List.flatten_append, List.length_append] at h
  omega
def MadeI (w : World) (l : List Int) (e : Ending) (w' : World) : Prop := ∃ v, e = .returned v ∧ w'.ownsRow w.heap.size 3 1 v l.length (l.map (Value.int .i64)) ∧ Grow w w'
set_option maxRecDepth 100000 in
set_option maxHeartbeats 2000000 in
theorem concat3 {w : World} {b : Nat} {ls : List (List Int)} (hl3 : ls.length = 3) (hv : ∀ k l, ls[k]? = some l → ∃ A c, w.cell? ⟨b, k, none⟩ = some (.slice A l.length c) ∧ IntsAt w A l ∧ (A = none → l.length = 0 ∧ c = 0)) (hn : ls.flatten.length ≤ 300000) :
    Calls Tryz.prog 108 #[.slice (some ⟨b, 0, none⟩) 3 3] w (MadeI w ls.flatten) := by
  refine cph fun R HR => ?_
  have HB := Lib.hid (And.intro hl3 hv)
  clear hl3 hv
  obtain ⟨i0, hi, hz0, hz1, hz2⟩ := info_parts info3x
  have HI := Lib.hid (And.intro hi (And.intro hz0 (And.intro hz1 hz2)))
  clear hi hz0 hz1 hz2
  obtain ⟨N, hN⟩ : ∃ N, ls.flatten.length = N := ⟨_, rfl⟩
  rw [hN] at hn
  have HL : Hid (∀ k, (cat3 ls k).length ≤ N) := fun k => hN ▸ cat3_len ls k
  have HN := Lib.hid hN
  clear hN
  go_enter Tryz.func108, Tryz.ntmps108
  go_wp2_with fail
  go_loop [3, 11] (fun s i => ∃ k : Nat, k ≤ 3 ∧ i = .int .i64 k ∧ s = .int .i64 (cat3 ls k).length) (fun _ i => 3 - (intOf i).toNat)
  case atStart => exact ⟨0, by omega, rfl, rfl⟩
  case round =>
    obtain ⟨k, hk, rfl, rfl⟩ := hrel
    by_cases hlt : k < 3
    · obtain ⟨l, hl⟩ : ∃ l, ls[k]? = some l := ⟨ls[k]'(by rw [HB.out.1]; exact hlt), List.getElem?_eq_getElem _⟩
      obtain ⟨A, c, hc, _, _⟩ := HB.out.2 k l hl
      have e := cat3_succ hl
      have h1 := HL.out k
      have h2 := HL.out (k + 1)
      rw [e, List.length_append] at h2
      have HE := Lib.hid e
      have hki : (k : Int) < 3 := by omega
      clear e hl
      go_wp2_with fail
      go_round
      case rel => exact ⟨k + 1, by omega, by go_num, by rw [HE.out, List.length_append]; go_num⟩
      case measure => simp [intOf] <;> omega
    · obtain rfl : k = 3 := by omega
      have e3 : cat3 ls 3 = ls.flatten := by unfold cat3; rw [List.take_of_length_le (by rw [HB.out.1]; omega)]
      rw [e3, HN.out]
      have HE3 := Lib.hid e3
      clear e3
      have HG := Lib.hid (grow_any w N hn)
      go_wp2_with (go_at_call 140; refine HG.out.mono ?_)
      rintro e w1 ⟨v, rfl, hrow, hg⟩
      have H1 := Lib.hid (And.intro hrow hg)
      clear hrow hg HG
      go_wp2_with fail
      go_loopw [6, 27] (fun v i wr => ∃ k : Nat, k ≤ 3 ∧ i = .int .i64 k ∧ Hid (wr.ownsRow w.heap.size 3 1 v (cat3 ls k).length ((cat3 ls k).map (Value.int .i64)) ∧ Grow w wr)) (fun _ i _ => 3 - (intOf i).toNat)
      case atStart => exact ⟨0, by omega, rfl, by simpa [cat3] using H1.out.1, H1.out.2⟩
      case round =>
        obtain ⟨k, hk, rfl, HO⟩ := hrel
        by_cases hlt : k < 3
        · obtain ⟨l, hl⟩ : ∃ l, ls[k]? = some l := ⟨ls[k]'(by rw [HB.out.1]; exact hlt), List.getElem?_eq_getElem _⟩
          obtain ⟨A, c, hc, hin, hno⟩ := HB.out.2 k l hl
          have hc' := HO.out.2.cell hc
          have HIn := Lib.hid (And.intro (hin.grow HO.out.2) hno)
          have e := cat3_succ hl
          have h1 := HL.out k
          have h2 := HL.out (k + 1)
          rw [e, List.length_append] at h2
          have HE := Lib.hid e
          have hki : (k : Int) < 3 := by omega
          have hgs := HO.out.2.size
          clear e hl hc hin hno
          go_wp2_with (at_builtin; refine wpList_append_any _ rfl (.tmp 31) (.tmp 32) 34 rfl w.heap.size 3 i0 (.int .i64 0) 1 8 Tryz.underlying34 HI.out.1 HI.out.2.1 HI.out.2.2.1 HI.out.2.2.2 rfl (by decide) u6 (cat3 ls k).length ((cat3 ls k).map (Value.int .i64)) rfl HO.out.1 A l.length c (l.map (Value.int .i64)) rfl ?c1 ?c7 ?c2 ?c3 ?c4 ?c5 ?c6 ?_)
          case c1 => simp
          case c7 => exact HIn.out.2
          case c2 => exact ints_news HIn.out.1
          case c3 => intro u hu; obtain ⟨x, _, rfl⟩ := List.mem_map.1 hu; rfl
          case c4 => unfold maxLen; omega
          case c5 => omega
          case c6 => omega
          intro v' w3 hown hgrow _ _
          have H7 : Hid (w3.ownsRow w.heap.size 3 1 v' (cat3 ls (k + 1)).length ((cat3 ls (k + 1)).map (Value.int .i64)) ∧ Grow w w3) := ⟨by rw [HE.out, List.length_append, List.map_append]; exact hown, HO.out.2.grown hgrow (fun j e => (HO.out.1.lt j e).1)⟩
          clear hown hgrow
          go_wp2_with fail
          go_roundw
          case rel => exact ⟨k + 1, by omega, by go_num, H7.out⟩
          case measure => simp [intOf] <;> omega
        · obtain rfl : k = 3 := by omega
          go_wp2_with fail
          refine HR.out _ _ ⟨_, rfl, ?_, HO.out.2⟩
          have := HO.out.1
          rwa [HE3.out] at this
end Go.Proofs.YtcgcljmnnjalpaaGreat
set_option linter.unusedVariables false
set_option linter.unusedSimpArgs false
namespace Go.Proofs.YtcgcljmnnjalpaaGreat
open Go.RowKit Go.Kx
open Go.ChangeMaps (setBlock)
theorem filt_len {α : Type} (p : α → Bool) : ∀ l : List α, (l.filter p).length + (l.filter fun x => !p x).length = l.length
  | [] => rfl
  | x :: l => by
    have := filt_len p l
    cases h : p x <;> simp [h] <;> omega
theorem sweep_len (s : RS) (p : Itm → Bool) : (sweepS s p).back.length + (sweepS s p).st.items.length = s.items.length := by
  unfold sweepS
  dsimp only
  rw [List.length_map]
  exact filt_len _ _
theorem tryS_len (s : RS) : (tryS s).back.length + (tryS s).st.items.length = s.items.length := by
  unfold tryS
  split
  · simp
  · exact sweep_len _ _
theorem tryS_now (s : RS) : (tryS s).st.now ≤ s.now + 1 ∧ (tryS s).err = 0 := by
  unfold tryS
  split
  · exact ⟨by dsimp only; omega, rfl⟩
  · exact ⟨Int.le_refl _, rfl⟩
theorem infoE : ((Tryz.prog.info? 144).map fun i => (i.zero, i.size, i.bytes)) = some (some (.agg #[.int .i64 0, .int .i64 0]), 2, 16) := by kernel_rfl
set_option maxRecDepth 100000 in
set_option maxHeartbeats 4000000 in
theorem epRetire {b : Nat} {w : World} {F : FP} {s : RS} (h : EM b w F s) (hs : s.items.length ≤ 100000) (hn : s.now ≤ 1000000) (t a : Int) : Calls Tryz.prog 60 #[.pointer (some ⟨b, 0, none⟩), .int .i64 t, .int .i64 a] w (OpP (EM b) w F (retS s t a)) := by
  refine cph fun R HR => ?_
  have HQ := Lib.hid h
  have HWt := Lib.hid (epWaiting h hs)
  obtain ⟨T, cT, v, hv⟩ := h
  have HT := Lib.hid (epHas hv t)
  have HV := Lib.hid hv
  cases ht : okTh s t
  · rw [ht] at HT
    have e : retS s t a = ⟨s, [], 1⟩ := by simp [retS, ht]
    rw [e] at HR
    clear hv e
    go_enter Tryz.func60, Tryz.ntmps60
    go_wp2_with (go_at_call 105; refine HT.out.mono ?_; rintro e w' ⟨rfl, rfl⟩)
    exact HR.out _ _ (OpP.none HQ.out (Step.refl _ _))
  rw [ht] at HT
  by_cases ha : a ≤ 0
  · have e : retS s t a = ⟨s, [], 1⟩ := by simp [retS]; omega
    rw [e] at HR
    clear hv e ht
    go_enter Tryz.func60, Tryz.ntmps60
    go_wp2_with (go_at_call 105; refine HT.out.mono ?_; rintro e w' ⟨rfl, rfl⟩)
    exact HR.out _ _ (OpP.none HQ.out (Step.refl _ _))
  have ha0 : 0 < a := by omega
  have hbl := blk_lt hv.blk
  cases hw : waitsB s a
  · have e : retS s t a = ⟨(tryS (retS0 s t a)).st, (tryS (retS0 s t a)).back, 0⟩ := by
      have h0 := (tryS_now (retS0 s t a)).2
      simp [retS, ht, ha0, hw, hv.kind]
      generalize tryS (retS0 s t a) = r at h0 ⊢
      cases r
      simp at h0 ⊢
      exact h0
    rw [e] at HR
    rw [waits_mem] at hw
    have hw' : decide (a ∈ addrs s) = false := hw
    have HWM := Lib.hid hw'
    have hokr := Lib.hid (hv.ok.ret0 t a ha0)
    obtain ⟨i1, hi, hz0, hz1, hz2⟩ := info_parts infoE
    have HJ := Lib.hid (And.intro hi (And.intro hz0 (And.intro hz1 hz2)))
    obtain ⟨A, m, cap, hvs⟩ := own_sl hv.row
    subst hvs
    clear hi hz0 hz1 hz2 hv e ht hw hw'
    go_enter Tryz.func60, Tryz.ntmps60
    go_upto_region 5 with (first | (go_at_call 105; refine HT.out.mono ?_; rintro e w' ⟨rfl, rfl⟩) | (go_at_call 75; refine HWt.out.mono ?_; intro e w1 ho; obtain ⟨A1, n1, c1, rfl, hg, hcon⟩ := ho.has hs a; rw [HWM.out] at hcon; have HC := Lib.hid hcon; have HG1 := Lib.hid hg; clear ho hg hcon) | (go_at_call 106; refine HC.out.mono ?_; rintro e w' ⟨rfl, rfl⟩))
    have hb1 := HG1.out.at_ HV.out.blk
    have hrow := owns_grow HV.out.row HG1.out
    have e0 := (blk_cell hb1 0).trans (rfl : _ = some (Value.int .i64 s.now))
    have e2 := (blk_cell hb1 2).trans (rfl : _ = some (Value.slice A m cap))
    have f2 := blk_free hb1 2
    have hbl1 := blk_lt hb1
    have hgs := HG1.out.size
    have H2 := Lib.hid (And.intro hb1 hrow)
    clear hb1 hrow
    go_region_law ((refine step_append_own rfl (.tmp 24) (.tmp 31) 121 rfl 0 144 i1 (.agg #[.int .i64 0, .int .i64 0]) 2 16 Tryz.underlying121 HJ.out.1 HJ.out.2.1 HJ.out.2.2.1 HJ.out.2.2.2 rfl (by decide) _ s.items.length ((epl s).flatMap enc2) rfl (H2.out.2.alloc _) ⟨w1.heap.size, 0, none⟩ 1 1 [.int .i64 a, .int .i64 s.now] rfl rfl (cells_new w1.drew [.int .i64 a, .int .i64 s.now] 144) (by simp [Value.oneCell']) (by unfold maxLen; omega) (by omega) (by simp) ?_); intro v2 w3 hown hgrow _ hat; obtain ⟨g, cap3, rfl⟩ := own_some hown; have hb3 : w3.heap[b]? = some (.cells #[.int .i64 s.now, .slice (some ⟨T, 0, none⟩) s.n cT, .slice A m cap] 123 (0, 0)) := (fr_grown hgrow).at_ (blk_alloc' _ H2.out.1) (fun e => (HV.out.nev b e).1 rfl); have e2' := (blk_cell hb3 2).trans (rfl : _ = some (Value.slice A m cap)); have f2' := blk_free hb3 2; have H8 := Lib.hid (And.intro hb3 (And.intro hown (And.intro hgrow hat))); clear hb3 hown hgrow hat)
    all_goals
      have hnew : g = w1.heap.size + 1 ∨ (Value.slice A m cap).ownBlock = some g := by
        rcases H8.out.2.2.2 with e | e
        · exact .inr (e.symm.trans rfl)
        · left; simpa [Value.ownBlock] using e
      have hTl : T < w.heap.size := HV.out.lt T ((HV.out.fp T).2 (.inr (.inl rfl)))
      have hgb : g ≠ b ∧ g ≠ T := by
        rcases hnew with e | e
        · exact ⟨by omega, by omega⟩
        · exact HV.out.nev _ e
      have hb4 := blk_set H8.out.1 2 (.slice (some ⟨g, 0, none⟩) (s.items.length + 1) cap3)
      have hgr : Fr (fun k => (Value.slice A m cap).ownBlock = some k) w w3 := (((HG1.out.mono (fun _ _ h => h.elim)).drew).alloc _).grown H8.out.2.2.1 (fun k e => .inr e)
      have hfb : Fr (· = b) w3 (w3.setCell ⟨b, 2, none⟩ (.slice (some ⟨g, 0, none⟩) (s.items.length + 1) cap3)) := (Fr.refl (· = b) _).setCell _ _ (.inr rfl)
      have hq : EM b (w3.setCell ⟨b, 2, none⟩ (.slice (some ⟨g, 0, none⟩) (s.items.length + 1) cap3)) (fun k => k = b ∨ k = T ∨ (Value.slice (some ⟨g, 0, none⟩) (s.items.length + 1) cap3).ownBlock = some k) (retS0 s t a) := by
        refine ⟨T, cT, _, HV.out.kind, hokr.out, HV.out.lo0, hb4, ?_, ?_, fun k => Iff.rfl⟩
        · exact owns_fr (owns_fr HV.out.trow hgr (fun k hk e => by rw [HV.out.tT hk] at e; exact (HV.out.nev T e).2 rfl)) hfb (fun k hk e => by rw [HV.out.tT hk] at e; exact HV.out.neT e)
        · have h1 := owns_fr H8.out.2.1 hfb (fun j hj e => by
            have : g = j := by simpa [Value.ownBlock] using hj
            exact hgb.1 (this.trans e))
          simpa [retS0, epl, mkItm, enc2] using h1
      have HSt : Hid (Step F w (fun k => k = b ∨ k = T ∨ (Value.slice (some ⟨g, 0, none⟩) (s.items.length + 1) cap3).ownBlock = some k) (w3.setCell ⟨b, 2, none⟩ (.slice (some ⟨g, 0, none⟩) (s.items.length + 1) cap3))) :=
        ⟨(hgr.mono (fun i _ e => (HV.out.fp i).2 (.inr (.inr e)))).trans (hfb.mono (fun i _ e => (HV.out.fp i).2 (.inl e))), fun k hk => by
          rcases hk with e | e | e
          · exact .inl ((HV.out.fp k).2 (.inl e))
          · exact .inl ((HV.out.fp k).2 (.inr (.inl e)))
          · have hgk : g = k := by simpa [Value.ownBlock] using e
            subst hgk
            rcases hnew with e | e
            · exact .inr (by omega)
            · exact .inl ((HV.out.fp _).2 (.inr (.inr e)))⟩
      have HLo := Lib.hid (epTry hq (by simp [retS0]; omega) (by simp [retS0]; omega))
      clear hq hgr hfb hb4
      go_wp2_with (go_at_call 107; refine HLo.out.mono ?_; intro e w9 ho; obtain ⟨v9, rfl, hp9⟩ := ho.toP2 HSt.out; have H9 := Lib.hid hp9; clear hp9 ho)
      exact HR.out _ _ H9.out
  · have e : retS s t a = ⟨s, [], 6⟩ := by simp [retS, ht, ha0, hw]
    rw [e] at HR
    rw [waits_mem] at hw
    have hw' : decide (a ∈ addrs s) = true := hw
    have HWM := Lib.hid hw'
    clear hv e ht hw hw'
    go_enter Tryz.func60, Tryz.ntmps60
    go_wp2_with (first | (go_at_call 105; refine HT.out.mono ?_; rintro e w' ⟨rfl, rfl⟩) | (go_at_call 75; refine HWt.out.mono ?_; intro e w1 ho; obtain ⟨A1, n1, c1, rfl, hg, hcon⟩ := ho.has hs a; rw [HWM.out] at hcon; have HC := Lib.hid hcon; have HG1 := Lib.hid hg; clear ho hg hcon) | (go_at_call 106; refine HC.out.mono ?_; rintro e w' ⟨rfl, rfl⟩))
    exact HR.out _ _ (OpP.none ((EM.local b).fr HQ.out (G := fun _ => False) HG1.out (fun _ _ h => h)) ⟨HG1.out.mono fun _ _ h => h.elim, fun j hj => .inl hj⟩)
end Go.Proofs.YtcgcljmnnjalpaaGreat
set_option linter.unusedVariables false
set_option linter.unusedSimpArgs false
namespace Go.Proofs.YtcgcljmnnjalpaaGreat
open Go.RowKit Go.Kx
open Go.ChangeMaps (setBlock)
theorem restE {s : RS} (h : s.kind = 2) : restS s = ⟨(tryS (tryS (tryS s).st).st).st, [(tryS s).back, (tryS (tryS s).st).back, (tryS (tryS (tryS s).st).st).back].flatten, 0⟩ := by
  unfold restS
  rw [if_neg (by omega), if_pos h]
  simp [seqS]
/-- What is the caller's own stays so. -/
theorem own_keep {w1 w2 : World} {F1 F2 : FP} {base : Nat} {e : TypeId} {sz n : Nat} {v : Value} {xs : List Value} (h : w1.ownsRow base e sz v n xs) (hn : ∀ k, v.ownBlock = some k → ¬ F1 k) (hs : Step F1 w1 F2 w2) : w2.ownsRow base e sz v n xs ∧ ∀ k, v.ownBlock = some k → ¬ F2 k :=
  ⟨owns_fr h hs.fr hn, fun k hk hf => (hs.sub k hf).elim (hn k hk) (fun q => by have := (h.lt k hk).2; omega)⟩
theorem three_at {w : World} {T : TypeId} {A1 A2 A3 : Option Addr} {l1 l2 l3 : List Int} {c1 c2 c3 : Nat} (h1 : IntsAt w A1 l1) (n1 : A1 = none → c1 = 0) (h2 : IntsAt w A2 l2) (n2 : A2 = none → c2 = 0) (h3 : IntsAt w A3 l3) (n3 : A3 = none → c3 = 0) :
    ∀ k l, [l1, l2, l3][k]? = some l → ∃ A c, (w.alloc (.cells #[.slice A1 l1.length c1, .slice A2 l2.length c2, .slice A3 l3.length c3] T)).cell? ⟨w.heap.size, k, none⟩ = some (.slice A l.length c) ∧ IntsAt (w.alloc (.cells #[.slice A1 l1.length c1, .slice A2 l2.length c2, .slice A3 l3.length c3] T)) A l ∧ (A = none → l.length = 0 ∧ c = 0) := by
  have hb := blk_new w (Obj.cells #[.slice A1 l1.length c1, .slice A2 l2.length c2, .slice A3 l3.length c3] T)
  have hg : Grow w (w.alloc (.cells #[.slice A1 l1.length c1, .slice A2 l2.length c2, .slice A3 l3.length c3] T)) := (Grow.refl w).alloc _
  have nn : ∀ {A : Option Addr} {l : List Int}, IntsAt w A l → A = none → l.length = 0 := fun h e => by
    rcases h with rfl | ⟨b, off, h1, _⟩
    · rfl
    · rw [e] at h1; cases h1
  intro k l hl
  match k, hl with
  | 0, hl => cases hl; exact ⟨A1, c1, (blk_cell hb 0).trans rfl, h1.grow hg, fun e => ⟨nn h1 e, n1 e⟩⟩
  | 1, hl => cases hl; exact ⟨A2, c2, (blk_cell hb 1).trans rfl, h2.grow hg, fun e => ⟨nn h2 e, n2 e⟩⟩
  | 2, hl => cases hl; exact ⟨A3, c3, (blk_cell hb 2).trans rfl, h3.grow hg, fun e => ⟨nn h3 e, n3 e⟩⟩
  | k + 3, hl => simp at hl
set_option maxRecDepth 100000 in
set_option maxHeartbeats 4000000 in
theorem epRest {b : Nat} {w : World} {F : FP} {s : RS} (h : EM b w F s) (hs : s.items.length ≤ 100000) (hn : s.now ≤ 1000000) : Calls Tryz.prog 61 #[.pointer (some ⟨b, 0, none⟩)] w (OpL (EM b) w F (restS s)) := by
  refine cph fun R HR => ?_
  have hk : s.kind = 2 := by obtain ⟨T, cT, v, hv⟩ := h; exact hv.kind
  have HH : Hid (Calls Tryz.prog 105 #[.pointer (some ⟨b, 0, none⟩), .int .i64 0] w fun e w' => e = .returned (.bool true) ∧ w = w') := by
    obtain ⟨T, cT, v, hv⟩ := h
    have := epHas hv 0
    rw [okTh_zero hv.ok] at this
    exact this
  rw [restE hk] at HR
  have l1 := tryS_len s
  have m1 := (tryS_now s).1
  have HT1 := Lib.hid (epTry h (by omega) (by omega))
  generalize tryS s = r1 at HR l1 m1 HT1
  have l2 := tryS_len r1.st
  have m2 := (tryS_now r1.st).1
  have HT2 : Hid (∀ w1 F1, EM b w1 F1 r1.st → Calls Tryz.prog 107 #[.pointer (some ⟨b, 0, none⟩)] w1 (OpL (EM b) w1 F1 (tryS r1.st))) := fun w1 F1 a1 => epTry a1 (by omega) (by omega)
  generalize tryS r1.st = r2 at HR l2 m2 HT2
  have l3 := tryS_len r2.st
  have HT3 : Hid (∀ w1 F1, EM b w1 F1 r2.st → Calls Tryz.prog 107 #[.pointer (some ⟨b, 0, none⟩)] w1 (OpL (EM b) w1 F1 (tryS r2.st))) := fun w1 F1 a1 => epTry a1 (by omega) (by omega)
  generalize tryS r2.st = r3 at HR l3 HT3
  have hlen : [r1.back, r2.back, r3.back].flatten.length ≤ 300000 := by simp; omega
  have HL := Lib.hid hlen
  clear l1 l2 l3 m1 m2 hk hlen h
  go_enter Tryz.func61, Tryz.ntmps61
  go_wp2_with (first | (go_at_call 105; refine HH.out.mono ?_; rintro e w' ⟨rfl, rfl⟩) | (go_at_call 107; refine HC3.out.mono ?_; rintro e w3 ⟨v3, F3, rfl, o3, a3, st3, n3⟩; have k1 := own_keep H2.out.1 H2.out.2.1 st3; have k2 := own_keep H2.out.2.2.1 H2.out.2.2.2.1 st3; obtain ⟨A3, c3, hv3, i3, z3, _⟩ := ints_of_own o3; subst hv3; obtain ⟨_, _, hw1, i1, z1, _⟩ := ints_of_own k1.1; injection hw1 with e1 _ e2; subst e1; subst e2; obtain ⟨_, _, hw2, i2, z2, _⟩ := ints_of_own k2.1; injection hw2 with e3 _ e4; subst e3; subst e4; have HC4 := Lib.hid (concat3 rfl (three_at (T := 34) i1 z1 i2 z2 i3 z3) HL.out); have H3 := Lib.hid (And.intro a3 (And.intro (H2.out.2.2.2.2.trans st3) st3)); clear k1 k2 i1 i2 i3 z1 z2 z3 o3 a3 st3 n3) | (go_at_call 107; refine HC2.out.mono ?_; rintro e w2 ⟨v2, F2, rfl, o2, a2, st2, n2⟩; have k1 := own_keep H1.out.1 H1.out.2.1 st2; obtain ⟨A2, c2, hv2, _⟩ := ints_of_own o2; subst hv2; have HC3 := Lib.hid (HT3.out w2 F2 a2); have H2 := Lib.hid (And.intro k1.1 (And.intro k1.2 (And.intro o2 (And.intro n2 (H1.out.2.2.trans st2))))); clear k1 o2 a2 st2 n2) | (go_at_call 107; refine HT1.out.mono ?_; rintro e w1 ⟨v1, F1, rfl, o1, a1, st1, n1⟩; obtain ⟨A1, c1, hv1, _⟩ := ints_of_own o1; subst hv1; have HC2 := Lib.hid (HT2.out w1 F1 a1); have H1 := Lib.hid (And.intro o1 (And.intro n1 st1)); clear o1 a1 st1 n1) | (go_at_call 108; refine HC4.out.mono ?_; rintro e w5 ⟨v5, rfl, o5, g5⟩; have H5 := Lib.hid (And.intro o5 g5); clear o5 g5))
  have hg : Grow w3 w5 := ((Grow.refl w3).alloc _).trans H5.out.2
  refine HR.out _ _ ⟨v5, F3, rfl, own_base_le H5.out.1 ?_, (EM.local b).fr H3.out.1 (G := fun _ => False) hg (fun _ _ h => h), H3.out.2.1.trans ⟨hg.mono fun _ _ h => h.elim, fun k hk => .inl hk⟩, fun k hk hf => ?_⟩
  · have := H3.out.2.1.fr.size
    rw [size_alloc]
    omega
  · have h1 := (H5.out.1.lt k hk).1
    have h2 := (EM.local b).lt H3.out.1 k hf
    rw [size_alloc] at h1
    omega
end Go.Proofs.YtcgcljmnnjalpaaGreat
