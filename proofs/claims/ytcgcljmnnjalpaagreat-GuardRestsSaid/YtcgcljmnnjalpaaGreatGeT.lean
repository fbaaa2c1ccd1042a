/- The quiet manager, in every state: Retire, Rest, New. -/
import Derived.Test.YtcgcljmnnjalpaaGreatGeR
set_option linter.unusedVariables false
set_option linter.unusedSimpArgs false
namespace Go.Proofs.YtcgcljmnnjalpaaGreat
open Go.RowKit Go.Kx
open Go.ChangeMaps (setBlock)
theorem Ok.ret0 {s : RS} (h : Ok s) (t a : Int) (ha : 0 < a) : Ok (retS0 s t a) := by
  refine ⟨h.n1, h.n4, h.holds, h.pos, h.ins, fun x hx t' ht' => ?_, fun x hx => ?_, h.now0⟩
  · dsimp only [retS0] at hx ht'
    rcases List.mem_append.1 hx with hx | hx
    · exact h.forI x hx t' ht'
    · rw [List.mem_singleton.1 hx]
      unfold mkItm
      dsimp only
      split
      · exact h.ins t' ht'
      · rfl
  · dsimp only [retS0] at hx
    rcases List.mem_append.1 hx with hx | hx
    · exact h.addr x hx
    · rw [List.mem_singleton.1 hx]; exact ha
theorem waits_mem (s : RS) (a : Int) : waitsB s a = decide (a ∈ s.items.map (·.addr)) := by
  rw [Bool.eq_iff_iff, decide_eq_true_iff]
  unfold waitsB
  rw [List.any_eq_true, List.mem_map]
  simp
theorem wait_ints (s : RS) : (s.items.map fun x => Value.int .i64 x.addr) = (s.items.map (·.addr)).map (Value.int .i64) := by rw [List.map_map]; rfl
theorem OpL.toP2 {At : World → FP → RS → Prop} {w w1 w' : World} {F F1 : FP} {r : RO} {e : Ending} (h : OpL At w1 F1 r e w') (hs : Step F w F1 w1) : ∃ v, e = .returned v ∧ OpP At w F ⟨r.st, r.back, 0⟩ (.returned (.tuple #[v, .int .i64 0])) w' := by
  obtain ⟨v, F', rfl, h1, h2, h3, h4⟩ := h
  exact ⟨v, rfl, v, F', rfl, own_base_le h1 hs.fr.size, h2, hs.trans h3, h4⟩
set_option maxRecDepth 100000 in
set_option maxHeartbeats 4000000 in
theorem quRetire {b : Nat} {w : World} {F : FP} {s : RS} (h : QM b w F s) (hs : s.items.length ≤ 100000) (t a : Int) : Calls Tryz.prog 73 #[.pointer (some ⟨b, 0, none⟩), .int .i64 t, .int .i64 a] w (OpP (QM b) w F (retS s t a)) := by
  refine cph fun R HR => ?_
  have HWt := Lib.hid (quWaiting h hs)
  have HQ := Lib.hid h
  obtain ⟨v, hv⟩ := h
  have HH := Lib.hid (quHas hv t)
  have HV := Lib.hid hv
  cases ht : okTh s t
  · rw [ht] at HH
    have e : retS s t a = ⟨s, [], 1⟩ := by simp [retS, ht]
    rw [e] at HR
    clear hv e
    go_enter Tryz.func73, Tryz.ntmps73
    go_wp2_with (go_at_call 114; refine HH.out.mono ?_; rintro e w' ⟨rfl, rfl⟩)
    exact HR.out _ _ (OpP.none ⟨v, HV.out⟩ (Step.refl _ _))
  rw [ht] at HH
  by_cases ha : a ≤ 0
  · have e : retS s t a = ⟨s, [], 1⟩ := by simp [retS]; omega
    rw [e] at HR
    clear hv e ht
    go_enter Tryz.func73, Tryz.ntmps73
    go_wp2_with (go_at_call 114; refine HH.out.mono ?_; rintro e w' ⟨rfl, rfl⟩)
    exact HR.out _ _ (OpP.none ⟨v, HV.out⟩ (Step.refl _ _))
  have ha0 : 0 < a := by omega
  cases hw : waitsB s a
  · have e : retS s t a = ⟨(sweepS (retS0 s t a) fun _ => true).st, (sweepS (retS0 s t a) fun _ => true).back, 0⟩ := by simp [retS, ht, ha0, hw, hv.kind, sweepS]
    rw [e] at HR
    rw [waits_mem] at hw
    have hokr := Lib.hid (hv.ok.ret0 t a ha0)
    obtain ⟨i1, hi, hz0, hz1, hz2⟩ := info_parts infoW
    have HJ := Lib.hid (And.intro hi (And.intro hz0 (And.intro hz1 hz2)))
    have HW2 := Lib.hid hw
    clear hi hz0 hz1 hz2 hv e ht hw
    go_enter Tryz.func73, Tryz.ntmps73
    go_wp2_with (first | (go_at_call 114; refine HH.out.mono ?_; rintro e w' ⟨rfl, rfl⟩) | (go_at_call 78; refine HWt.out.mono ?_))
    rintro e w2 ⟨v2, rfl, hown2, hg2⟩
    rw [wait_ints, show s.items.length = (s.items.map (·.addr)).length by simp] at hown2
    obtain ⟨A2, c2, rfl, hints, _⟩ := ints_of_own hown2
    have hcon := containsI_any (cap := c2) a hints (by simp; omega)
    rw [HW2.out, List.length_map] at hcon
    have HC := Lib.hid hcon
    have hblk := hg2.at_ HV.out.blk
    have hrow := owns_grow HV.out.row hg2
    have k1 := (blk_cell hblk 1).trans (rfl : _ = some (Value.bool (s.ins 0)))
    have k2 := (blk_cell hblk 2).trans (rfl : _ = some (Value.bool (s.ins 1)))
    have k3 := (blk_cell hblk 3).trans (rfl : _ = some (Value.bool (s.ins 2)))
    have k4 := (blk_cell hblk 4).trans (rfl : _ = some (Value.bool (s.ins 3)))
    have k5 := (blk_cell hblk 5).trans (rfl : _ = some v)
    have f5 := blk_free hblk 5
    have hbl := blk_lt hblk
    have H2 := Lib.hid (And.intro hblk (And.intro hrow hg2))
    have hgs := hg2.size
    clear hints hcon hown2 hblk hrow hg2
    have henc : Hid ([Value.int .i64 a, .bool (s.ins 0), .bool (s.ins 1), .bool (s.ins 2), .bool (s.ins 3)] = encQ (mkItm s t a)) := by show _ = _; simp [encQ, mkItm, HV.out.kind]
    generalize s.ins 0 = n0 at k1 henc
    generalize s.ins 1 = n1 at k2 henc
    generalize s.ins 2 = n2 at k3 henc
    generalize s.ins 3 = n3 at k4 henc
    obtain ⟨A5, m5, c5, hv5⟩ := own_sl H2.out.2.1
    subst hv5
    go_wp2_with (go_at_call 106; refine HC.out.mono ?_; rintro e w' ⟨rfl, rfl⟩)
    go_region_law ((refine step_append_own rfl (.tmp 24) (.tmp 31) 134 rfl 0 150 i1 (.agg #[.int .i64 0, .bool false, .bool false, .bool false, .bool false]) 5 16 Tryz.underlying134 HJ.out.1 HJ.out.2.1 HJ.out.2.2.1 HJ.out.2.2.2 rfl (by decide) _ s.items.length (s.items.flatMap encQ) rfl (H2.out.2.1.alloc _) ⟨w2.heap.size, 0, none⟩ 1 1 [.int .i64 a, .bool n0, .bool n1, .bool n2, .bool n3] rfl rfl (cells_new w2.drew [.int .i64 a, .bool n0, .bool n1, .bool n2, .bool n3] 150) (by simp [Value.oneCell']) (by unfold maxLen; omega) (by omega) (by simp) ?_); intro v1 w3 hown hgrow _ hat; obtain ⟨g, cap, rfl⟩ := own_some hown; have hb3 : w3.heap[b]? = some (.cells (qArr s (.slice A5 m5 c5)) 136 (0, 0)) := (fr_grown hgrow).at_ (blk_alloc' _ H2.out.1) (fun e => HV.out.ne e); have k5' := (blk_cell hb3 5).trans (rfl : _ = some (Value.slice A5 m5 c5)); have f5' := blk_free hb3 5; have H8 := Lib.hid (And.intro hb3 (And.intro hown (And.intro hgrow hat))); clear hb3 hown hgrow hat)
    all_goals
      have hgb : g ≠ b := by
        rintro rfl
        rcases H8.out.2.2.2 with e | e
        · exact HV.out.ne (e ▸ rfl)
        · simp [Value.ownBlock] at e
          omega
      have hb4 := blk_set H8.out.1 5 (.slice (some ⟨g, 0, none⟩) (s.items.length + 1) cap)
      have hq : QM b (w3.setCell ⟨b, 5, none⟩ (.slice (some ⟨g, 0, none⟩) (s.items.length + 1) cap)) (fun k => k = b ∨ (Value.slice (some ⟨g, 0, none⟩) (s.items.length + 1) cap).ownBlock = some k) (retS0 s t a) := by
        refine ⟨_, HV.out.kind, hokr.out, hb4, ?_, fun k => Iff.rfl⟩
        have h1 := owns_fr H8.out.2.1 ((Fr.refl (· = b) w3).setCell ⟨b, 5, none⟩ (.slice (some ⟨g, 0, none⟩) (s.items.length + 1) cap) (.inr rfl)) (fun j hj e => by
          have : g = j := by simpa [Value.ownBlock] using hj
          exact hgb (this.trans e))
        rw [henc.out] at h1
        simpa [retS0] using h1
      have hfr : Fr F w2 (w3.setCell ⟨b, 5, none⟩ (.slice (some ⟨g, 0, none⟩) (s.items.length + 1) cap)) :=
        ((((Fr.refl F w2).drew).alloc _).grown H8.out.2.2.1 (fun k e => .inr ((HV.out.fp k).2 (.inr e)))).setCell _ _ (.inr ((HV.out.fp b).2 (.inl rfl)))
      have HSt : Hid (Step F w (fun k => k = b ∨ (Value.slice (some ⟨g, 0, none⟩) (s.items.length + 1) cap).ownBlock = some k) (w3.setCell ⟨b, 5, none⟩ (.slice (some ⟨g, 0, none⟩) (s.items.length + 1) cap))) := Step.mono H2.out.2.2 hfr (fun k hk => by
        rcases hk with rfl | hk
        · exact .inl ((HV.out.fp k).2 (.inl rfl))
        · rcases H8.out.2.2.2 with e | e
          · exact .inl ((HV.out.fp k).2 (.inr (e ▸ hk)))
          · rw [e] at hk
            simp at hk
            exact .inr (by omega))
      have HOv := Lib.hid (quOver hq (by simp [retS0]; omega))
      clear hb4 hq hfr
      go_wp2_with (go_at_call 115; refine HOv.out.mono ?_; intro e w9 ho; obtain ⟨v9, rfl, hp9⟩ := OpL.toP2 ho HSt.out; have H9 := Lib.hid hp9; clear hp9 ho)
      exact HR.out _ _ H9.out
  · have e : retS s t a = ⟨s, [], 6⟩ := by simp [retS, ht, ha0, hw]
    rw [e] at HR
    rw [waits_mem] at hw
    have HW2 := Lib.hid hw
    clear hv e ht hw
    go_enter Tryz.func73, Tryz.ntmps73
    go_wp2_with (first | (go_at_call 114; refine HH.out.mono ?_; rintro e w' ⟨rfl, rfl⟩) | (go_at_call 78; refine HWt.out.mono ?_))
    rintro e w2 ⟨v2, rfl, hown2, hg2⟩
    rw [wait_ints, show s.items.length = (s.items.map (·.addr)).length by simp] at hown2
    obtain ⟨A2, c2, rfl, hints, _⟩ := ints_of_own hown2
    have hcon := containsI_any (cap := c2) a hints (by simp; omega)
    rw [HW2.out, List.length_map] at hcon
    have HC := Lib.hid hcon
    have H2 := Lib.hid hg2
    clear hints hcon hown2 hg2
    go_wp2_with (go_at_call 106; refine HC.out.mono ?_; rintro e w' ⟨rfl, rfl⟩)
    exact HR.out _ _ (OpP.none ⟨v, HV.out.local_fr H2.out (fun _ _ h => h)⟩ ⟨H2.out.mono (fun _ _ h => h.elim), fun k hk => .inl hk⟩)
theorem quRest {b : Nat} {w : World} {F : FP} {s : RS} (h : QM b w F s) : Calls Tryz.prog 191 #[.pointer (some ⟨b, 0, none⟩)] w fun e w' => e = .returned (.slice none 0 0) ∧ w = w' := by
  refine cph fun R HR => ?_
  clear h
  go_enter Tryz.func191, Tryz.ntmps191
  go_wp2_with fail
  exact HR.out _ _ ⟨rfl, rfl⟩
/-- New: a manager of its own, or none. -/
def NewP (At : Nat → World → FP → RS → Prop) (k : Int) (w : World) (t : Int) (e : Ending) (w' : World) : Prop :=
  if 1 ≤ t ∧ t ≤ 4 then ∃ b F, e = .returned (.tuple #[.pointer (some ⟨b, 0, none⟩), .int .i64 0]) ∧ At b w' F (newS k t.toNat) ∧ Grow w w' ∧ ∀ j, F j → w.heap.size ≤ j
  else e = .returned (.tuple #[.pointer none, .int .i64 1]) ∧ Grow w w'
theorem ok_new (k : Int) {n : Nat} (h1 : 1 ≤ n) (h4 : n ≤ 4) : Ok (newS k n) :=
  ⟨h1, h4, fun _ _ _ => rfl, fun _ _ => Int.le_refl _, fun _ _ => rfl, fun x hx => by simp [newS] at hx, fun x hx => by simp [newS] at hx, Int.le_refl _⟩
theorem NewP.no {At : Nat → World → FP → RS → Prop} {k : Int} {w w' : World} {t : Int} (h : ¬ (1 ≤ t ∧ t ≤ 4)) (hg : Grow w w') : NewP At k w t (.returned (.tuple #[.pointer none, .int .i64 1])) w' := by
  unfold NewP; rw [if_neg h]; exact ⟨rfl, hg⟩
theorem NewP.yes {At : Nat → World → FP → RS → Prop} {k : Int} {w w' : World} {t : Int} {b : Nat} {F : FP} (h : 1 ≤ t ∧ t ≤ 4) (hA : At b w' F (newS k t.toNat)) (hg : Grow w w') (hF : ∀ j, F j → w.heap.size ≤ j) : NewP At k w t (.returned (.tuple #[.pointer (some ⟨b, 0, none⟩), .int .i64 0])) w' := by
  unfold NewP; rw [if_pos h]; exact ⟨b, F, rfl, hA, hg, hF⟩
set_option maxHeartbeats 1000000 in
theorem quNew (w : World) (t : Int) : Calls Tryz.prog 52 #[.int .i64 t] w (NewP QM 5 w t) := by
  refine cph fun R HR => ?_
  by_cases h1 : t < 1
  · go_enter Tryz.func52, Tryz.ntmps52
    go_wp2_with fail
    exact HR.out _ _ (NewP.no (by omega) (Grow.refl _))
  by_cases h4 : 4 < t
  · go_enter Tryz.func52, Tryz.ntmps52
    go_wp2_with fail
    exact HR.out _ _ (NewP.no (by omega) (Grow.refl _))
  obtain ⟨n, rfl⟩ := Int.eq_ofNat_of_zero_le (a := t) (by omega)
  have HQ : Hid (QM w.heap.size (w.alloc (.cells #[.int .i64 n, .bool false, .bool false, .bool false, .bool false, .slice none 0 0] 136)) (fun k => k = w.heap.size ∨ (Value.slice none 0 0).ownBlock = some k) (newS 5 n)) :=
    ⟨.slice none 0 0, rfl, ok_new 5 (by omega) (by omega), blk_new _ _, World.ownsRow_nil _ _ _ _, fun k => Iff.rfl⟩
  go_enter Tryz.func52, Tryz.ntmps52
  go_wp2_with fail
  exact HR.out _ _ (NewP.yes ⟨by omega, by omega⟩ HQ.out ((Grow.refl _).alloc _) (fun j hj => by
    rcases hj with rfl | hj
    · exact Nat.le_refl _
    · simp [Value.ownBlock] at hj))
theorem sweep_none {s : RS} {p : Itm → Bool} (h : ∀ x ∈ s.items, (p x && freeB s x) = false) : sweepS s p = ⟨s, [], 0⟩ := by
  have e1 : s.items.filter (fun x => p x && freeB s x) = [] := List.filter_eq_nil_iff.2 fun x hx => by rw [h x hx]; simp
  have e2 : s.items.filter (fun x => !(p x && freeB s x)) = s.items := List.filter_eq_self.2 fun x hx => by rw [h x hx]; rfl
  unfold sweepS
  rw [e1, e2]
  simp
theorem sweep_left {s : RS} {p : Itm → Bool} {x : Itm} (h : x ∈ (sweepS s p).st.items) : x ∈ s.items ∧ (p x && freeB s x) = false := by
  unfold sweepS at h
  obtain ⟨h1, h2⟩ := List.mem_filter.1 h
  exact ⟨h1, by simpa only [Bool.not_eq_true'] using h2⟩
/-- The quiet manager between two calls: what waits, waits for somebody. -/
def QG (b : Nat) (w : World) (F : FP) (s : RS) : Prop := QM b w F s ∧ ∀ x ∈ s.items, goneQ x = false
theorem QM.kind {b : Nat} {w : World} {F : FP} {s : RS} (h : QM b w F s) : s.kind = 5 := by obtain ⟨v, h⟩ := h; exact h.kind
theorem QM.ok {b : Nat} {w : World} {F : FP} {s : RS} (h : QM b w F s) : Ok s := by obtain ⟨v, h⟩ := h; exact h.ok
theorem OpP.with {At At' : World → FP → RS → Prop} {w : World} {F : FP} {r : RO} {e : Ending} {w' : World} (h : OpP At w F r e w') (hh : ∀ F' w', At w' F' r.st → At' w' F' r.st) : OpP At' w F r e w' := by
  obtain ⟨v, F', h1, h2, h3, h4⟩ := h
  exact ⟨v, F', h1, h2, hh _ _ h3, h4⟩
theorem QG.local (b : Nat) : Local (QG b) := ⟨fun h => (QM.local b).lt h.1, fun h hf hn => ⟨(QM.local b).fr h.1 hf hn, h.2⟩⟩
theorem swept {s : RS} (hk : s.kind = 5) : ∀ x ∈ (sweepS s fun _ => true).st.items, goneQ x = false := fun x hx => by
  have := (sweep_left hx).2
  rw [Bool.true_and, freeQ hk] at this
  exact this
theorem qgIn {b : Nat} {w : World} {F : FP} {s : RS} (h : QG b w F s) (t : Int) : Calls Tryz.prog 71 #[.pointer (some ⟨b, 0, none⟩), .int .i64 t] w (OpP (QG b) w F (inS s t)) :=
  (quIn h.1 t).mono fun e w' ho => ho.with fun F' w' hq => ⟨hq, fun x hx => h.2 x (by unfold inS at hx; split at hx <;> exact hx)⟩
theorem qgHold {b : Nat} {w : World} {F : FP} {s : RS} (h : QG b w F s) (t k a : Int) : Calls Tryz.prog 189 #[.pointer (some ⟨b, 0, none⟩), .int .i64 t, .int .i64 k, .int .i64 a] w (OpP (QG b) w F (holdS s t k a)) :=
  (quHold h.1 t k a).mono fun e w' ho => ho.with fun F' w' hq => ⟨hq, fun x hx => h.2 x (by
    have hk := h.1.kind
    unfold holdS at hx
    rw [if_neg (fun h => (by have := h.1; omega) : ¬ (s.kind = 3 ∧ s.ins t.toNat = false)), if_neg (by omega : ¬ s.kind = 4)] at hx
    split at hx <;> exact hx)⟩
theorem qgOut {b : Nat} {w : World} {F : FP} {s : RS} (h : QG b w F s) (hs : s.items.length ≤ 100000) (t : Int) : Calls Tryz.prog 72 #[.pointer (some ⟨b, 0, none⟩), .int .i64 t] w (OpP (QG b) w F (outS s t)) :=
  (quOut h.1 (by omega) t).mono fun e w' ho => ho.with fun F' w' hq => ⟨hq, fun x hx => by
    have hk := h.1.kind
    unfold outS at hx
    rw [if_pos (by omega : s.kind = 3 ∨ s.kind = 4 ∨ s.kind = 5)] at hx
    split at hx
    · exact swept (s := outS0 s t.toNat) hk x hx
    · exact h.2 x hx⟩
theorem qgRetire {b : Nat} {w : World} {F : FP} {s : RS} (h : QG b w F s) (hs : s.items.length ≤ 100000) (t a : Int) : Calls Tryz.prog 73 #[.pointer (some ⟨b, 0, none⟩), .int .i64 t, .int .i64 a] w (OpP (QG b) w F (retS s t a)) :=
  (quRetire h.1 hs t a).mono fun e w' ho => ho.with fun F' w' hq => ⟨hq, fun x hx => by
    have hk := h.1.kind
    unfold retS at hx
    rw [if_neg (by omega : ¬ s.kind = 1), if_neg (by omega : ¬ s.kind = 2)] at hx
    split at hx
    · split at hx
      · exact h.2 x hx
      · exact swept (s := retS0 s t a) hk x hx
    · exact h.2 x hx⟩
theorem qgBorn {b : Nat} {w : World} {F : FP} {s : RS} (h : QG b w F s) (a : Int) : Calls Tryz.prog 188 #[.pointer (some ⟨b, 0, none⟩), .int .i64 a] w (OpE (QG b) w F (bornS s a)) :=
  (quBorn h.1 a).mono fun e w' ⟨F', h1, h2, h3⟩ => ⟨F', h1, ⟨h2, fun x hx => h.2 x (by
    unfold bornS at hx
    rw [if_neg (by have := h.1.kind; omega : ¬ s.kind = 3)] at hx
    split at hx <;> exact hx)⟩, h3⟩
theorem qgRest {b : Nat} {w : World} {F : FP} {s : RS} (h : QG b w F s) : Calls Tryz.prog 191 #[.pointer (some ⟨b, 0, none⟩)] w (OpL (QG b) w F (restS s)) :=
  (quRest h.1).mono fun e w' ⟨h1, h2⟩ => by
    subst h2
    have e2 : restS s = ⟨s, [], 0⟩ := by
      unfold restS
      have hk := h.1.kind
      rw [if_neg (by omega), if_neg (by omega)]
      exact sweep_none fun x hx => by rw [Bool.true_and, freeQ hk]; exact h.2 x hx
    rw [e2]
    exact ⟨_, F, h1, World.ownsRow_nil _ _ _ _, h, Step.refl _ _, fun k hk => by simp [Value.ownBlock] at hk⟩
theorem qgNew (w : World) (t : Int) : Calls Tryz.prog 52 #[.int .i64 t] w (NewP QG 5 w t) :=
  (quNew w t).mono fun e w' h => by
    unfold NewP at h ⊢
    split
    · next ht =>
      rw [if_pos ht] at h
      obtain ⟨b, F, h1, h2, h3⟩ := h
      exact ⟨b, F, h1, ⟨h2, fun x hx => by simp [newS] at hx⟩, h3⟩
    · next ht => rwa [if_neg ht] at h
end Go.Proofs.YtcgcljmnnjalpaaGreat
