/- The quiet manager, in every state: New, In, Hold, Born, Rest, Waiting. -/
import Derived.Test.YtcgcljmnnjalpaaGreatGeB
set_option linter.unusedVariables false
set_option linter.unusedSimpArgs false
namespace Go.Proofs.YtcgcljmnnjalpaaGreat
open Go.RowKit Go.Kx
open Go.ChangeMaps (setBlock)
def encQ (x : Itm) : List Value := [.int .i64 x.addr, .bool (x.for_ 0), .bool (x.for_ 1), .bool (x.for_ 2), .bool (x.for_ 3)]
theorem encQ_len (x : Itm) : (encQ x).length = 5 := rfl
def qArr (s : RS) (v : Value) : Array Value := #[.int .i64 s.n, .bool (s.ins 0), .bool (s.ins 1), .bool (s.ins 2), .bool (s.ins 3), v]
structure QMv (b : Nat) (v : Value) (w : World) (F : FP) (s : RS) : Prop where
  kind : s.kind = 5
  ok : Ok s
  blk : w.heap[b]? = some (.cells (qArr s v) 136 (0, 0))
  row : w.ownsRow 0 150 5 v s.items.length (s.items.flatMap encQ)
  fp : ∀ k, F k ↔ (k = b ∨ v.ownBlock = some k)
/-- The quiet manager at block b. -/
def QM (b : Nat) (w : World) (F : FP) (s : RS) : Prop := ∃ v, QMv b v w F s
theorem QMv.local_fr {b : Nat} {v : Value} {w w' : World} {F G : FP} {s : RS} (h : QMv b v w F s) (hf : Fr G w w') (hn : ∀ k, F k → ¬ G k) : QMv b v w' F s :=
  ⟨h.kind, h.ok, hf.at_ h.blk (hn b ((h.fp b).2 (.inl rfl))), owns_fr h.row hf (fun k hk => hn k ((h.fp k).2 (.inr hk))), h.fp⟩
theorem QMv.lt {b : Nat} {v : Value} {w : World} {F : FP} {s : RS} (h : QMv b v w F s) (k : Nat) (hk : F k) : k < w.heap.size := by
  rcases (h.fp k).1 hk with rfl | hk
  · exact blk_lt h.blk
  · exact (h.row.lt k hk).2
theorem QM.local (b : Nat) : Local (QM b) := ⟨fun ⟨v, h⟩ k hk => h.lt k hk, fun ⟨v, h⟩ hf hn => ⟨v, h.local_fr hf hn⟩⟩
theorem QMv.ne {b : Nat} {v : Value} {w : World} {F : FP} {s : RS} (h : QMv b v w F s) : v.ownBlock ≠ some b := by
  intro e
  obtain ⟨c, hc⟩ := owns_blk h.row e
  rw [h.blk] at hc
  have := congrArg (fun o => match o with | some (Obj.cells _ t _) => t | _ => 0) hc
  simp at this
theorem quHas {b : Nat} {v : Value} {w : World} {F : FP} {s : RS} (h : QMv b v w F s) (t : Int) : Calls Tryz.prog 114 #[.pointer (some ⟨b, 0, none⟩), .int .i64 t] w fun e w' => e = .returned (.bool (okTh s t)) ∧ w = w' := by
  refine cph fun R HR => ?_
  have k0 := (blk_cell h.blk 0).trans (rfl : _ = some (Value.int .i64 s.n))
  rcases okTh_cases s t h.ok.n4 with ⟨h1, e⟩ | ⟨h1, h2, e⟩ | ⟨h1, h2, e⟩
  · rw [e] at HR
    have d1 : decide (0 ≤ t) = false := decide_eq_false (by omega)
    clear h e
    go_enter Tryz.func114, Tryz.ntmps114
    go_wp2_with fail
    exact HR.out _ _ ⟨rfl, rfl⟩
  · rw [e] at HR
    have d1 : decide (0 ≤ t) = true := decide_eq_true h2
    have d2 : decide (t < (s.n : Int)) = false := decide_eq_false (by omega)
    clear h e
    go_enter Tryz.func114, Tryz.ntmps114
    go_wp2_with fail
    exact HR.out _ _ ⟨rfl, rfl⟩
  · rw [e] at HR
    have d1 : decide (0 ≤ t) = true := decide_eq_true h1
    have d2 : decide (t < (s.n : Int)) = true := decide_eq_true h2
    clear h e
    go_enter Tryz.func114, Tryz.ntmps114
    go_wp2_with fail
    exact HR.out _ _ ⟨rfl, rfl⟩
theorem okTh_nat {s : RS} {t : Int} (h : okTh s t = true) : ∃ k : Nat, t = k ∧ k < s.n := by
  simp [okTh] at h
  exact ⟨t.toNat, by omega, by omega⟩
theorem qArr_ins {s : RS} {v : Value} {t : Nat} (ht : t < 4) (x : Bool) (s' : RS) (hn : s'.n = s.n) (hi : s'.ins = upd1 s.ins t x) : (qArr s v).setIfInBounds (1 + t) (.bool x) = qArr s' v := by
  unfold qArr
  rw [hn, hi]
  obtain rfl | rfl | rfl | rfl : t = 0 ∨ t = 1 ∨ t = 2 ∨ t = 3 := by omega
  all_goals simp [upd1]
theorem Ok.in_ {s : RS} (h : Ok s) (t : Int) : Ok (inS s t).st := by
  unfold inS
  split
  · next ht =>
    obtain ⟨k, rfl, hk⟩ := okTh_nat ht
    refine ⟨h.n1, h.n4, fun t' k' hh => ?_, fun t' k' => ?_, fun t' ht' => ?_, h.forI, h.addr, h.now0⟩
    · dsimp only at hh ⊢
      split
      · unfold upd1; split
        · rfl
        · exact h.holds t' k' hh
      · exact h.holds t' k' hh
    · dsimp only
      split
      · unfold upd1; split
        · exact Int.le_refl _
        · exact h.pos t' k'
      · exact h.pos t' k'
    · dsimp only at ht' ⊢
      unfold upd1
      rw [if_neg (by simp; omega)]
      exact h.ins t' ht'
  · exact h
set_option maxHeartbeats 1000000 in
theorem quIn {b : Nat} {w : World} {F : FP} {s : RS} (h : QM b w F s) (t : Int) : Calls Tryz.prog 71 #[.pointer (some ⟨b, 0, none⟩), .int .i64 t] w (OpP (QM b) w F (inS s t)) := by
  refine cph fun R HR => ?_
  obtain ⟨v, hv⟩ := h
  have HH := Lib.hid (quHas hv t)
  have HV := Lib.hid hv
  cases ht : okTh s t
  · rw [ht] at HH
    have e : inS s t = ⟨s, [], 1⟩ := by simp [inS, ht]
    rw [e] at HR
    clear hv e
    go_enter Tryz.func71, Tryz.ntmps71
    go_wp2_with (go_at_call 114; refine HH.out.mono ?_; rintro e w' ⟨rfl, rfl⟩)
    exact HR.out _ _ (OpP.none ⟨v, HV.out⟩ (Step.refl _ _))
  · rw [ht] at HH
    have hok := hv.ok.in_ t
    obtain ⟨k, rfl, hk⟩ := okTh_nat ht
    have h4 : k < 4 := by have := hv.ok.n4; omega
    have hcell : ∃ x, w.cell? ⟨b, 1 + k, none⟩ = some x := by
      rw [blk_cell hv.blk]
      obtain rfl | rfl | rfl | rfl : k = 0 ∨ k = 1 ∨ k = 2 ∨ k = 3 := by omega
      all_goals exact ⟨_, rfl⟩
    obtain ⟨x, hx⟩ := hcell
    have hf := blk_free hv.blk (1 + k)
    have e : inS s (k : Int) = ⟨(inS s (k : Int)).st, [], 0⟩ := by simp [inS, ht]
    have hst : (inS s (k : Int)).st.n = s.n ∧ (inS s (k : Int)).st.ins = upd1 s.ins k true ∧ (inS s (k : Int)).st.kind = s.kind ∧ (inS s (k : Int)).st.items = s.items := by simp [inS, ht]
    rw [e] at HR
    have HS := Lib.hid (And.intro hok hst)
    clear hv e hok hst ht
    have hki : (k : Int) < 4 := by omega
    go_enter Tryz.func71, Tryz.ntmps71
    go_wp2_with (go_at_call 114; refine HH.out.mono ?_; rintro e w' ⟨rfl, rfl⟩)
    obtain ⟨h1, h2, h3, h4', h5⟩ := HS.out
    have hblk := blk_set HV.out.blk (1 + k) (.bool true)
    rw [qArr_ins h4 true _ h2 h3] at hblk
    refine HR.out _ _ (OpP.none (F' := F) ⟨v, h4'.trans HV.out.kind, h1, hblk, ?_, HV.out.fp⟩ ⟨(Fr.refl _ _).setCell _ _ (.inr ((HV.out.fp b).2 (.inl rfl))), fun j hj => .inl hj⟩)
    rw [h5]
    exact owns_fr HV.out.row ((Fr.refl (· = b) _).setCell _ _ (.inr rfl)) (fun j hj e => HV.out.ne (by rw [hj, e]))
theorem QMv.upd {b : Nat} {v : Value} {w : World} {F : FP} {s s' : RS} (h : QMv b v w F s) (hok : Ok s') (hk : s'.kind = s.kind) (hn : s'.n = s.n) (hi : s'.ins = s.ins) (hit : s'.items = s.items) : QMv b v w F s' :=
  ⟨hk.trans h.kind, hok, by rw [show qArr s' v = qArr s v by unfold qArr; rw [hn, hi]]; exact h.blk, by rw [hit]; exact h.row, h.fp⟩
theorem Ok.hold0 {s : RS} (h : Ok s) {t k : Nat} (ht : t < s.n) (hk : k < 3) {a : Int} (ha : 0 ≤ a) : Ok (holdS0 s t k a) := by
  refine ⟨h.n1, h.n4, fun t' k' hh => ?_, fun t' k' => ?_, h.ins, h.forI, h.addr, h.now0⟩
  · dsimp only [holdS0] at hh ⊢
    unfold upd1
    by_cases e : t' = t
    · rw [if_pos e]
      by_cases e2 : k' = k
      · omega
      · rw [if_neg e2]; subst e; exact h.holds t' k' hh
    · rw [if_neg e]; exact h.holds t' k' hh
  · dsimp only [holdS0]
    unfold upd1
    by_cases e : t' = t
    · rw [if_pos e]
      by_cases e2 : k' = k
      · rw [if_pos e2]; exact ha
      · rw [if_neg e2]; exact h.pos t k'
    · rw [if_neg e]; exact h.pos t' k'
theorem holdOk_cases (k a : Int) : (k < 0 ∧ holdOk k a = false) ∨ (3 ≤ k ∧ 0 ≤ k ∧ holdOk k a = false) ∨ (0 ≤ k ∧ k < 3 ∧ a < 0 ∧ holdOk k a = false) ∨ (0 ≤ k ∧ k < 3 ∧ 0 ≤ a ∧ holdOk k a = true) := by
  unfold holdOk
  by_cases h1 : k < 0
  · left; exact ⟨h1, by simp; omega⟩
  by_cases h2 : 3 ≤ k
  · right; left; exact ⟨h2, by omega, by simp; omega⟩
  by_cases h3 : a < 0
  · right; right; left; exact ⟨by omega, by omega, h3, by simp; omega⟩
  · right; right; right; exact ⟨by omega, by omega, by omega, by simp; omega⟩
set_option maxHeartbeats 1000000 in
theorem quHold {b : Nat} {w : World} {F : FP} {s : RS} (h : QM b w F s) (t k a : Int) : Calls Tryz.prog 189 #[.pointer (some ⟨b, 0, none⟩), .int .i64 t, .int .i64 k, .int .i64 a] w (OpP (QM b) w F (holdS s t k a)) := by
  refine cph fun R HR => ?_
  obtain ⟨v, hv⟩ := h
  have HH := Lib.hid (quHas hv t)
  have HV := Lib.hid hv
  cases ht : okTh s t
  · rw [ht] at HH
    have e : holdS s t k a = ⟨s, [], 1⟩ := by simp [holdS, ht]
    rw [e] at HR
    clear hv e
    go_enter Tryz.func189, Tryz.ntmps189
    go_wp2_with (go_at_call 114; refine HH.out.mono ?_; rintro e w' ⟨rfl, rfl⟩)
    exact HR.out _ _ (OpP.none ⟨v, HV.out⟩ (Step.refl _ _))
  · rw [ht] at HH
    rcases holdOk_cases k a with ⟨h1, e⟩ | ⟨h1, h2, e⟩ | ⟨h1, h2, h3, e⟩ | ⟨h1, h2, h3, e⟩
    iterate 3
      have e2 : holdS s t k a = ⟨s, [], 1⟩ := by simp [holdS, e]
      rw [e2] at HR
      clear hv e e2 ht
      go_enter Tryz.func189, Tryz.ntmps189
      go_wp2_with (go_at_call 114; refine HH.out.mono ?_; rintro e w' ⟨rfl, rfl⟩)
      exact HR.out _ _ (OpP.none ⟨v, HV.out⟩ (Step.refl _ _))
    have e2 : holdS s t k a = ⟨holdS0 s t.toNat k.toNat a, [], 0⟩ := by simp [holdS, ht, e, hv.kind]
    rw [e2] at HR
    obtain ⟨t', rfl, ht'⟩ := okTh_nat ht
    have HO := Lib.hid (hv.ok.hold0 (t := t') (k := k.toNat) ht' (by omega) h3)
    clear hv e e2 ht
    go_enter Tryz.func189, Tryz.ntmps189
    go_wp2_with (go_at_call 114; refine HH.out.mono ?_; rintro e w' ⟨rfl, rfl⟩)
    exact HR.out _ _ (OpP.none ⟨v, HV.out.upd HO.out rfl rfl rfl rfl⟩ (Step.refl _ _))
theorem okTh_zero {s : RS} (h : Ok s) : okTh s 0 = true := by have := h.n1; simp [okTh]; omega
theorem quBorn {b : Nat} {w : World} {F : FP} {s : RS} (h : QM b w F s) (a : Int) : Calls Tryz.prog 188 #[.pointer (some ⟨b, 0, none⟩), .int .i64 a] w (OpE (QM b) w F (bornS s a)) := by
  refine cph fun R HR => ?_
  obtain ⟨v, hv⟩ := h
  have HH := Lib.hid (quHas hv 0)
  rw [okTh_zero hv.ok] at HH
  have HV := Lib.hid hv
  by_cases ha : 0 < a
  · have e : bornS s a = ⟨s, [], 0⟩ := by simp [bornS, ha, hv.kind]
    rw [e] at HR
    have ha2 : ¬ a ≤ 0 := by omega
    clear hv e
    go_enter Tryz.func188, Tryz.ntmps188
    go_wp2_with (go_at_call 114; refine HH.out.mono ?_; rintro e w' ⟨rfl, rfl⟩)
    exact HR.out _ _ ⟨F, rfl, ⟨v, HV.out⟩, Step.refl _ _⟩
  · have e : bornS s a = ⟨s, [], 1⟩ := by simp [bornS, ha]
    rw [e] at HR
    have ha2 : a ≤ 0 := by omega
    clear hv e
    go_enter Tryz.func188, Tryz.ntmps188
    go_wp2_with (go_at_call 114; refine HH.out.mono ?_; rintro e w' ⟨rfl, rfl⟩)
    exact HR.out _ _ ⟨F, rfl, ⟨v, HV.out⟩, Step.refl _ _⟩
/-- What Waiting leaves: ints of its own. -/
def WaitP (w : World) (s : RS) (e : Ending) (w' : World) : Prop := ∃ v, e = .returned v ∧ w'.ownsRow w.heap.size 3 1 v s.items.length (s.items.map fun x => Value.int .i64 x.addr) ∧ Grow w w'
set_option maxRecDepth 100000 in
set_option maxHeartbeats 4000000 in
theorem quWaiting {b : Nat} {w : World} {F : FP} {s : RS} (h : QM b w F s) (hs : s.items.length ≤ 100000) : Calls Tryz.prog 78 #[.pointer (some ⟨b, 0, none⟩)] w (WaitP w s) := by
  refine cph fun R HR => ?_
  obtain ⟨v, hv⟩ := h
  have HH := Lib.hid (quHas hv 0)
  rw [okTh_zero hv.ok] at HH
  have k5 := (blk_cell hv.blk 5).trans (rfl : _ = some v)
  have HV := Lib.hid hv
  obtain ⟨i0, hi, hz0, hz1, hz2⟩ := info_parts info3x
  have HI := Lib.hid (And.intro hi (And.intro hz0 (And.intro hz1 hz2)))
  clear hi hz0 hz1 hz2
  have hsh : ∃ A cap, v = .slice A s.items.length cap ∧ (s.items ≠ [] → ∃ g, A = some ⟨g, 0, none⟩) := by
    rcases own_val hv.row with ⟨rfl, h0⟩ | ⟨g, cap, rfl, _⟩
    · have : s.items = [] := List.eq_nil_of_length_eq_zero h0
      exact ⟨none, 0, by rw [h0], fun h => absurd this h⟩
    · exact ⟨_, cap, rfl, fun _ => ⟨g, rfl⟩⟩
  obtain ⟨A, cap, rfl, hA⟩ := hsh
  have HA := Lib.hid hA
  clear hv hA
  go_enter Tryz.func78, Tryz.ntmps78
  go_wp2_with (go_at_call 114; refine HH.out.mono ?_; rintro e w' ⟨rfl, rfl⟩)
  go_loopw [3, 14] (fun u i wr => ∃ k : Nat, k ≤ s.items.length ∧ i = .int .i64 k ∧ Hid (wr.ownsRow w.heap.size 3 1 u k ((s.items.map fun x => Value.int .i64 x.addr).take k) ∧ Grow w wr)) (fun _ i _ => s.items.length - (intOf i).toNat)
  case atStart => exact ⟨0, by omega, rfl, World.ownsRow_nil _ _ _ _, Grow.refl _⟩
  case round =>
    obtain ⟨k, hk, rfl, HO⟩ := hrel
    by_cases hlt : k < s.items.length
    · obtain ⟨x, hx⟩ : ∃ x, s.items[k]? = some x := ⟨s.items[k], by simp [hlt]⟩
      obtain ⟨g, rfl⟩ := HA.out (by intro e; rw [e] at hlt; simp at hlt)
      have c0 := HO.out.2.cell ((own_at encQ_len HV.out.row hx (o := 0) (by omega)).trans rfl)
      have c1 := HO.out.2.cell ((own_at encQ_len HV.out.row hx (o := 1) (by omega)).trans rfl)
      have c2 := HO.out.2.cell ((own_at encQ_len HV.out.row hx (o := 2) (by omega)).trans rfl)
      have c3 := HO.out.2.cell ((own_at encQ_len HV.out.row hx (o := 3) (by omega)).trans rfl)
      have c4 := HO.out.2.cell ((own_at encQ_len HV.out.row hx (o := 4) (by omega)).trans rfl)
      have hki : (k : Int) < (s.items.length : Int) := by omega
      have hgs := HO.out.2.size
      have HX := Lib.hid hx
      clear hx
      rw [Nat.add_zero] at c0
      generalize x.for_ 0 = f0 at c1
      generalize x.for_ 1 = f1 at c2
      generalize x.for_ 2 = f2 at c3
      generalize x.for_ 3 = f3 at c4
      go_wp2_with (at_builtin; refine wpList_append_own_at _ rfl (.tmp 18) (.tmp 21) 34 rfl w.heap.size 3 i0 (.int .i64 0) 1 8 Tryz.underlying34 HI.out.1 HI.out.2.1 HI.out.2.2.1 HI.out.2.2.2 rfl (by decide) _ _ _ rfl ((HO.out.1.alloc _).alloc _) ⟨wr.heap.size + 1, 0, none⟩ 1 1 [.int .i64 x.addr] rfl rfl ?c2 (by simp [Value.oneCell']) (by unfold maxLen; omega) (by omega) (by simp; omega) ?_)
      case c2 =>
        have := cell_one_new (wr.alloc (Obj.cells #[.int .i64 x.addr, .bool f0, .bool f1, .bool f2, .bool f3] 150)) (.int .i64 x.addr) 3
        rw [size_alloc] at this
        exact this
      intro v' w3 hown hgrow _ hat
      have H7 : Hid (w3.ownsRow w.heap.size 3 1 v' (k + 1) ((s.items.map fun x => Value.int .i64 x.addr).take (k + 1)) ∧ Grow w w3) := ⟨by
        rw [List.take_add_one, List.getElem?_map, HX.out]; exact hown, ((HO.out.2.alloc _).alloc _).grown hgrow (fun j e => (HO.out.1.lt j e).1)⟩
      clear hown hgrow hat
      go_wp2_with fail
      go_roundw
      case rel => exact ⟨k + 1, by omega, by go_num, H7.out⟩
      case measure => simp [intOf] <;> omega
    · obtain rfl : k = s.items.length := by omega
      have hki : ¬ (s.items.length : Int) < (s.items.length : Int) := by omega
      go_wp2_with fail
      refine HR.out _ _ ⟨_, rfl, ?_, HO.out.2⟩
      have := HO.out.1
      rwa [List.take_of_length_le (by simp)] at this
end Go.Proofs.YtcgcljmnnjalpaaGreat
