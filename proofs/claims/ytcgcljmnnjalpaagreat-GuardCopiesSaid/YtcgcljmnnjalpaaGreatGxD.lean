/- The quiet manager, in every state: New, In, Hold, Born, Rest, Waiting. The quiet manager, in every state: over, Out, Retire, Rest, New. The quiet manager, in every state: Retire, Rest, New. The manager that never gives back, in every state. -/
import Derived.Test.YtcgcljmnnjalpaaGreatGxC
set_option linter.unusedVariables false
set_option linter.unusedSimpArgs false
namespace Go.Proofs.YtcgcljmnnjalpaaGreat
open Go.RowKit Go.Kx
open Go.ChangeMaps (setBlock)
def encQ (x : Itm) : List Value := [.int .i64 x.addr, .bool (x.for_ 0), .bool (x.for_ 1), .bool (x.for_ 2), .bool (x.for_ 3)]
theorem encQ_len (x : Itm) : (encQ x).length = 5 := rfl
def qArr (s : RS) (v : Value) : Array Value := #[.int .i64 s.n, .bool (s.ins 0), .bool (s.ins 1), .bool (s.ins 2), .bool (s.ins 3), v]
structure QMv (b : Nat) (v : Value) (w : World) (F : FP) (s : RS) : Prop where
  kind : s.kind = 5
  ok : Ok s
  blk : w.heap[b]? = some (.cells (qArr s v) 136 (0, 0))
  row : w.ownsRow 0 150 5 v s.items.length (s.items.flatMap encQ)
  fp : ∀ k, F k ↔ (k = b ∨ v.ownBlock = some k)
/-- The quiet manager at block b. -/
def QM (b : Nat) (w : World) (F : FP) (s : RS) : Prop := ∃ v, QMv b v w F s
theorem QMv.local_fr {b : Nat} {v : Value} {w w' : World} {F G : FP} {s : RS} (h : QMv b v w F s) (hf : Fr G w w') (hn : ∀ k, F k → ¬ G k) : QMv b v w' F s :=
  ⟨h.kind, h.ok, hf.at_ h.blk (hn b ((h.fp b).2 (.inl rfl))), owns_fr h.row hf (fun k hk => hn k ((h.fp k).2 (.inr hk))), h.fp⟩
theorem QMv.lt {b : Nat} {v : Value} {w : World} {F : FP} {s : RS} (h : QMv b v w F s) (k : Nat) (hk : F k) : k < w.heap.size := by
  rcases (h.fp k).1 hk with rfl | hk
  · exact blk_lt h.blk
  · exact (h.row.lt k hk).2
theorem QM.local (b : Nat) : Local (QM b) := ⟨fun ⟨v, h⟩ k hk => h.lt k hk, fun ⟨v, h⟩ hf hn => ⟨v, h.local_fr hf hn⟩⟩
theorem QMv.ne {b : Nat} {v : Value} {w : World} {F : FP} {s : RS} (h : QMv b v w F s) : v.ownBlock ≠ some b := by
  intro e
  obtain ⟨c, hc⟩ := owns_blk h.row e
  rw [h.blk] at hc
  have := congrArg (fun o => match o with | some (Obj.cells _ t _) => t | _ => 0) hc
  simp at this
theorem quHas {b : Nat} {v : Value} {w : World} {F : FP} {s : RS} (h : QMv b v w F s) (t : Int) : Calls Tryz.prog 114 #[.pointer (some ⟨b, 0, none⟩), .int .i64 t] w fun e w' => e = .returned (.bool (okTh s t)) ∧ w = w' := by
  refine cph fun R HR => ?_
  have k0 := (blk_cell h.blk 0).trans (rfl : _ = some (Value.int .i64 s.n))
  rcases okTh_cases s t h.ok.n4 with ⟨h1, e⟩ | ⟨h1, h2, e⟩ | ⟨h1, h2, e⟩
  · rw [e] at HR
    have d1 : decide (0 ≤ t) = false := decide_eq_false (by omega)
    clear h e
    go_enter Tryz.func114, Tryz.ntmps114
    go_wp2_with fail
    exact HR.out _ _ ⟨rfl, rfl⟩
  · rw [e] at HR
    have d1 : decide (0 ≤ t) = true := decide_eq_true h2
    have d2 : decide (t < (s.n : Int)) = false := decide_eq_false (by omega)
    clear h e
    go_enter Tryz.func114, Tryz.ntmps114
    go_wp2_with fail
    exact HR.out _ _ ⟨rfl, rfl⟩
  · rw [e] at HR
    have d1 : decide (0 ≤ t) = true := decide_eq_true h1
    have d2 : decide (t < (s.n : Int)) = true := decide_eq_true h2
    clear h e
    go_enter Tryz.func114, Tryz.ntmps114
    go_wp2_with fail
    exact HR.out _ _ ⟨rfl, rfl⟩
theorem okTh_nat {s : RS} {t : Int} (h : okTh s t = true) : ∃ k : Nat, t = k ∧ k < s.n := by
  simp [okTh] at h
  exact ⟨t.toNat, by omega, by omega⟩
theorem qArr_ins {s : RS} {v : Value} {t : Nat} (ht : t < 4) (x : Bool) (s' : RS) (hn : s'.n = s.n) (hi : s'.ins = upd1 s.ins t x) : (qArr s v).setIfInBounds (1 + t) (.bool x) = qArr s' v := by
  unfold qArr
  rw [hn, hi]
  obtain rfl | rfl | rfl | rfl : t = 0 ∨ t = 1 ∨ t = 2 ∨ t = 3 := by omega
  all_goals simp [upd1]
theorem Ok.in_ {s : RS} (h : Ok s) (t : Int) : Ok (inS s t).st := by
  unfold inS
  split
  · next ht =>
    obtain ⟨k, rfl, hk⟩ := okTh_nat ht
    refine ⟨h.n1, h.n4, fun t' k' hh => ?_, fun t' k' => ?_, fun t' ht' => ?_, h.forI, h.addr, h.now0⟩
    · dsimp only at hh ⊢
      split
      · unfold upd1; split
        · rfl
        · exact h.holds t' k' hh
      · exact h.holds t' k' hh
    · dsimp only
      split
      · unfold upd1; split
        · exact Int.le_refl _
        · exact h.pos t' k'
      · exact h.pos t' k'
    · dsimp only at ht' ⊢
      unfold upd1
      rw [if_neg (by simp; omega)]
      exact h.ins t' ht'
  · exact h
set_option maxHeartbeats 1000000 in
theorem quIn {b : Nat} {w : World} {F : FP} {s : RS} (h : QM b w F s) (t : Int) : Calls Tryz.prog 71 #[.pointer (some ⟨b, 0, none⟩), .int .i64 t] w (OpP (QM b) w F (inS s t)) := by
  refine cph fun R HR => ?_
  obtain ⟨v, hv⟩ := h
  have HH := Lib.hid (quHas hv t)
  have HV := Lib.hid hv
  cases ht : okTh s t
  · rw [ht] at HH
    have e : inS s t = ⟨s, [], 1⟩ := by simp [inS, ht]
    rw [e] at HR
    clear hv e
    go_enter Tryz.func71, Tryz.ntmps71
    go_wp2_with (go_at_call 114; refine HH.out.mono ?_; rintro e w' ⟨rfl, rfl⟩)
    exact HR.out _ _ (OpP.none ⟨v, HV.out⟩ (Step.refl _ _))
  · rw [ht] at HH
    have hok := hv.ok.in_ t
    obtain ⟨k, rfl, hk⟩ := okTh_nat ht
    have h4 : k < 4 := by have := hv.ok.n4; omega
    have hcell : ∃ x, w.cell? ⟨b, 1 + k, none⟩ = some x := by
      rw [blk_cell hv.blk]
      obtain rfl | rfl | rfl | rfl : k = 0 ∨ k = 1 ∨ k = 2 ∨ k = 3 := by omega
      all_goals exact ⟨_, rfl⟩
    obtain ⟨x, hx⟩ := hcell
    have hf := blk_free hv.blk (1 + k)
    have e : inS s (k : Int) = ⟨(inS s (k : Int)).st, [], 0⟩ := by simp [inS, ht]
    have hst : (inS s (k : Int)).st.n = s.n ∧ (inS s (k : Int)).st.ins = upd1 s.ins k true ∧ (inS s (k : Int)).st.kind = s.kind ∧ (inS s (k : Int)).st.items = s.items := by simp [inS, ht]
    rw [e] at HR
    have HS := Lib.hid (And.intro hok hst)
    clear hv e hok hst ht
    have hki : (k : Int) < 4 := by omega
    go_enter Tryz.func71, Tryz.ntmps71
    go_wp2_with (go_at_call 114; refine HH.out.mono ?_; rintro e w' ⟨rfl, rfl⟩)
    obtain ⟨h1, h2, h3, h4', h5⟩ := HS.out
    have hblk := blk_set HV.out.blk (1 + k) (.bool true)
    rw [qArr_ins h4 true _ h2 h3] at hblk
    refine HR.out _ _ (OpP.none (F' := F) ⟨v, h4'.trans HV.out.kind, h1, hblk, ?_, HV.out.fp⟩ ⟨(Fr.refl _ _).setCell _ _ (.inr ((HV.out.fp b).2 (.inl rfl))), fun j hj => .inl hj⟩)
    rw [h5]
    exact owns_fr HV.out.row ((Fr.refl (· = b) _).setCell _ _ (.inr rfl)) (fun j hj e => HV.out.ne (by rw [hj, e]))
theorem QMv.upd {b : Nat} {v : Value} {w : World} {F : FP} {s s' : RS} (h : QMv b v w F s) (hok : Ok s') (hk : s'.kind = s.kind) (hn : s'.n = s.n) (hi : s'.ins = s.ins) (hit : s'.items = s.items) : QMv b v w F s' :=
  ⟨hk.trans h.kind, hok, by rw [show qArr s' v = qArr s v by unfold qArr; rw [hn, hi]]; exact h.blk, by rw [hit]; exact h.row, h.fp⟩
theorem Ok.hold0 {s : RS} (h : Ok s) {t k : Nat} (ht : t < s.n) (hk : k < 3) {a : Int} (ha : 0 ≤ a) : Ok (holdS0 s t k a) := by
  refine ⟨h.n1, h.n4, fun t' k' hh => ?_, fun t' k' => ?_, h.ins, h.forI, h.addr, h.now0⟩
  · dsimp only [holdS0] at hh ⊢
    unfold upd1
    by_cases e : t' = t
    · rw [if_pos e]
      by_cases e2 : k' = k
      · omega
      · rw [if_neg e2]; subst e; exact h.holds t' k' hh
    · rw [if_neg e]; exact h.holds t' k' hh
  · dsimp only [holdS0]
    unfold upd1
    by_cases e : t' = t
    · rw [if_pos e]
      by_cases e2 : k' = k
      · rw [if_pos e2]; exact ha
      · rw [if_neg e2]; exact h.pos t k'
    · rw [if_neg e]; exact h.pos t' k'
theorem holdOk_cases (k a : Int) : (k < 0 ∧ holdOk k a = false) ∨ (3 ≤ k ∧ 0 ≤ k ∧ holdOk k a = false) ∨ (0 ≤ k ∧ k < 3 ∧ a < 0 ∧ holdOk k a = false) ∨ (0 ≤ k ∧ k < 3 ∧ 0 ≤ a ∧ holdOk k a = true) := by
  unfold holdOk
  by_cases h1 : k < 0
  · left; exact ⟨h1, by simp; omega⟩
  by_cases h2 : 3 ≤ k
  · right; left; exact ⟨h2, by omega, by simp; omega⟩
  by_cases h3 : a < 0
  · right; right; left; exact ⟨by omega, by omega, h3, by simp; omega⟩
  · right; right; right; exact ⟨by omega, by omega, by omega, by simp; omega⟩
set_option maxHeartbeats 1000000 in
theorem quHold {b : Nat} {w : World} {F : FP} {s : RS} (h : QM b w F s) (t k a : Int) : Calls Tryz.prog 189 #[.pointer (some ⟨b, 0, none⟩), .int .i64 t, .int .i64 k, .int .i64 a] w (OpP (QM b) w F (holdS s t k a)) := by
  refine cph fun R HR => ?_
  obtain ⟨v, hv⟩ := h
  have HH := Lib.hid (quHas hv t)
  have HV := Lib.hid hv
  cases ht : okTh s t
  · rw [ht] at HH
    have e : holdS s t k a = ⟨s, [], 1⟩ := by simp [holdS, ht]
    rw [e] at HR
    clear hv e
    go_enter Tryz.func189, Tryz.ntmps189
    go_wp2_with (go_at_call 114; refine HH.out.mono ?_; rintro e w' ⟨rfl, rfl⟩)
    exact HR.out _ _ (OpP.none ⟨v, HV.out⟩ (Step.refl _ _))
  · rw [ht] at HH
    rcases holdOk_cases k a with ⟨h1, e⟩ | ⟨h1, h2, e⟩ | ⟨h1, h2, h3, e⟩ | ⟨h1, h2, h3, e⟩
    iterate 3
      have e2 : holdS s t k a = ⟨s, [], 1⟩ := by simp [holdS, e]
      rw [e2] at HR
      clear hv e e2 ht
      go_enter Tryz.func189, Tryz.ntmps189
      go_wp2_with (go_at_call 114; refine HH.out.mono ?_; rintro e w' ⟨rfl, rfl⟩)
      exact HR.out _ _ (OpP.none ⟨v, HV.out⟩ (Step.refl _ _))
    have e2 : holdS s t k a = ⟨holdS0 s t.toNat k.toNat a, [], 0⟩ := by simp [holdS, ht, e, hv.kind]
    rw [e2] at HR
    obtain ⟨t', rfl, ht'⟩ := okTh_nat ht
    have HO := Lib.hid (hv.ok.hold0 (t := t') (k := k.toNat) ht' (by omega) h3)
    clear hv e e2 ht
    go_enter Tryz.func189, Tryz.ntmps189
    go_wp2_with (go_at_call 114; refine HH.out.mono ?_; rintro e w' ⟨rfl, rfl⟩)
    exact HR.out _ _ (OpP.none ⟨v, HV.out.upd HO.out rfl rfl rfl rfl⟩ (Step.refl _ _))
theorem okTh_zero {s : RS} (h : Ok s) : okTh s 0 = true := by have := h.n1; simp [okTh]; omega
theorem quBorn {b : Nat} {w : World} {F : FP} {s : RS} (h : QM b w F s) (a : Int) : Calls Tryz.prog 188 #[.pointer (some ⟨b, 0, none⟩), .int .i64 a] w (OpE (QM b) w F (bornS s a)) := by
  refine cph fun R HR => ?_
  obtain ⟨v, hv⟩ := h
  have HH := Lib.hid (quHas hv 0)
  rw [okTh_zero hv.ok] at HH
  have HV := Lib.hid hv
  by_cases ha : 0 < a
  · have e : bornS s a = ⟨s, [], 0⟩ := by simp [bornS, ha, hv.kind]
    rw [e] at HR
    have ha2 : ¬ a ≤ 0 := by omega
    clear hv e
    go_enter Tryz.func188, Tryz.ntmps188
    go_wp2_with (go_at_call 114; refine HH.out.mono ?_; rintro e w' ⟨rfl, rfl⟩)
    exact HR.out _ _ ⟨F, rfl, ⟨v, HV.out⟩, Step.refl _ _⟩
  · have e : bornS s a = ⟨s, [], 1⟩ := by simp [bornS, ha]
    rw [e] at HR
    have ha2 : a ≤ 0 := by omega
    clear hv e
    go_enter Tryz.func188, Tryz.ntmps188
    go_wp2_with (go_at_call 114; refine HH.out.mono ?_; rintro e w' ⟨rfl, rfl⟩)
    exact HR.out _ _ ⟨F, rfl, ⟨v, HV.out⟩, Step.refl _ _⟩
/-- What Waiting leaves: ints of its own. -/
def WaitP (w : World) (s : RS) (e : Ending) (w' : World) : Prop := ∃ v, e = .returned v ∧ w'.ownsRow w.heap.size 3 1 v s.items.length (s.items.map fun x => Value.int .i64 x.addr) ∧ Grow w w'
set_option maxRecDepth 100000 in
set_option maxHeartbeats 4000000 in
theorem quWaiting {b : Nat} {w : World} {F : FP} {s : RS} (h : QM b w F s) (hs : s.items.length ≤ 100000) : Calls Tryz.prog 78 #[.pointer (some ⟨b, 0, none⟩)] w (WaitP w s) := by
  refine cph fun R HR => ?_
  obtain ⟨v, hv⟩ := h
  have HH := Lib.hid (quHas hv 0)
  rw [okTh_zero hv.ok] at HH
  have k5 := (blk_cell hv.blk 5).trans (rfl : _ = some v)
  have HV := Lib.hid hv
  obtain ⟨i0, hi, hz0, hz1, hz2⟩ := info_parts info3x
  have HI := Lib.hid (And.intro hi (And.intro hz0 (And.intro hz1 hz2)))
  clear hi hz0 hz1 hz2
  have hsh : ∃ A cap, v = .slice A s.items.length cap ∧ (s.items ≠ [] → ∃ g, A = some ⟨g, 0, none⟩) := by
    rcases own_val hv.row with ⟨rfl, h0⟩ | ⟨g, cap, rfl, _⟩
    · have : s.items = [] := List.eq_nil_of_length_eq_zero h0
      exact ⟨none, 0, by rw [h0], fun h => absurd this h⟩
    · exact ⟨_, cap, rfl, fun _ => ⟨g, rfl⟩⟩
  obtain ⟨A, cap, rfl, hA⟩ := hsh
  have HA := Lib.hid hA
  clear hv hA
  go_enter Tryz.func78, Tryz.ntmps78
  go_wp2_with (go_at_call 114; refine HH.out.mono ?_; rintro e w' ⟨rfl, rfl⟩)
  go_loopw [3, 14] (fun u i wr => ∃ k : Nat, k ≤ s.items.length ∧ i = .int .i64 k ∧ Hid (wr.ownsRow w.heap.size 3 1 u k ((s.items.map fun x => Value.int .i64 x.addr).take k) ∧ Grow w wr)) (fun _ i _ => s.items.length - (intOf i).toNat)
  case atStart => exact ⟨0, by omega, rfl, World.ownsRow_nil _ _ _ _, Grow.refl _⟩
  case round =>
    obtain ⟨k, hk, rfl, HO⟩ := hrel
    by_cases hlt : k < s.items.length
    · obtain ⟨x, hx⟩ : ∃ x, s.items[k]? = some x := ⟨s.items[k], by simp [hlt]⟩
      obtain ⟨g, rfl⟩ := HA.out (by intro e; rw [e] at hlt; simp at hlt)
      have c0 := HO.out.2.cell ((own_at encQ_len HV.out.row hx (o := 0) (by omega)).trans rfl)
      have c1 := HO.out.2.cell ((own_at encQ_len HV.out.row hx (o := 1) (by omega)).trans rfl)
      have c2 := HO.out.2.cell ((own_at encQ_len HV.out.row hx (o := 2) (by omega)).trans rfl)
      have c3 := HO.out.2.cell ((own_at encQ_len HV.out.row hx (o := 3) (by omega)).trans rfl)
      have c4 := HO.out.2.cell ((own_at encQ_len HV.out.row hx (o := 4) (by omega)).trans rfl)
      have hki : (k : Int) < (s.items.length : Int) := by omega
      have hgs := HO.out.2.size
      have HX := Lib.hid hx
      clear hx
      rw [Nat.add_zero] at c0
      generalize x.for_ 0 = f0 at c1
      generalize x.for_ 1 = f1 at c2
      generalize x.for_ 2 = f2 at c3
      generalize x.for_ 3 = f3 at c4
      go_wp2_with (at_builtin; refine wpList_append_own_at _ rfl (.tmp 18) (.tmp 21) 34 rfl w.heap.size 3 i0 (.int .i64 0) 1 8 Tryz.underlying34 HI.out.1 HI.out.2.1 HI.out.2.2.1 HI.out.2.2.2 rfl (by decide) _ _ _ rfl ((HO.out.1.alloc _).alloc _) ⟨wr.heap.size + 1, 0, none⟩ 1 1 [.int .i64 x.addr] rfl rfl ?c2 (by simp [Value.oneCell']) (by unfold maxLen; omega) (by omega) (by simp; omega) ?_)
      case c2 =>
        have := cell_one_new (wr.alloc (Obj.cells #[.int .i64 x.addr, .bool f0, .bool f1, .bool f2, .bool f3] 150)) (.int .i64 x.addr) 3
        rw [size_alloc] at this
        exact this
      intro v' w3 hown hgrow _ hat
      have H7 : Hid (w3.ownsRow w.heap.size 3 1 v' (k + 1) ((s.items.map fun x => Value.int .i64 x.addr).take (k + 1)) ∧ Grow w w3) := ⟨by
        rw [List.take_add_one, List.getElem?_map, HX.out]; exact hown, ((HO.out.2.alloc _).alloc _).grown hgrow (fun j e => (HO.out.1.lt j e).1)⟩
      clear hown hgrow hat
      go_wp2_with fail
      go_roundw
      case rel => exact ⟨k + 1, by omega, by go_num, H7.out⟩
      case measure => simp [intOf] <;> omega
    · obtain rfl : k = s.items.length := by omega
      have hki : ¬ (s.items.length : Int) < (s.items.length : Int) := by omega
      go_wp2_with fail
      refine HR.out _ _ ⟨_, rfl, ?_, HO.out.2⟩
      have := HO.out.1
      rwa [List.take_of_length_le (by simp)] at this
end Go.Proofs.YtcgcljmnnjalpaaGreat
set_option linter.unusedVariables false
set_option linter.unusedSimpArgs false
namespace Go.Proofs.YtcgcljmnnjalpaaGreat
open Go.RowKit Go.Kx
open Go.ChangeMaps (setBlock)
/-- What the quiet manager's over leaves. -/
def goneQ (x : Itm) : Bool := !(x.for_ 0) && !(x.for_ 1) && !(x.for_ 2) && !(x.for_ 3)
def bkQ (l : List Itm) (k : Nat) : List Itm := (l.take k).filter goneQ
def lfQ (l : List Itm) (k : Nat) : List Itm := (l.take k).filter fun x => !goneQ x
theorem bkQ_succ {l : List Itm} {k : Nat} {x : Itm} (h : l[k]? = some x) : bkQ l (k + 1) = if goneQ x then bkQ l k ++ [x] else bkQ l k := by
  unfold bkQ
  rw [List.take_add_one, h, List.filter_append]
  cases hg : goneQ x <;> simp [hg]
theorem lfQ_succ {l : List Itm} {k : Nat} {x : Itm} (h : l[k]? = some x) : lfQ l (k + 1) = if goneQ x then lfQ l k else lfQ l k ++ [x] := by
  unfold lfQ
  rw [List.take_add_one, h, List.filter_append]
  cases hg : goneQ x <;> simp [hg]
theorem bkQ_len (l : List Itm) (k : Nat) : (bkQ l k).length ≤ k := Nat.le_trans (List.length_filter_le _ _) (List.length_take_le _ _)
theorem lfQ_len (l : List Itm) (k : Nat) : (lfQ l k).length ≤ k := Nat.le_trans (List.length_filter_le _ _) (List.length_take_le _ _)
theorem freeQ {s : RS} (h : s.kind = 5) (x : Itm) : freeB s x = goneQ x := by
  unfold freeB goneQ
  rw [if_neg (by omega), if_neg (by omega), if_neg (by omega), if_pos h]
  simp [List.range, List.range.loop, Bool.and_assoc]
set_option maxRecDepth 100000 in
set_option maxHeartbeats 4000000 in
theorem quOver {b : Nat} {w : World} {F : FP} {s : RS} (h : QM b w F s) (hs : s.items.length ≤ 200000) : Calls Tryz.prog 115 #[.pointer (some ⟨b, 0, none⟩)] w (OpL (QM b) w F (sweepS s fun _ => true)) := by
  refine cph fun R HR => ?_
  obtain ⟨v, hv⟩ := h
  have k5 := (blk_cell hv.blk 5).trans (rfl : _ = some v)
  have f5 := blk_free hv.blk 5
  have hbl := blk_lt hv.blk
  have HV := Lib.hid hv
  obtain ⟨i0, hi, hz0, hz1, hz2⟩ := info_parts info3x
  have HI := Lib.hid (And.intro hi (And.intro hz0 (And.intro hz1 hz2)))
  clear hi hz0 hz1 hz2
  obtain ⟨i1, hi, hz0, hz1, hz2⟩ := info_parts infoW
  have HJ := Lib.hid (And.intro hi (And.intro hz0 (And.intro hz1 hz2)))
  clear hi hz0 hz1 hz2
  have hsh : ∃ A cap, v = .slice A s.items.length cap ∧ (s.items ≠ [] → ∃ g, A = some ⟨g, 0, none⟩) := by
    rcases own_val hv.row with ⟨rfl, h0⟩ | ⟨g, cap, rfl, _⟩
    · have : s.items = [] := List.eq_nil_of_length_eq_zero h0
      exact ⟨none, 0, by rw [h0], fun h => absurd this h⟩
    · exact ⟨_, cap, rfl, fun _ => ⟨g, rfl⟩⟩
  obtain ⟨A, cap, rfl, hA⟩ := hsh
  have HA := Lib.hid hA
  clear hv hA
  go_enter Tryz.func115, Tryz.ntmps115
  go_wp2_with fail
  go_loopw [3, 4, 12] (fun u x i wr => ∃ k : Nat, k ≤ s.items.length ∧ i = .int .i64 k ∧ Hid (wr.ownsRow w.heap.size 3 1 u (bkQ s.items k).length ((bkQ s.items k).map fun x => Value.int .i64 x.addr) ∧ wr.ownsRow w.heap.size 150 5 x (lfQ s.items k).length ((lfQ s.items k).flatMap encQ) ∧ Grow w wr)) (fun _ _ i _ => s.items.length - (intOf i).toNat)
  case atStart => exact ⟨0, by omega, rfl, World.ownsRow_nil _ _ _ _, World.ownsRow_nil _ _ _ _, Grow.refl _⟩
  case round =>
    obtain ⟨k, hk, rfl, HO⟩ := hrel
    by_cases hlt : k < s.items.length
    · obtain ⟨x, hx⟩ : ∃ x, s.items[k]? = some x := ⟨s.items[k], by simp [hlt]⟩
      obtain ⟨g, rfl⟩ := HA.out (by intro e; rw [e] at hlt; simp at hlt)
      have c0 := HO.out.2.2.cell ((own_at encQ_len HV.out.row hx (o := 0) (by omega)).trans rfl)
      have c1 := HO.out.2.2.cell ((own_at encQ_len HV.out.row hx (o := 1) (by omega)).trans rfl)
      have c2 := HO.out.2.2.cell ((own_at encQ_len HV.out.row hx (o := 2) (by omega)).trans rfl)
      have c3 := HO.out.2.2.cell ((own_at encQ_len HV.out.row hx (o := 3) (by omega)).trans rfl)
      have c4 := HO.out.2.2.cell ((own_at encQ_len HV.out.row hx (o := 4) (by omega)).trans rfl)
      have hki : (k : Int) < (s.items.length : Int) := by omega
      have hgs := HO.out.2.2.size
      have hb1 := bkQ_len s.items k
      have hb2 := lfQ_len s.items k
      have HX := Lib.hid (And.intro (bkQ_succ hx) (And.intro (lfQ_succ hx) (rfl : encQ x = _)))
      clear hx
      rw [Nat.add_zero] at c0
      have hgo : goneQ x = (!(x.for_ 0) && !(x.for_ 1) && !(x.for_ 2) && !(x.for_ 3)) := rfl
      have hel : [Value.int .i64 x.addr, .bool (x.for_ 0), .bool (x.for_ 1), .bool (x.for_ 2), .bool (x.for_ 3)] = encQ x := rfl
      generalize x.for_ 0 = f0 at c1 hgo hel
      generalize x.for_ 1 = f1 at c2 hgo hel
      generalize x.for_ 2 = f2 at c3 hgo hel
      generalize x.for_ 3 = f3 at c4 hgo hel
      have HEL := Lib.hid hel
      clear hel
      go_upto_if 19 with fail
      rw [← hgo]
      cases hq : goneQ x
      · have HQ := Lib.hid hq
        have h2 := HX.out.2.1
        rw [hq] at h2
        have h1 := HX.out.1
        rw [hq] at h1
        simp only [Bool.false_eq_true, if_false] at h1 h2
        have HN := Lib.hid (And.intro h1 h2)
        clear h1 h2 hq hgo
        generalize bkQ s.items k = B at HO HN hb1
        generalize lfQ s.items k = L at HO HN hb2
        have hnw := cells_new (wr.alloc (Obj.cells #[.int .i64 x.addr, .bool f0, .bool f1, .bool f2, .bool f3] 150)) [.int .i64 x.addr, .bool f0, .bool f1, .bool f2, .bool f3] 150
        rw [size_alloc] at hnw
        have HNW := Lib.hid hnw
        clear hnw
        go_wp2_with (at_builtin; refine wpList_append_own_at _ rfl (.tmp 25) (.tmp 27) 134 rfl w.heap.size 150 i1 (.agg #[.int .i64 0, .bool false, .bool false, .bool false, .bool false]) 5 16 Tryz.underlying134 HJ.out.1 HJ.out.2.1 HJ.out.2.2.1 HJ.out.2.2.2 rfl (by decide) _ _ _ rfl ((HO.out.2.1.alloc _).alloc _) ⟨wr.heap.size + 1, 0, none⟩ 1 1 [.int .i64 x.addr, .bool f0, .bool f1, .bool f2, .bool f3] rfl rfl HNW.out (by simp [Value.oneCell']) (by unfold maxLen; omega) (by omega) (by simp; omega) ?_)
        intro v' w3 hown hgrow _ hat
        have H7 : Hid (w3.ownsRow w.heap.size 3 1 u3 B.length (B.map fun x => Value.int .i64 x.addr) ∧ w3.ownsRow w.heap.size 150 5 v' (L ++ [x]).length ((L ++ [x]).flatMap encQ) ∧ Grow w w3) := by
          refine ⟨owns_fr (owns_grow HO.out.1 (((Grow.refl _).alloc _).alloc _)) (fr_grown hgrow) (fun j hj e => own_ne HO.out.2.1 HO.out.1 (by decide) j hj e), ?_, ((HO.out.2.2.alloc _).alloc _).grown hgrow (fun j e => (HO.out.2.1.lt j e).1)⟩
          rw [HEL.out] at hown
          simpa using hown
        clear hown hgrow hat
        go_wp2_with fail
        go_roundw
        case rel => exact ⟨k + 1, by omega, by go_num, by rw [HN.out.1, HN.out.2]; exact H7.out⟩
        case measure => simp [intOf] <;> omega
      · have HQ := Lib.hid hq
        have h2 := HX.out.2.1
        rw [hq] at h2
        have h1 := HX.out.1
        rw [hq] at h1
        simp only [if_true] at h1 h2
        have HN := Lib.hid (And.intro h1 h2)
        clear h1 h2 hq hgo
        generalize bkQ s.items k = B at HO HN hb1
        generalize lfQ s.items k = L at HO HN hb2
        have hnw := cell_one_new (wr.alloc (Obj.cells #[.int .i64 x.addr, .bool f0, .bool f1, .bool f2, .bool f3] 150)) (.int .i64 x.addr) 3
        rw [size_alloc] at hnw
        have HNW := Lib.hid hnw
        clear hnw
        go_wp2_with (at_builtin; refine wpList_append_own_at _ rfl (.tmp 20) (.tmp 23) 34 rfl w.heap.size 3 i0 (.int .i64 0) 1 8 Tryz.underlying34 HI.out.1 HI.out.2.1 HI.out.2.2.1 HI.out.2.2.2 rfl (by decide) _ _ _ rfl ((HO.out.1.alloc _).alloc _) ⟨wr.heap.size + 1, 0, none⟩ 1 1 [.int .i64 x.addr] rfl rfl HNW.out (by simp [Value.oneCell']) (by unfold maxLen; omega) (by omega) (by simp; omega) ?_)
        intro v' w3 hown hgrow _ hat
        have H7 : Hid (w3.ownsRow w.heap.size 3 1 v' (B ++ [x]).length ((B ++ [x]).map fun x => Value.int .i64 x.addr) ∧ w3.ownsRow w.heap.size 150 5 u4 L.length (L.flatMap encQ) ∧ Grow w w3) := by
          refine ⟨by simpa using hown, owns_fr (owns_grow HO.out.2.1 (((Grow.refl _).alloc _).alloc _)) (fr_grown hgrow) (fun j hj e => own_ne HO.out.1 HO.out.2.1 (by decide) j hj e), ((HO.out.2.2.alloc _).alloc _).grown hgrow (fun j e => (HO.out.1.lt j e).1)⟩
        clear hown hgrow hat
        go_wp2_with fail
        go_roundw
        case rel => exact ⟨k + 1, by omega, by go_num, by rw [HN.out.1, HN.out.2]; exact H7.out⟩
        case measure => simp [intOf] <;> omega
    · obtain rfl : k = s.items.length := by omega
      have hki : ¬ (s.items.length : Int) < (s.items.length : Int) := by omega
      have kb := HO.out.2.2.at_ HV.out.blk
      obtain ⟨A4, m4, p4, hu4⟩ := own_sl HO.out.2.1
      subst hu4
      have k5' := (blk_cell kb 5).trans (rfl : _ = some (Value.slice A s.items.length cap))
      have f5' := blk_free kb 5
      have HF : Hid (OpL (QM b) w F (sweepS s fun _ => true) (.returned u3) (wr.setCell ⟨b, 5, none⟩ (.slice A4 m4 p4))) := by
        have hbe : (sweepS s fun _ => true).back = (bkQ s.items s.items.length).map (·.addr) := by
          unfold sweepS bkQ
          rw [List.take_length]
          dsimp only
          congr 1
          exact List.filter_congr fun x _ => by rw [Bool.true_and, freeQ HV.out.kind]
        have hie : (sweepS s fun _ => true).st.items = lfQ s.items s.items.length := by
          unfold sweepS lfQ
          rw [List.take_length]
          exact List.filter_congr fun x _ => by rw [Bool.true_and, freeQ HV.out.kind]
        refine ⟨u3, fun k => k = b ∨ (Value.slice A4 m4 p4).ownBlock = some k, rfl, ?_, ⟨_, HV.out.kind, HV.out.ok.sweep _, blk_set kb 5 _, ?_, fun k => Iff.rfl⟩, ?_, ?_⟩
        · rw [hbe, List.length_map, List.map_map]
          exact owns_fr HO.out.1 ((Fr.refl (· = b) _).setCell _ _ (.inr rfl)) (fun j hj e => by have := (HO.out.1.lt j hj).1; omega)
        · rw [hie]
          exact own_base_le (owns_fr HO.out.2.1 ((Fr.refl (· = b) _).setCell _ _ (.inr rfl)) (fun j hj e => by have := (HO.out.2.1.lt j hj).1; omega)) (Nat.zero_le _)
        · exact Step.mono HO.out.2.2 ((Fr.refl F _).setCell _ _ (.inr ((HV.out.fp b).2 (.inl rfl)))) (fun k hk => hk.elim (fun e => .inl (e ▸ (HV.out.fp b).2 (.inl rfl))) (fun e => .inr (HO.out.2.1.lt k e).1))
        · rintro k hk (rfl | e)
          · have := (HO.out.1.lt k hk).1; omega
          · exact own_ne HO.out.2.1 HO.out.1 (by decide) k hk e
      clear kb
      go_wp2_with fail
      exact HR.out _ _ HF.out
def updQ (t : Nat) (x : Itm) : Itm := { x with for_ := upd1 x.for_ t false }
theorem encQ_upd (x : Itm) {t : Nat} (ht : t < 4) : (encQ x).set (1 + t) (.bool false) = encQ (updQ t x) := by
  obtain rfl | rfl | rfl | rfl : t = 0 ∨ t = 1 ∨ t = 2 ∨ t = 3 := by omega
  all_goals simp [encQ, updQ, upd1]
theorem Ok.out0 {s : RS} (h : Ok s) {t : Nat} (ht : t < s.n) : Ok (outS0 s t) := by
  refine ⟨h.n1, h.n4, fun t' k' hh => ?_, fun t' k' => ?_, fun t' ht' => ?_, fun x hx t' ht' => ?_, fun x hx => ?_, h.now0⟩
  · dsimp only [outS0] at hh ⊢
    unfold upd1; split
    · rfl
    · exact h.holds t' k' hh
  · dsimp only [outS0]
    unfold upd1; split
    · exact Int.le_refl _
    · exact h.pos t' k'
  · dsimp only [outS0] at ht' ⊢
    unfold upd1
    rw [if_neg (by omega)]
    exact h.ins t' ht'
  · dsimp only [outS0] at hx ht'
    obtain ⟨y, hy, rfl⟩ := List.mem_map.1 hx
    dsimp only
    unfold upd1; split
    · rfl
    · exact h.forI y hy t' ht'
  · dsimp only [outS0] at hx
    obtain ⟨y, hy, rfl⟩ := List.mem_map.1 hx
    exact h.addr y hy
theorem OpL.toP {At : World → FP → RS → Prop} {w w1 w' : World} {F : FP} {r : RO} {e : Ending} (h : OpL At w1 F r e w') (hs : Step F w F w1) : ∃ v, e = .returned v ∧ OpP At w F ⟨r.st, r.back, 0⟩ (.returned (.tuple #[v, .int .i64 0])) w' := by
  obtain ⟨v, F', rfl, h1, h2, h3, h4⟩ := h
  exact ⟨v, rfl, v, F', rfl, own_base_le h1 hs.fr.size, h2, hs.trans h3, h4⟩
set_option maxRecDepth 100000 in
set_option maxHeartbeats 4000000 in
theorem quOut {b : Nat} {w : World} {F : FP} {s : RS} (h : QM b w F s) (hs : s.items.length ≤ 200000) (t : Int) : Calls Tryz.prog 72 #[.pointer (some ⟨b, 0, none⟩), .int .i64 t] w (OpP (QM b) w F (outS s t)) := by
  refine cph fun R HR => ?_
  obtain ⟨v, hv⟩ := h
  have HH := Lib.hid (quHas hv t)
  have HV := Lib.hid hv
  cases ht : okTh s t
  · rw [ht] at HH
    have e : outS s t = ⟨s, [], 1⟩ := by simp [outS, ht]
    rw [e] at HR
    clear hv e
    go_enter Tryz.func72, Tryz.ntmps72
    go_wp2_with (go_at_call 114; refine HH.out.mono ?_; rintro e w' ⟨rfl, rfl⟩)
    exact HR.out _ _ (OpP.none ⟨v, HV.out⟩ (Step.refl _ _))
  · rw [ht] at HH
    have e : outS s t = ⟨(sweepS (outS0 s t.toNat) fun _ => true).st, (sweepS (outS0 s t.toNat) fun _ => true).back, 0⟩ := by simp [outS, ht, hv.kind, sweepS]
    rw [e] at HR
    obtain ⟨k, rfl, hk⟩ := okTh_nat ht
    have h4 : k < 4 := by have := hv.ok.n4; omega
    have hcell : ∃ x, w.cell? ⟨b, 1 + k, none⟩ = some x := by
      rw [blk_cell hv.blk]
      obtain rfl | rfl | rfl | rfl : k = 0 ∨ k = 1 ∨ k = 2 ∨ k = 3 := by omega
      all_goals exact ⟨_, rfl⟩
    obtain ⟨x0, hx0⟩ := hcell
    have hf := blk_free hv.blk (1 + k)
    have hok := Lib.hid (hv.ok.out0 hk)
    have hki : (k : Int) < 4 := by omega
    have hblk := blk_set hv.blk (1 + k) (.bool false)
    rw [qArr_ins (s := s) h4 false (outS0 s k) rfl rfl] at hblk
    have hrow := owns_fr hv.row ((Fr.refl (· = b) w).setCell ⟨b, 1 + k, none⟩ (.bool false) (.inr rfl)) (fun j hj e => hv.ne (by rw [hj, e]))
    have H1 : Hid ((w.setCell ⟨b, 1 + k, none⟩ (.bool false)).heap[b]? = some (.cells (qArr (outS0 s k) v) 136 (0, 0)) ∧ (w.setCell ⟨b, 1 + k, none⟩ (.bool false)).ownsRow 0 150 5 v s.items.length ((mapK (updQ k) s.items 0).flatMap encQ) ∧ Fr F w (w.setCell ⟨b, 1 + k, none⟩ (.bool false))) :=
      ⟨hblk, by simpa [mapK] using hrow, (Fr.refl _ _).setCell _ _ (.inr ((hv.fp b).2 (.inl rfl)))⟩
    have hsh : ∃ A cap, v = .slice A s.items.length cap ∧ (s.items ≠ [] → ∃ g, A = some ⟨g, 0, none⟩) := by
      rcases own_val hv.row with ⟨rfl, h0⟩ | ⟨g, cap, rfl, _⟩
      · have : s.items = [] := List.eq_nil_of_length_eq_zero h0
        exact ⟨none, 0, by rw [h0], fun h => absurd this h⟩
      · exact ⟨_, cap, rfl, fun _ => ⟨g, rfl⟩⟩
    obtain ⟨A, cap, rfl, hA⟩ := hsh
    have HA := Lib.hid hA
    have k5' := (blk_cell hblk 5).trans (rfl : _ = some (Value.slice A s.items.length cap))
    have hk2 : (k : Int).toNat = k := by simp
    rw [hk2] at HR
    clear hv hA e hblk hrow ht hk2
    go_enter Tryz.func72, Tryz.ntmps72
    go_wp2_with (go_at_call 114; refine HH.out.mono ?_; rintro e w' ⟨rfl, rfl⟩)
    generalize w.setCell ⟨b, 1 + k, none⟩ (.bool false) = w1 at H1 k5' ⊢
    go_wp2_with fail
    go_loopw [21] (fun i wr => ∃ j : Nat, j ≤ s.items.length ∧ i = .int .i64 j ∧ Hid (wr.heap[b]? = some (.cells (qArr (outS0 s k) (.slice A s.items.length cap)) 136 (0, 0)) ∧ wr.ownsRow 0 150 5 (.slice A s.items.length cap) s.items.length ((mapK (updQ k) s.items j).flatMap encQ) ∧ Fr F w wr)) (fun i _ => s.items.length - (intOf i).toNat)
    case atStart => exact ⟨0, by omega, rfl, H1.out⟩
    case round =>
      obtain ⟨j, hj, rfl, HO⟩ := hrel
      by_cases hlt : j < s.items.length
      · obtain ⟨x, hx⟩ : ∃ x, s.items[j]? = some x := ⟨s.items[j], by simp [hlt]⟩
        obtain ⟨g, rfl⟩ := HA.out (by intro e; rw [e] at hlt; simp at hlt)
        have hji : (j : Int) < (s.items.length : Int) := by omega
        have k5 := (blk_cell HO.out.1 5).trans (rfl : _ = some (Value.slice (some ⟨g, 0, none⟩) s.items.length cap))
        have hxm := mapK_at (updQ k) hx
        have hc := own_at encQ_len HO.out.2.1 hxm (o := 1 + k) (by omega)
        have hc2 : ∃ y, wr.cell? ⟨g, j * 5 + (1 + k), none⟩ = some y := by
          rw [hc]
          obtain rfl | rfl | rfl | rfl : k = 0 ∨ k = 1 ∨ k = 2 ∨ k = 3 := by omega
          all_goals exact ⟨_, rfl⟩
        obtain ⟨y, hy⟩ := hc2
        rw [← Nat.add_assoc] at hy
        have hfz := HO.out.2.1.frozenAt (j * 5 + 1 + k)
        have hst := (HO.out.2.1.stored (j * 5 + 1 + k) (.bool false)).1
        rw [Nat.add_assoc, flat_set encQ_len _ j x (updQ k x) (1 + k) _ hxm (by omega) (encQ_upd x h4), mapK_set (updQ k) hx, ← Nat.add_assoc] at hst
        have hgb : g ≠ b := fun e => by
          have : QMv b (.slice (some ⟨g, 0, none⟩) s.items.length cap) w F s := HV.out
          exact this.ne (by rw [e]; rfl)
        have hFg : F g := (HV.out.fp g).2 (.inr rfl)
        have H2 := Lib.hid (And.intro ((blk_set_other (a := ⟨g, j * 5 + 1 + k, none⟩) (fun e => hgb e.symm) (.bool false)).trans HO.out.1) (And.intro hst (HO.out.2.2.setCell ⟨g, j * 5 + 1 + k, none⟩ (.bool false) (.inr hFg))))
        clear hc hxm hst
        go_wp2_with fail
        go_roundw
        case rel => exact ⟨j + 1, by omega, by go_num, H2.out⟩
        case measure => simp [intOf] <;> omega
      · obtain rfl : j = s.items.length := by omega
        have hji : ¬ (s.items.length : Int) < (s.items.length : Int) := by omega
        have hq : QM b wr F (outS0 s k) := ⟨.slice A s.items.length cap, HV.out.kind, hok.out, HO.out.1, by
          have h1 := HO.out.2.1
          unfold mapK at h1
          rw [List.take_length, List.drop_length, List.append_nil] at h1
          have e : (outS0 s k).items = s.items.map (updQ k) := rfl
          rw [e, List.length_map]
          exact h1, HV.out.fp⟩
        have HOv := Lib.hid (quOver hq (by simpa [outS0] using hs))
        have HSt : Hid (Step F w F wr) := ⟨HO.out.2.2, fun k hk => .inl hk⟩
        clear hq
        go_wp2_with (go_at_call 115; refine HOv.out.mono ?_; intro e w9 ho; obtain ⟨v9, rfl, hp9⟩ := ho.toP HSt.out; have H9 := Lib.hid hp9; clear hp9 ho)
        exact HR.out _ _ H9.out
end Go.Proofs.YtcgcljmnnjalpaaGreat
set_option linter.unusedVariables false
set_option linter.unusedSimpArgs false
namespace Go.Proofs.YtcgcljmnnjalpaaGreat
open Go.RowKit Go.Kx
open Go.ChangeMaps (setBlock)
theorem Ok.ret0 {s : RS} (h : Ok s) (t a : Int) (ha : 0 < a) : Ok (retS0 s t a) := by
  refine ⟨h.n1, h.n4, h.holds, h.pos, h.ins, fun x hx t' ht' => ?_, fun x hx => ?_, h.now0⟩
  · dsimp only [retS0] at hx ht'
    rcases List.mem_append.1 hx with hx | hx
    · exact h.forI x hx t' ht'
    · rw [List.mem_singleton.1 hx]
      unfold mkItm
      dsimp only
      split
      · exact h.ins t' ht'
      · rfl
  · dsimp only [retS0] at hx
    rcases List.mem_append.1 hx with hx | hx
    · exact h.addr x hx
    · rw [List.mem_singleton.1 hx]; exact ha
theorem waits_mem (s : RS) (a : Int) : waitsB s a = decide (a ∈ s.items.map (·.addr)) := by
  rw [Bool.eq_iff_iff, decide_eq_true_iff]
  unfold waitsB
  rw [List.any_eq_true, List.mem_map]
  simp
theorem wait_ints (s : RS) : (s.items.map fun x => Value.int .i64 x.addr) = (s.items.map (·.addr)).map (Value.int .i64) := by rw [List.map_map]; rfl
theorem OpL.toP2 {At : World → FP → RS → Prop} {w w1 w' : World} {F F1 : FP} {r : RO} {e : Ending} (h : OpL At w1 F1 r e w') (hs : Step F w F1 w1) : ∃ v, e = .returned v ∧ OpP At w F ⟨r.st, r.back, 0⟩ (.returned (.tuple #[v, .int .i64 0])) w' := by
  obtain ⟨v, F', rfl, h1, h2, h3, h4⟩ := h
  exact ⟨v, rfl, v, F', rfl, own_base_le h1 hs.fr.size, h2, hs.trans h3, h4⟩
set_option maxRecDepth 100000 in
set_option maxHeartbeats 4000000 in
theorem quRetire {b : Nat} {w : World} {F : FP} {s : RS} (h : QM b w F s) (hs : s.items.length ≤ 100000) (t a : Int) : Calls Tryz.prog 73 #[.pointer (some ⟨b, 0, none⟩), .int .i64 t, .int .i64 a] w (OpP (QM b) w F (retS s t a)) := by
  refine cph fun R HR => ?_
  have HWt := Lib.hid (quWaiting h hs)
  have HQ := Lib.hid h
  obtain ⟨v, hv⟩ := h
  have HH := Lib.hid (quHas hv t)
  have HV := Lib.hid hv
  cases ht : okTh s t
  · rw [ht] at HH
    have e : retS s t a = ⟨s, [], 1⟩ := by simp [retS, ht]
    rw [e] at HR
    clear hv e
    go_enter Tryz.func73, Tryz.ntmps73
    go_wp2_with (go_at_call 114; refine HH.out.mono ?_; rintro e w' ⟨rfl, rfl⟩)
    exact HR.out _ _ (OpP.none ⟨v, HV.out⟩ (Step.refl _ _))
  rw [ht] at HH
  by_cases ha : a ≤ 0
  · have e : retS s t a = ⟨s, [], 1⟩ := by simp [retS]; omega
    rw [e] at HR
    clear hv e ht
    go_enter Tryz.func73, Tryz.ntmps73
    go_wp2_with (go_at_call 114; refine HH.out.mono ?_; rintro e w' ⟨rfl, rfl⟩)
    exact HR.out _ _ (OpP.none ⟨v, HV.out⟩ (Step.refl _ _))
  have ha0 : 0 < a := by omega
  cases hw : waitsB s a
  · have e : retS s t a = ⟨(sweepS (retS0 s t a) fun _ => true).st, (sweepS (retS0 s t a) fun _ => true).back, 0⟩ := by simp [retS, ht, ha0, hw, hv.kind, sweepS]
    rw [e] at HR
    rw [waits_mem] at hw
    have hokr := Lib.hid (hv.ok.ret0 t a ha0)
    obtain ⟨i1, hi, hz0, hz1, hz2⟩ := info_parts infoW
    have HJ := Lib.hid (And.intro hi (And.intro hz0 (And.intro hz1 hz2)))
    have HW2 := Lib.hid hw
    clear hi hz0 hz1 hz2 hv e ht hw
    go_enter Tryz.func73, Tryz.ntmps73
    go_wp2_with (first | (go_at_call 114; refine HH.out.mono ?_; rintro e w' ⟨rfl, rfl⟩) | (go_at_call 78; refine HWt.out.mono ?_))
    rintro e w2 ⟨v2, rfl, hown2, hg2⟩
    rw [wait_ints, show s.items.length = (s.items.map (·.addr)).length by simp] at hown2
    obtain ⟨A2, c2, rfl, hints, _⟩ := ints_of_own hown2
    have hcon := containsI_any (cap := c2) a hints (by simp; omega)
    rw [HW2.out, List.length_map] at hcon
    have HC := Lib.hid hcon
    have hblk := hg2.at_ HV.out.blk
    have hrow := owns_grow HV.out.row hg2
    have k1 := (blk_cell hblk 1).trans (rfl : _ = some (Value.bool (s.ins 0)))
    have k2 := (blk_cell hblk 2).trans (rfl : _ = some (Value.bool (s.ins 1)))
    have k3 := (blk_cell hblk 3).trans (rfl : _ = some (Value.bool (s.ins 2)))
    have k4 := (blk_cell hblk 4).trans (rfl : _ = some (Value.bool (s.ins 3)))
    have k5 := (blk_cell hblk 5).trans (rfl : _ = some v)
    have f5 := blk_free hblk 5
    have hbl := blk_lt hblk
    have H2 := Lib.hid (And.intro hblk (And.intro hrow hg2))
    have hgs := hg2.size
    clear hints hcon hown2 hblk hrow hg2
    have henc : Hid ([Value.int .i64 a, .bool (s.ins 0), .bool (s.ins 1), .bool (s.ins 2), .bool (s.ins 3)] = encQ (mkItm s t a)) := by show _ = _; simp [encQ, mkItm, HV.out.kind]
    generalize s.ins 0 = n0 at k1 henc
    generalize s.ins 1 = n1 at k2 henc
    generalize s.ins 2 = n2 at k3 henc
    generalize s.ins 3 = n3 at k4 henc
    obtain ⟨A5, m5, c5, hv5⟩ := own_sl H2.out.2.1
    subst hv5
    go_wp2_with (go_at_call 106; refine HC.out.mono ?_; rintro e w' ⟨rfl, rfl⟩)
    go_region_law ((refine step_append_own rfl (.tmp 24) (.tmp 31) 134 rfl 0 150 i1 (.agg #[.int .i64 0, .bool false, .bool false, .bool false, .bool false]) 5 16 Tryz.underlying134 HJ.out.1 HJ.out.2.1 HJ.out.2.2.1 HJ.out.2.2.2 rfl (by decide) _ s.items.length (s.items.flatMap encQ) rfl (H2.out.2.1.alloc _) ⟨w2.heap.size, 0, none⟩ 1 1 [.int .i64 a, .bool n0, .bool n1, .bool n2, .bool n3] rfl rfl (cells_new w2.drew [.int .i64 a, .bool n0, .bool n1, .bool n2, .bool n3] 150) (by simp [Value.oneCell']) (by unfold maxLen; omega) (by omega) (by simp) ?_); intro v1 w3 hown hgrow _ hat; obtain ⟨g, cap, rfl⟩ := own_some hown; have hb3 : w3.heap[b]? = some (.cells (qArr s (.slice A5 m5 c5)) 136 (0, 0)) := (fr_grown hgrow).at_ (blk_alloc' _ H2.out.1) (fun e => HV.out.ne e); have k5' := (blk_cell hb3 5).trans (rfl : _ = some (Value.slice A5 m5 c5)); have f5' := blk_free hb3 5; have H8 := Lib.hid (And.intro hb3 (And.intro hown (And.intro hgrow hat))); clear hb3 hown hgrow hat)
    all_goals
      have hgb : g ≠ b := by
        rintro rfl
        rcases H8.out.2.2.2 with e | e
        · exact HV.out.ne (e ▸ rfl)
        · simp [Value.ownBlock] at e
          omega
      have hb4 := blk_set H8.out.1 5 (.slice (some ⟨g, 0, none⟩) (s.items.length + 1) cap)
      have hq : QM b (w3.setCell ⟨b, 5, none⟩ (.slice (some ⟨g, 0, none⟩) (s.items.length + 1) cap)) (fun k => k = b ∨ (Value.slice (some ⟨g, 0, none⟩) (s.items.length + 1) cap).ownBlock = some k) (retS0 s t a) := by
        refine ⟨_, HV.out.kind, hokr.out, hb4, ?_, fun k => Iff.rfl⟩
        have h1 := owns_fr H8.out.2.1 ((Fr.refl (· = b) w3).setCell ⟨b, 5, none⟩ (.slice (some ⟨g, 0, none⟩) (s.items.length + 1) cap) (.inr rfl)) (fun j hj e => by
          have : g = j := by simpa [Value.ownBlock] using hj
          exact hgb (this.trans e))
        rw [henc.out] at h1
        simpa [retS0] using h1
      have hfr : Fr F w2 (w3.setCell ⟨b, 5, none⟩ (.slice (some ⟨g, 0, none⟩) (s.items.length + 1) cap)) :=
        ((((Fr.refl F w2).drew).alloc _).grown H8.out.2.2.1 (fun k e => .inr ((HV.out.fp k).2 (.inr e)))).setCell _ _ (.inr ((HV.out.fp b).2 (.inl rfl)))
      have HSt : Hid (Step F w (fun k => k = b ∨ (Value.slice (some ⟨g, 0, none⟩) (s.items.length + 1) cap).ownBlock = some k) (w3.setCell ⟨b, 5, none⟩ (.slice (some ⟨g, 0, none⟩) (s.items.length + 1) cap))) := Step.mono H2.out.2.2 hfr (fun k hk => by
        rcases hk with rfl | hk
        · exact .inl ((HV.out.fp k).2 (.inl rfl))
        · rcases H8.out.2.2.2 with e | e
          · exact .inl ((HV.out.fp k).2 (.inr (e ▸ hk)))
          · rw [e] at hk
            simp at hk
            exact .inr (by omega))
      have HOv := Lib.hid (quOver hq (by simp [retS0]; omega))
      clear hb4 hq hfr
      go_wp2_with (go_at_call 115; refine HOv.out.mono ?_; intro e w9 ho; obtain ⟨v9, rfl, hp9⟩ := OpL.toP2 ho HSt.out; have H9 := Lib.hid hp9; clear hp9 ho)
      exact HR.out _ _ H9.out
  · have e : retS s t a = ⟨s, [], 6⟩ := by simp [retS, ht, ha0, hw]
    rw [e] at HR
    rw [waits_mem] at hw
    have HW2 := Lib.hid hw
    clear hv e ht hw
    go_enter Tryz.func73, Tryz.ntmps73
    go_wp2_with (first | (go_at_call 114; refine HH.out.mono ?_; rintro e w' ⟨rfl, rfl⟩) | (go_at_call 78; refine HWt.out.mono ?_))
    rintro e w2 ⟨v2, rfl, hown2, hg2⟩
    rw [wait_ints, show s.items.length = (s.items.map (·.addr)).length by simp] at hown2
    obtain ⟨A2, c2, rfl, hints, _⟩ := ints_of_own hown2
    have hcon := containsI_any (cap := c2) a hints (by simp; omega)
    rw [HW2.out, List.length_map] at hcon
    have HC := Lib.hid hcon
    have H2 := Lib.hid hg2
    clear hints hcon hown2 hg2
    go_wp2_with (go_at_call 106; refine HC.out.mono ?_; rintro e w' ⟨rfl, rfl⟩)
    exact HR.out _ _ (OpP.none ⟨v, HV.out.local_fr H2.out (fun _ _ h => h)⟩ ⟨H2.out.mono (fun _ _ h => h.elim), fun k hk => .inl hk⟩)
theorem quRest {b : Nat} {w : World} {F : FP} {s : RS} (h : QM b w F s) : Calls Tryz.prog 191 #[.pointer (some ⟨b, 0, none⟩)] w fun e w' => e = .returned (.slice none 0 0) ∧ w = w' := by
  refine cph fun R HR => ?_
  clear h
  go_enter Tryz.func191, Tryz.ntmps191
  go_wp2_with fail
  exact HR.out _ _ ⟨rfl, rfl⟩
/-- New: a manager of its own, or none. -/
def NewP (At : Nat → World → FP → RS → Prop) (k : Int) (w : World) (t : Int) (e : Ending) (w' : World) : Prop :=
  if 1 ≤ t ∧ t ≤ 4 then ∃ b F, e = .returned (.tuple #[.pointer (some ⟨b, 0, none⟩), .int .i64 0]) ∧ At b w' F (newS k t.toNat) ∧ Grow w w' ∧ ∀ j, F j → w.heap.size ≤ j
  else e = .returned (.tuple #[.pointer none, .int .i64 1]) ∧ Grow w w'
theorem ok_new (k : Int) {n : Nat} (h1 : 1 ≤ n) (h4 : n ≤ 4) : Ok (newS k n) :=
  ⟨h1, h4, fun _ _ _ => rfl, fun _ _ => Int.le_refl _, fun _ _ => rfl, fun x hx => by simp [newS] at hx, fun x hx => by simp [newS] at hx, Int.le_refl _⟩
theorem NewP.no {At : Nat → World → FP → RS → Prop} {k : Int} {w w' : World} {t : Int} (h : ¬ (1 ≤ t ∧ t ≤ 4)) (hg : Grow w w') : NewP At k w t (.returned (.tuple #[.pointer none, .int .i64 1])) w' := by
  unfold NewP; rw [if_neg h]; exact ⟨rfl, hg⟩
theorem NewP.yes {At : Nat → World → FP → RS → Prop} {k : Int} {w w' : World} {t : Int} {b : Nat} {F : FP} (h : 1 ≤ t ∧ t ≤ 4) (hA : At b w' F (newS k t.toNat)) (hg : Grow w w') (hF : ∀ j, F j → w.heap.size ≤ j) : NewP At k w t (.returned (.tuple #[.pointer (some ⟨b, 0, none⟩), .int .i64 0])) w' := by
  unfold NewP; rw [if_pos h]; exact ⟨b, F, rfl, hA, hg, hF⟩
set_option maxHeartbeats 1000000 in
theorem quNew (w : World) (t : Int) : Calls Tryz.prog 52 #[.int .i64 t] w (NewP QM 5 w t) := by
  refine cph fun R HR => ?_
  by_cases h1 : t < 1
  · go_enter Tryz.func52, Tryz.ntmps52
    go_wp2_with fail
    exact HR.out _ _ (NewP.no (by omega) (Grow.refl _))
  by_cases h4 : 4 < t
  · go_enter Tryz.func52, Tryz.ntmps52
    go_wp2_with fail
    exact HR.out _ _ (NewP.no (by omega) (Grow.refl _))
  obtain ⟨n, rfl⟩ := Int.eq_ofNat_of_zero_le (a := t) (by omega)
  have HQ : Hid (QM w.heap.size (w.alloc (.cells #[.int .i64 n, .bool false, .bool false, .bool false, .bool false, .slice none 0 0] 136)) (fun k => k = w.heap.size ∨ (Value.slice none 0 0).ownBlock = some k) (newS 5 n)) :=
    ⟨.slice none 0 0, rfl, ok_new 5 (by omega) (by omega), blk_new _ _, World.ownsRow_nil _ _ _ _, fun k => Iff.rfl⟩
  go_enter Tryz.func52, Tryz.ntmps52
  go_wp2_with fail
  exact HR.out _ _ (NewP.yes ⟨by omega, by omega⟩ HQ.out ((Grow.refl _).alloc _) (fun j hj => by
    rcases hj with rfl | hj
    · exact Nat.le_refl _
    · simp [Value.ownBlock] at hj))
theorem sweep_none {s : RS} {p : Itm → Bool} (h : ∀ x ∈ s.items, (p x && freeB s x) = false) : sweepS s p = ⟨s, [], 0⟩ := by
  have e1 : s.items.filter (fun x => p x && freeB s x) = [] := List.filter_eq_nil_iff.2 fun x hx => by rw [h x hx]; simp
  have e2 : s.items.filter (fun x => !(p x && freeB s x)) = s.items := List.filter_eq_self.2 fun x hx => by rw [h x hx]; rfl
  unfold sweepS
  rw [e1, e2]
  simp
theorem sweep_left {s : RS} {p : Itm → Bool} {x : Itm} (h : x ∈ (sweepS s p).st.items) : x ∈ s.items ∧ (p x && freeB s x) = false := by
  unfold sweepS at h
  obtain ⟨h1, h2⟩ := List.mem_filter.1 h
  exact ⟨h1, by simpa only [Bool.not_eq_true'] using h2⟩
/-- The quiet manager between two calls: what waits, waits for somebody. -/
def QG (b : Nat) (w : World) (F : FP) (s : RS) : Prop := QM b w F s ∧ ∀ x ∈ s.items, goneQ x = false
theorem QM.kind {b : Nat} {w : World} {F : FP} {s : RS} (h : QM b w F s) : s.kind = 5 := by obtain ⟨v, h⟩ := h; exact h.kind
theorem QM.ok {b : Nat} {w : World} {F : FP} {s : RS} (h : QM b w F s) : Ok s := by obtain ⟨v, h⟩ := h; exact h.ok
theorem OpP.with {At At' : World → FP → RS → Prop} {w : World} {F : FP} {r : RO} {e : Ending} {w' : World} (h : OpP At w F r e w') (hh : ∀ F' w', At w' F' r.st → At' w' F' r.st) : OpP At' w F r e w' := by
  obtain ⟨v, F', h1, h2, h3, h4⟩ := h
  exact ⟨v, F', h1, h2, hh _ _ h3, h4⟩
theorem QG.local (b : Nat) : Local (QG b) := ⟨fun h => (QM.local b).lt h.1, fun h hf hn => ⟨(QM.local b).fr h.1 hf hn, h.2⟩⟩
theorem swept {s : RS} (hk : s.kind = 5) : ∀ x ∈ (sweepS s fun _ => true).st.items, goneQ x = false := fun x hx => by
  have := (sweep_left hx).2
  rw [Bool.true_and, freeQ hk] at this
  exact this
theorem qgIn {b : Nat} {w : World} {F : FP} {s : RS} (h : QG b w F s) (t : Int) : Calls Tryz.prog 71 #[.pointer (some ⟨b, 0, none⟩), .int .i64 t] w (OpP (QG b) w F (inS s t)) :=
  (quIn h.1 t).mono fun e w' ho => ho.with fun F' w' hq => ⟨hq, fun x hx => h.2 x (by unfold inS at hx; split at hx <;> exact hx)⟩
theorem qgHold {b : Nat} {w : World} {F : FP} {s : RS} (h : QG b w F s) (t k a : Int) : Calls Tryz.prog 189 #[.pointer (some ⟨b, 0, none⟩), .int .i64 t, .int .i64 k, .int .i64 a] w (OpP (QG b) w F (holdS s t k a)) :=
  (quHold h.1 t k a).mono fun e w' ho => ho.with fun F' w' hq => ⟨hq, fun x hx => h.2 x (by
    have hk := h.1.kind
    unfold holdS at hx
    rw [if_neg (fun h => (by have := h.1; omega) : ¬ (s.kind = 3 ∧ s.ins t.toNat = false)), if_neg (by omega : ¬ s.kind = 4)] at hx
    split at hx <;> exact hx)⟩
theorem qgOut {b : Nat} {w : World} {F : FP} {s : RS} (h : QG b w F s) (hs : s.items.length ≤ 100000) (t : Int) : Calls Tryz.prog 72 #[.pointer (some ⟨b, 0, none⟩), .int .i64 t] w (OpP (QG b) w F (outS s t)) :=
  (quOut h.1 (by omega) t).mono fun e w' ho => ho.with fun F' w' hq => ⟨hq, fun x hx => by
    have hk := h.1.kind
    unfold outS at hx
    rw [if_pos (by omega : s.kind = 3 ∨ s.kind = 4 ∨ s.kind = 5)] at hx
    split at hx
    · exact swept (s := outS0 s t.toNat) hk x hx
    · exact h.2 x hx⟩
theorem qgRetire {b : Nat} {w : World} {F : FP} {s : RS} (h : QG b w F s) (hs : s.items.length ≤ 100000) (t a : Int) : Calls Tryz.prog 73 #[.pointer (some ⟨b, 0, none⟩), .int .i64 t, .int .i64 a] w (OpP (QG b) w F (retS s t a)) :=
  (quRetire h.1 hs t a).mono fun e w' ho => ho.with fun F' w' hq => ⟨hq, fun x hx => by
    have hk := h.1.kind
    unfold retS at hx
    rw [if_neg (by omega : ¬ s.kind = 1), if_neg (by omega : ¬ s.kind = 2)] at hx
    split at hx
    · split at hx
      · exact h.2 x hx
      · exact swept (s := retS0 s t a) hk x hx
    · exact h.2 x hx⟩
theorem qgBorn {b : Nat} {w : World} {F : FP} {s : RS} (h : QG b w F s) (a : Int) : Calls Tryz.prog 188 #[.pointer (some ⟨b, 0, none⟩), .int .i64 a] w (OpE (QG b) w F (bornS s a)) :=
  (quBorn h.1 a).mono fun e w' ⟨F', h1, h2, h3⟩ => ⟨F', h1, ⟨h2, fun x hx => h.2 x (by
    unfold bornS at hx
    rw [if_neg (by have := h.1.kind; omega : ¬ s.kind = 3)] at hx
    split at hx <;> exact hx)⟩, h3⟩
theorem qgRest {b : Nat} {w : World} {F : FP} {s : RS} (h : QG b w F s) : Calls Tryz.prog 191 #[.pointer (some ⟨b, 0, none⟩)] w (OpL (QG b) w F (restS s)) :=
  (quRest h.1).mono fun e w' ⟨h1, h2⟩ => by
    subst h2
    have e2 : restS s = ⟨s, [], 0⟩ := by
      unfold restS
      have hk := h.1.kind
      rw [if_neg (by omega), if_neg (by omega)]
      exact sweep_none fun x hx => by rw [Bool.true_and, freeQ hk]; exact h.2 x hx
    rw [e2]
    exact ⟨_, F, h1, World.ownsRow_nil _ _ _ _, h, Step.refl _ _, fun k hk => by simp [Value.ownBlock] at hk⟩
theorem qgNew (w : World) (t : Int) : Calls Tryz.prog 52 #[.int .i64 t] w (NewP QG 5 w t) :=
  (quNew w t).mono fun e w' h => by
    unfold NewP at h ⊢
    split
    · next ht =>
      rw [if_pos ht] at h
      obtain ⟨b, F, h1, h2, h3⟩ := h
      exact ⟨b, F, h1, ⟨h2, fun x hx => by simp [newS] at hx⟩, h3⟩
    · next ht => rwa [if_neg ht] at h
end Go.Proofs.YtcgcljmnnjalpaaGreat
set_option linter.unusedVariables false
set_option linter.unusedSimpArgs false
namespace Go.Proofs.YtcgcljmnnjalpaaGreat
open Go.RowKit Go.Kx
open Go.ChangeMaps (setBlock)
def addrs (s : RS) : List Int := s.items.map (·.addr)
theorem addrs_len (s : RS) : (addrs s).length = s.items.length := by simp [addrs]
/-- slices.Clone of ints. -/
def CloneIP (w : World) (l : List Int) (e : Ending) (w' : World) : Prop := ∃ v, e = .returned v ∧ w'.ownsRow w.heap.size 3 1 v l.length (l.map (Value.int .i64)) ∧ Grow w w'
set_option maxRecDepth 100000 in
set_option maxHeartbeats 1000000 in
theorem cloneI_any {w : World} {v : Value} {l : List Int} (h : w.ownsRow 0 3 1 v l.length (l.map (Value.int .i64))) (hn : l.length ≤ 200000) :
    Calls Tryz.prog 88 #[v] w (CloneIP w l) := by
  refine cph fun R HR => ?_
  have q34 : ∀ (w : World) (a : Option Addr) (n c n' c' : Nat), (binOp .eql 34 (.slice a n c) (.slice none n' c')).run Tryz.prog w = .ok (.bool a.isNone) w := fun w a n c n' c' => Lib.run_eql_slice_nil w _ _ a n c n' c' Tryz.underlying34
  obtain ⟨A, cap, rfl, hints, hnone, hcap⟩ := ints_of_own h
  cases A with
  | none =>
    have h0 : l = [] := by
      rcases own_val h with ⟨_, h0⟩ | ⟨g, c, e, _⟩
      · exact List.eq_nil_of_length_eq_zero h0
      · cases e
    have hc : cap = 0 := hnone rfl
    subst h0; subst hc
    clear h hints hnone hcap
    go_enter Tryz.func88, Tryz.ntmps88
    go_wp2_with fail
    exact HR.out _ _ ⟨_, rfl, World.ownsRow_nil _ _ _ _, Grow.refl _⟩
  | some ad =>
    have hl : Hid ((l.map (Value.int .i64)).length = l.length * 1) := by show _ = _; simp
    have hn63 : Hid (0 + l.length ≤ maxLen) := by show _ ≤ _; unfold maxLen; omega
    have hcell : Hid (∀ ad', (some ad : Option Addr) = some ad' → ∀ j u, (l.map (Value.int .i64))[j]? = some u → (w.alloc (.cells #[] 3)).cell? (ad'.add j) = some u) := by
      intro ad' e j u hu
      cases e
      rw [List.getElem?_map] at hu
      obtain ⟨x, hx, rfl⟩ := Option.map_eq_some_iff.1 hu
      obtain ⟨b, off, hA, hc⟩ := hints.resolve_left (by rintro rfl; simp at hx)
      cases hA
      rw [Addr.add_lit]
      exact ((Grow.refl w).alloc _).cell (hc j x hx)
    have hrow : Hid ((w.alloc (.cells #[] 3)).ownsRow w.heap.size 3 1 (.slice (some ⟨w.heap.size, 0, none⟩) 0 0) 0 []) := World.ownsRow_made w #[] 0 (Nat.le_refl _) (by decide) rfl
    clear h hints hnone
    obtain ⟨i0, hi, hz0, hz1, hz2⟩ := info_parts info3x
    go_enter Tryz.func88, Tryz.ntmps88
    go_wp2_with (at_builtin; refine wpList_append_any _ rfl (.tmp 5) (.tmp 6) 34 rfl w.heap.size 3 i0 (.int .i64 0) 1 8 Tryz.underlying34 hi hz0 hz1 hz2 rfl (by decide) _ 0 [] rfl hrow.out (some ad) l.length cap (l.map (Value.int .i64)) rfl hl.out (fun e => by cases e) hcell.out (by intro u hu; obtain ⟨x, _, rfl⟩ := List.mem_map.1 hu; rfl) hn63.out (by omega) ?_ ?_)
    · rw [size_alloc]; omega
    · intro v' w' hown hgrow _ _
      have HO := Lib.hid (And.intro hown hgrow)
      clear hown hgrow
      go_wp2_with fail
      refine HR.out _ _ ⟨v', rfl, by simpa using HO.out.1, ((Grow.refl w).alloc _).grown HO.out.2 (fun k hk => ?_)⟩
      have : w.heap.size = k := by simpa [Value.ownBlock] using hk
      omega
structure LMv (b : Nat) (v : Value) (w : World) (F : FP) (s : RS) : Prop where
  kind : s.kind = 0
  ok : Ok s
  blk : w.heap[b]? = some (.cells #[.int .i64 s.n, v] 90 (0, 0))
  row : w.ownsRow 0 3 1 v (addrs s).length ((addrs s).map (Value.int .i64))
  fp : ∀ k, F k ↔ (k = b ∨ v.ownBlock = some k)
/-- The leaking manager at block b. -/
def LM (b : Nat) (w : World) (F : FP) (s : RS) : Prop := ∃ v, LMv b v w F s
theorem LMv.local_fr {b : Nat} {v : Value} {w w' : World} {F G : FP} {s : RS} (h : LMv b v w F s) (hf : Fr G w w') (hn : ∀ k, F k → ¬ G k) : LMv b v w' F s :=
  ⟨h.kind, h.ok, hf.at_ h.blk (hn b ((h.fp b).2 (.inl rfl))), owns_fr h.row hf (fun k hk => hn k ((h.fp k).2 (.inr hk))), h.fp⟩
theorem LM.local (b : Nat) : Local (LM b) := ⟨fun ⟨v, h⟩ k hk => by
  rcases (h.fp k).1 hk with rfl | hk
  · exact blk_lt h.blk
  · exact (h.row.lt k hk).2, fun ⟨v, h⟩ hf hn => ⟨v, h.local_fr hf hn⟩⟩
theorem LMv.ne {b : Nat} {v : Value} {w : World} {F : FP} {s : RS} (h : LMv b v w F s) : v.ownBlock ≠ some b := by
  intro e
  obtain ⟨c, hc⟩ := owns_blk h.row e
  rw [h.blk] at hc
  have := congrArg (fun o => match o with | some (Obj.cells _ t _) => t | _ => 0) hc
  simp at this
theorem LMv.upd {b : Nat} {v : Value} {w : World} {F : FP} {s s' : RS} (h : LMv b v w F s) (hok : Ok s') (hk : s'.kind = s.kind) (hn : s'.n = s.n) (hit : addrs s' = addrs s) : LMv b v w F s' :=
  ⟨hk.trans h.kind, hok, by rw [hn]; exact h.blk, by rw [hit]; exact h.row, h.fp⟩
theorem leThread {b : Nat} {v : Value} {w : World} {F : FP} {s : RS} (h : LMv b v w F s) (t : Int) : Calls Tryz.prog 175 #[.pointer (some ⟨b, 0, none⟩), .int .i64 t] w fun e w' => e = .returned (.tuple #[.slice none 0 0, .int .i64 (if okTh s t then 0 else 1)]) ∧ w = w' := by
  refine cph fun R HR => ?_
  have k0 := (blk_cell h.blk 0).trans (rfl : _ = some (Value.int .i64 s.n))
  rcases okTh_cases s t h.ok.n4 with ⟨h1, e⟩ | ⟨h1, h2, e⟩ | ⟨h1, h2, e⟩
  · rw [e] at HR
    clear h e
    go_enter Tryz.func175, Tryz.ntmps175
    go_wp2_with fail
    exact HR.out _ _ ⟨rfl, rfl⟩
  · rw [e] at HR
    clear h e
    go_enter Tryz.func175, Tryz.ntmps175
    go_wp2_with fail
    exact HR.out _ _ ⟨rfl, rfl⟩
  · rw [e] at HR
    have h3 : ¬ t < 0 := by omega
    have h4 : ¬ (s.n : Int) ≤ t := by omega
    clear h e
    go_enter Tryz.func175, Tryz.ntmps175
    go_wp2_with fail
    exact HR.out _ _ ⟨rfl, rfl⟩
theorem leIn {b : Nat} {w : World} {F : FP} {s : RS} (h : LM b w F s) (t : Int) : Calls Tryz.prog 169 #[.pointer (some ⟨b, 0, none⟩), .int .i64 t] w (OpP (LM b) w F (inS s t)) := by
  refine cph fun R HR => ?_
  obtain ⟨v, hv⟩ := h
  have HT := Lib.hid (leThread hv t)
  have HF : Hid (OpP (LM b) w F (inS s t) (.returned (.tuple #[.slice none 0 0, .int .i64 (if okTh s t then 0 else 1)])) w) := by
    cases ht : okTh s t
    · have e : inS s t = ⟨s, [], 1⟩ := by simp [inS, ht]
      rw [e]
      exact OpP.none ⟨v, hv⟩ (Step.refl _ _)
    · have hok := hv.ok.in_ t
      have e : inS s t = ⟨(inS s t).st, [], 0⟩ := by simp [inS, ht]
      rw [e]
      exact OpP.none ⟨v, hv.upd hok (by simp [inS, ht]) (by simp [inS, ht]) (by simp [inS, ht, addrs])⟩ (Step.refl _ _)
  clear hv
  generalize (if okTh s t then (0 : Int) else 1) = z at HT HF
  go_enter Tryz.func169, Tryz.ntmps169
  go_wp2_with (go_at_call 175; refine HT.out.mono ?_; rintro e w' ⟨rfl, rfl⟩)
  exact HR.out _ _ HF.out
theorem leOut {b : Nat} {w : World} {F : FP} {s : RS} (h : LM b w F s) (t : Int) : Calls Tryz.prog 171 #[.pointer (some ⟨b, 0, none⟩), .int .i64 t] w (OpP (LM b) w F (outS s t)) := by
  refine cph fun R HR => ?_
  obtain ⟨v, hv⟩ := h
  have HT := Lib.hid (leThread hv t)
  have HF : Hid (OpP (LM b) w F (outS s t) (.returned (.tuple #[.slice none 0 0, .int .i64 (if okTh s t then 0 else 1)])) w) := by
    cases ht : okTh s t
    · have e : outS s t = ⟨s, [], 1⟩ := by simp [outS, ht]
      rw [e]
      exact OpP.none ⟨v, hv⟩ (Step.refl _ _)
    · obtain ⟨k, rfl, hk⟩ := okTh_nat ht
      have e : outS s (k : Int) = ⟨outS0 s k, [], 0⟩ := by simp [outS, ht, hv.kind]
      rw [e]
      exact OpP.none ⟨v, hv.upd (hv.ok.out0 hk) rfl rfl (by simp [outS0, addrs])⟩ (Step.refl _ _)
  clear hv
  generalize (if okTh s t then (0 : Int) else 1) = z at HT HF
  go_enter Tryz.func171, Tryz.ntmps171
  go_wp2_with (go_at_call 175; refine HT.out.mono ?_; rintro e w' ⟨rfl, rfl⟩)
  exact HR.out _ _ HF.out
set_option maxHeartbeats 1000000 in
theorem leHold {b : Nat} {w : World} {F : FP} {s : RS} (h : LM b w F s) (t k a : Int) : Calls Tryz.prog 168 #[.pointer (some ⟨b, 0, none⟩), .int .i64 t, .int .i64 k, .int .i64 a] w (OpP (LM b) w F (holdS s t k a)) := by
  refine cph fun R HR => ?_
  obtain ⟨v, hv⟩ := h
  have HT := Lib.hid (leThread hv t)
  have HV := Lib.hid hv
  rcases holdOk_cases k a with ⟨h1, e⟩ | ⟨h1, h2, e⟩ | ⟨h1, h2, h3, e⟩ | ⟨h1, h2, h3, e⟩
  iterate 3
    have e2 : holdS s t k a = ⟨s, [], 1⟩ := by simp [holdS, e]
    rw [e2] at HR
    clear hv e e2
    go_enter Tryz.func168, Tryz.ntmps168
    go_wp2_with fail
    exact HR.out _ _ (OpP.none ⟨v, HV.out⟩ (Step.refl _ _))
  have HF : Hid (OpP (LM b) w F (holdS s t k a) (.returned (.tuple #[.slice none 0 0, .int .i64 (if okTh s t then 0 else 1)])) w) := by
    cases ht : okTh s t
    · have e : holdS s t k a = ⟨s, [], 1⟩ := by simp [holdS, ht]
      rw [e]
      exact OpP.none ⟨v, hv⟩ (Step.refl _ _)
    · obtain ⟨t', rfl, hk⟩ := okTh_nat ht
      have e : holdS s (t' : Int) k a = ⟨holdS0 s t' k.toNat a, [], 0⟩ := by simp [holdS, ht, e, hv.kind]
      rw [e]
      exact OpP.none ⟨v, hv.upd (hv.ok.hold0 hk (by omega) h3) rfl rfl rfl⟩ (Step.refl _ _)
  clear hv e
  have h4 : ¬ k < 0 := by omega
  have h5 : ¬ 3 ≤ k := by omega
  have h6 : ¬ a < 0 := by omega
  generalize (if okTh s t then (0 : Int) else 1) = z at HT HF
  go_enter Tryz.func168, Tryz.ntmps168
  go_wp2_with (go_at_call 175; refine HT.out.mono ?_; rintro e w' ⟨rfl, rfl⟩)
  exact HR.out _ _ HF.out
theorem leBorn {b : Nat} {w : World} {F : FP} {s : RS} (h : LM b w F s) (a : Int) : Calls Tryz.prog 167 #[.pointer (some ⟨b, 0, none⟩), .int .i64 a] w (OpE (LM b) w F (bornS s a)) := by
  refine cph fun R HR => ?_
  have H := Lib.hid h
  obtain ⟨v, hv⟩ := h
  by_cases ha : a ≤ 0
  · have e : bornS s a = ⟨s, [], 1⟩ := by simp [bornS]; omega
    rw [e] at HR
    clear hv e
    go_enter Tryz.func167, Tryz.ntmps167
    go_wp2_with fail
    exact HR.out _ _ ⟨F, rfl, H.out, Step.refl _ _⟩
  · have e : bornS s a = ⟨s, [], 0⟩ := by simp [bornS, hv.kind]; omega
    rw [e] at HR
    clear hv e
    go_enter Tryz.func167, Tryz.ntmps167
    go_wp2_with fail
    exact HR.out _ _ ⟨F, rfl, H.out, Step.refl _ _⟩
theorem free0 {s : RS} (h : s.kind = 0) (x : Itm) : freeB s x = false := by
  unfold freeB
  rw [if_neg (by omega), if_neg (by omega), if_neg (by omega), if_neg (by omega)]
theorem leRest {b : Nat} {w : World} {F : FP} {s : RS} (h : LM b w F s) : Calls Tryz.prog 172 #[.pointer (some ⟨b, 0, none⟩)] w (OpL (LM b) w F (restS s)) := by
  refine cph fun R HR => ?_
  have H := Lib.hid h
  have e2 : restS s = ⟨s, [], 0⟩ := by
    obtain ⟨v, hv⟩ := h
    have hk := hv.kind
    unfold restS
    rw [if_neg (by omega), if_neg (by omega)]
    exact sweep_none fun x hx => by rw [free0 hk]; simp
  rw [e2] at HR
  clear h
  go_enter Tryz.func172, Tryz.ntmps172
  go_wp2_with fail
  exact HR.out _ _ ⟨_, F, rfl, World.ownsRow_nil _ _ _ _, H.out, Step.refl _ _, fun k hk => by simp [Value.ownBlock] at hk⟩
theorem leWaiting {b : Nat} {w : World} {F : FP} {s : RS} (h : LM b w F s) (hs : s.items.length ≤ 100000) : Calls Tryz.prog 174 #[.pointer (some ⟨b, 0, none⟩)] w (WaitP w s) := by
  refine cph fun R HR => ?_
  obtain ⟨v, hv⟩ := h
  have HC := Lib.hid (cloneI_any hv.row (by rw [addrs_len]; omega))
  have k1 := (blk_cell hv.blk 1).trans (rfl : _ = some v)
  obtain ⟨A, m, c, rfl⟩ := own_sl hv.row
  clear hv
  go_enter Tryz.func174, Tryz.ntmps174
  go_wp2_with (go_at_call 88; refine HC.out.mono ?_; rintro e w' ⟨v', rfl, ho, hg⟩; have HH := Lib.hid (And.intro ho hg); clear ho hg)
  refine HR.out _ _ ⟨v', rfl, ?_, HH.out.2⟩
  rw [wait_ints, ← addrs_len]
  exact HH.out.1
set_option maxRecDepth 100000 in
set_option maxHeartbeats 2000000 in
theorem leRetire {b : Nat} {w : World} {F : FP} {s : RS} (h : LM b w F s) (hs : s.items.length ≤ 100000) (t a : Int) : Calls Tryz.prog 173 #[.pointer (some ⟨b, 0, none⟩), .int .i64 t, .int .i64 a] w (OpP (LM b) w F (retS s t a)) := by
  refine cph fun R HR => ?_
  obtain ⟨v, hv⟩ := h
  have HT := Lib.hid (leThread hv t)
  have HV := Lib.hid hv
  cases ht : okTh s t
  · rw [ht] at HT
    have e : retS s t a = ⟨s, [], 1⟩ := by simp [retS, ht]
    rw [e] at HR
    clear hv e
    go_enter Tryz.func173, Tryz.ntmps173
    go_wp2_with (go_at_call 175; refine HT.out.mono ?_; rintro e w' ⟨rfl, rfl⟩)
    exact HR.out _ _ (OpP.none ⟨v, HV.out⟩ (Step.refl _ _))
  rw [ht] at HT
  by_cases ha : a ≤ 0
  · have e : retS s t a = ⟨s, [], 1⟩ := by simp [retS]; omega
    rw [e] at HR
    clear hv e ht
    go_enter Tryz.func173, Tryz.ntmps173
    go_wp2_with (go_at_call 175; refine HT.out.mono ?_; rintro e w' ⟨rfl, rfl⟩)
    exact HR.out _ _ (OpP.none ⟨v, HV.out⟩ (Step.refl _ _))
  have ha0 : 0 < a := by omega
  have k1 := (blk_cell hv.blk 1).trans (rfl : _ = some v)
  have f1 := blk_free hv.blk 1
  have hbl := blk_lt hv.blk
  obtain ⟨A, cap, rfl, hints, _, _⟩ := ints_of_own hv.row
  have hcon := containsI_any (cap := cap) a hints (by rw [addrs_len]; omega)
  cases hw : waitsB s a
  · have e : retS s t a = ⟨retS0 s t a, [], 0⟩ := by
      simp only [retS, ht, ha0, hw, hv.kind]
      simp
      exact sweep_none fun x hx => by rw [free0 (s := retS0 s t a) hv.kind]; simp
    rw [e] at HR
    rw [waits_mem] at hw
    have hw' : decide (a ∈ addrs s) = false := hw
    rw [hw'] at hcon
    have HC := Lib.hid hcon
    have hokr := Lib.hid (hv.ok.ret0 t a ha0)
    obtain ⟨i0, hi, hz0, hz1, hz2⟩ := info_parts info3x
    have HI := Lib.hid (And.intro hi (And.intro hz0 (And.intro hz1 hz2)))
    have hal : (addrs s).length ≤ 100000 := by rw [addrs_len]; exact hs
    clear hi hz0 hz1 hz2 hv e ht hw hw' hcon hints
    go_enter Tryz.func173, Tryz.ntmps173
    go_wp2_with (first | (go_at_call 175; refine HT.out.mono ?_; rintro e w' ⟨rfl, rfl⟩) | (go_at_call 106; refine HC.out.mono ?_; rintro e w' ⟨rfl, rfl⟩) | (at_builtin; refine wpList_append_own_at _ rfl (.tmp 32) (.tmp 34) 34 rfl 0 3 i0 (.int .i64 0) 1 8 Tryz.underlying34 HI.out.1 HI.out.2.1 HI.out.2.2.1 HI.out.2.2.2 rfl (by decide) _ (addrs s).length ((addrs s).map (Value.int .i64)) rfl (HV.out.row.alloc _) ⟨w.heap.size, 0, none⟩ 1 1 [.int .i64 a] rfl rfl (cell_one_new _ _ _) (by simp [Value.oneCell']) (by unfold maxLen; omega) (by omega) (by simp) ?_; intro v1 w3 hown hgrow _ hat; obtain ⟨g, cap3, rfl⟩ := own_some hown; have hb3 : w3.heap[b]? = some (.cells #[.int .i64 s.n, .slice A (addrs s).length cap] 90 (0, 0)) := (fr_grown hgrow).at_ (blk_alloc' _ HV.out.blk) (fun e => HV.out.ne e); have k1' := (blk_cell hb3 1).trans (rfl : _ = some (Value.slice A (addrs s).length cap)); have f1' := blk_free hb3 1; have H8 := Lib.hid (And.intro hb3 (And.intro hown (And.intro hgrow hat))); clear hb3 hown hgrow hat))
    have hgb : g ≠ b := by
      rintro rfl
      rcases H8.out.2.2.2 with e | e
      · exact HV.out.ne (e ▸ rfl)
      · simp [Value.ownBlock] at e
        omega
    have hb4 := blk_set H8.out.1 1 (.slice (some ⟨g, 0, none⟩) ((addrs s).length + 1) cap3)
    have hq : LM b (w3.setCell ⟨b, 1, none⟩ (.slice (some ⟨g, 0, none⟩) ((addrs s).length + 1) cap3)) (fun k => k = b ∨ (Value.slice (some ⟨g, 0, none⟩) ((addrs s).length + 1) cap3).ownBlock = some k) (retS0 s t a) := by
      refine ⟨_, HV.out.kind, hokr.out, hb4, ?_, fun k => Iff.rfl⟩
      have h1 := owns_fr H8.out.2.1 ((Fr.refl (· = b) w3).setCell ⟨b, 1, none⟩ (.slice (some ⟨g, 0, none⟩) ((addrs s).length + 1) cap3) (.inr rfl)) (fun j hj e => by
        have : g = j := by simpa [Value.ownBlock] using hj
        exact hgb (this.trans e))
      simpa [retS0, addrs, mkItm] using h1
    have hst : Step F w (fun k => k = b ∨ (Value.slice (some ⟨g, 0, none⟩) ((addrs s).length + 1) cap3).ownBlock = some k) (w3.setCell ⟨b, 1, none⟩ (.slice (some ⟨g, 0, none⟩) ((addrs s).length + 1) cap3)) :=
      ⟨(((Fr.refl F w).alloc _).grown H8.out.2.2.1 (fun k e => .inr ((HV.out.fp k).2 (.inr e)))).setCell _ _ (.inr ((HV.out.fp b).2 (.inl rfl))), fun k hk => by
        rcases hk with rfl | hk
        · exact .inl ((HV.out.fp k).2 (.inl rfl))
        · rcases H8.out.2.2.2 with e | e
          · exact .inl ((HV.out.fp k).2 (.inr (e ▸ hk)))
          · rw [e] at hk
            simp at hk
            exact .inr (by omega)⟩
    exact HR.out _ _ (OpP.none hq hst)
  · have e : retS s t a = ⟨s, [], 6⟩ := by simp [retS, ht, ha0, hw]
    rw [e] at HR
    rw [waits_mem] at hw
    have hw' : decide (a ∈ addrs s) = true := hw
    rw [hw'] at hcon
    have HC := Lib.hid hcon
    clear hv e ht hw hw' hcon hints
    go_enter Tryz.func173, Tryz.ntmps173
    go_wp2_with (first | (go_at_call 175; refine HT.out.mono ?_; rintro e w' ⟨rfl, rfl⟩) | (go_at_call 106; refine HC.out.mono ?_; rintro e w' ⟨rfl, rfl⟩))
    exact HR.out _ _ (OpP.none ⟨_, HV.out⟩ (Step.refl _ _))
end Go.Proofs.YtcgcljmnnjalpaaGreat
