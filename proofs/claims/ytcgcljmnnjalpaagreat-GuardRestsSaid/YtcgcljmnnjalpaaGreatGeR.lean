/- The quiet manager, in every state: over, Out, Retire, Rest, New. -/
import Derived.Test.YtcgcljmnnjalpaaGreatGeQ
set_option linter.unusedVariables false
set_option linter.unusedSimpArgs false
namespace Go.Proofs.YtcgcljmnnjalpaaGreat
open Go.RowKit Go.Kx
open Go.ChangeMaps (setBlock)
/-- What the quiet manager's over leaves. -/
def goneQ (x : Itm) : Bool := !(x.for_ 0) && !(x.for_ 1) && !(x.for_ 2) && !(x.for_ 3)
def bkQ (l : List Itm) (k : Nat) : List Itm := (l.take k).filter goneQ
def lfQ (l : List Itm) (k : Nat) : List Itm := (l.take k).filter fun x => !goneQ x
theorem bkQ_succ {l : List Itm} {k : Nat} {x : Itm} (h : l[k]? = some x) : bkQ l (k + 1) = if goneQ x then bkQ l k ++ [x] else bkQ l k := by
  unfold bkQ
  rw [List.take_add_one, h, List.filter_append]
  cases hg : goneQ x <;> simp [hg]
theorem lfQ_succ {l : List Itm} {k : Nat} {x : Itm} (h : l[k]? = some x) : lfQ l (k + 1) = if goneQ x then lfQ l k else lfQ l k ++ [x] := by
  unfold lfQ
  rw [List.take_add_one, h, List.filter_append]
  cases hg : goneQ x <;> simp [hg]
theorem bkQ_len (l : List Itm) (k : Nat) : (bkQ l k).length ≤ k := Nat.le_trans (List.length_filter_le _ _) (List.length_take_le _ _)
theorem lfQ_len (l : List Itm) (k : Nat) : (lfQ l k).length ≤ k := Nat.le_trans (List.length_filter_le _ _) (List.length_take_le _ _)
theorem freeQ {s : RS} (h : s.kind = 5) (x : Itm) : freeB s x = goneQ x := by
  unfold freeB goneQ
  rw [if_neg (by omega), if_neg (by omega), if_neg (by omega), if_pos h]
  simp [List.range, List.range.loop, Bool.and_assoc]
set_option maxRecDepth 100000 in
set_option maxHeartbeats 4000000 in
theorem quOver {b : Nat} {w : World} {F : FP} {s : RS} (h : QM b w F s) (hs : s.items.length ≤ 200000) : Calls Tryz.prog 115 #[.pointer (some ⟨b, 0, none⟩)] w (OpL (QM b) w F (sweepS s fun _ => true)) := by
  refine cph fun R HR => ?_
  obtain ⟨v, hv⟩ := h
  have k5 := (blk_cell hv.blk 5).trans (rfl : _ = some v)
  have f5 := blk_free hv.blk 5
  have hbl := blk_lt hv.blk
  have HV := Lib.hid hv
  obtain ⟨i0, hi, hz0, hz1, hz2⟩ := info_parts info3x
  have HI := Lib.hid (And.intro hi (And.intro hz0 (And.intro hz1 hz2)))
  clear hi hz0 hz1 hz2
  obtain ⟨i1, hi, hz0, hz1, hz2⟩ := info_parts infoW
  have HJ := Lib.hid (And.intro hi (And.intro hz0 (And.intro hz1 hz2)))
  clear hi hz0 hz1 hz2
  have hsh : ∃ A cap, v = .slice A s.items.length cap ∧ (s.items ≠ [] → ∃ g, A = some ⟨g, 0, none⟩) := by
    rcases own_val hv.row with ⟨rfl, h0⟩ | ⟨g, cap, rfl, _⟩
    · have : s.items = [] := List.eq_nil_of_length_eq_zero h0
      exact ⟨none, 0, by rw [h0], fun h => absurd this h⟩
    · exact ⟨_, cap, rfl, fun _ => ⟨g, rfl⟩⟩
  obtain ⟨A, cap, rfl, hA⟩ := hsh
  have HA := Lib.hid hA
  clear hv hA
  go_enter Tryz.func115, Tryz.ntmps115
  go_wp2_with fail
  go_loopw [3, 4, 12] (fun u x i wr => ∃ k : Nat, k ≤ s.items.length ∧ i = .int .i64 k ∧ Hid (wr.ownsRow w.heap.size 3 1 u (bkQ s.items k).length ((bkQ s.items k).map fun x => Value.int .i64 x.addr) ∧ wr.ownsRow w.heap.size 150 5 x (lfQ s.items k).length ((lfQ s.items k).flatMap encQ) ∧ Grow w wr)) (fun _ _ i _ => s.items.length - (intOf i).toNat)
  case atStart => exact ⟨0, by omega, rfl, World.ownsRow_nil _ _ _ _, World.ownsRow_nil _ _ _ _, Grow.refl _⟩
  case round =>
    obtain ⟨k, hk, rfl, HO⟩ := hrel
    by_cases hlt : k < s.items.length
    · obtain ⟨x, hx⟩ : ∃ x, s.items[k]? = some x := ⟨s.items[k], by simp [hlt]⟩
      obtain ⟨g, rfl⟩ := HA.out (by intro e; rw [e] at hlt; simp at hlt)
      have c0 := HO.out.2.2.cell ((own_at encQ_len HV.out.row hx (o := 0) (by omega)).trans rfl)
      have c1 := HO.out.2.2.cell ((own_at encQ_len HV.out.row hx (o := 1) (by omega)).trans rfl)
      have c2 := HO.out.2.2.cell ((own_at encQ_len HV.out.row hx (o := 2) (by omega)).trans rfl)
      have c3 := HO.out.2.2.cell ((own_at encQ_len HV.out.row hx (o := 3) (by omega)).trans rfl)
      have c4 := HO.out.2.2.cell ((own_at encQ_len HV.out.row hx (o := 4) (by omega)).trans rfl)
      have hki : (k : Int) < (s.items.length : Int) := by omega
      have hgs := HO.out.2.2.size
      have hb1 := bkQ_len s.items k
      have hb2 := lfQ_len s.items k
      have HX := Lib.hid (And.intro (bkQ_succ hx) (And.intro (lfQ_succ hx) (rfl : encQ x = _)))
      clear hx
      rw [Nat.add_zero] at c0
      have hgo : goneQ x = (!(x.for_ 0) && !(x.for_ 1) && !(x.for_ 2) && !(x.for_ 3)) := rfl
      have hel : [Value.int .i64 x.addr, .bool (x.for_ 0), .bool (x.for_ 1), .bool (x.for_ 2), .bool (x.for_ 3)] = encQ x := rfl
      generalize x.for_ 0 = f0 at c1 hgo hel
      generalize x.for_ 1 = f1 at c2 hgo hel
      generalize x.for_ 2 = f2 at c3 hgo hel
      generalize x.for_ 3 = f3 at c4 hgo hel
      have HEL := Lib.hid hel
      clear hel
      go_upto_if 19 with fail
      rw [← hgo]
      cases hq : goneQ x
      · have HQ := Lib.hid hq
        have h2 := HX.out.2.1
        rw [hq] at h2
        have h1 := HX.out.1
        rw [hq] at h1
        simp only [Bool.false_eq_true, if_false] at h1 h2
        have HN := Lib.hid (And.intro h1 h2)
        clear h1 h2 hq hgo
        generalize bkQ s.items k = B at HO HN hb1
        generalize lfQ s.items k = L at HO HN hb2
        have hnw := cells_new (wr.alloc (Obj.cells #[.int .i64 x.addr, .bool f0, .bool f1, .bool f2, .bool f3] 150)) [.int .i64 x.addr, .bool f0, .bool f1, .bool f2, .bool f3] 150
        rw [size_alloc] at hnw
        have HNW := Lib.hid hnw
        clear hnw
        go_wp2_with (at_builtin; refine wpList_append_own_at _ rfl (.tmp 25) (.tmp 27) 134 rfl w.heap.size 150 i1 (.agg #[.int .i64 0, .bool false, .bool false, .bool false, .bool false]) 5 16 Tryz.underlying134 HJ.out.1 HJ.out.2.1 HJ.out.2.2.1 HJ.out.2.2.2 rfl (by decide) _ _ _ rfl ((HO.out.2.1.alloc _).alloc _) ⟨wr.heap.size + 1, 0, none⟩ 1 1 [.int .i64 x.addr, .bool f0, .bool f1, .bool f2, .bool f3] rfl rfl HNW.out (by simp [Value.oneCell']) (by unfold maxLen; omega) (by omega) (by simp; omega) ?_)
        intro v' w3 hown hgrow _ hat
        have H7 : Hid (w3.ownsRow w.heap.size 3 1 u3 B.length (B.map fun x => Value.int .i64 x.addr) ∧ w3.ownsRow w.heap.size 150 5 v' (L ++ [x]).length ((L ++ [x]).flatMap encQ) ∧ Grow w w3) := by
          refine ⟨owns_fr (owns_grow HO.out.1 (((Grow.refl _).alloc _).alloc _)) (fr_grown hgrow) (fun j hj e => own_ne HO.out.2.1 HO.out.1 (by decide) j hj e), ?_, ((HO.out.2.2.alloc _).alloc _).grown hgrow (fun j e => (HO.out.2.1.lt j e).1)⟩
          rw [HEL.out] at hown
          simpa using hown
        clear hown hgrow hat
        go_wp2_with fail
        go_roundw
        case rel => exact ⟨k + 1, by omega, by go_num, by rw [HN.out.1, HN.out.2]; exact H7.out⟩
        case measure => simp [intOf] <;> omega
      · have HQ := Lib.hid hq
        have h2 := HX.out.2.1
        rw [hq] at h2
        have h1 := HX.out.1
        rw [hq] at h1
        simp only [if_true] at h1 h2
        have HN := Lib.hid (And.intro h1 h2)
        clear h1 h2 hq hgo
        generalize bkQ s.items k = B at HO HN hb1
        generalize lfQ s.items k = L at HO HN hb2
        have hnw := cell_one_new (wr.alloc (Obj.cells #[.int .i64 x.addr, .bool f0, .bool f1, .bool f2, .bool f3] 150)) (.int .i64 x.addr) 3
        rw [size_alloc] at hnw
        have HNW := Lib.hid hnw
        clear hnw
        go_wp2_with (at_builtin; refine wpList_append_own_at _ rfl (.tmp 20) (.tmp 23) 34 rfl w.heap.size 3 i0 (.int .i64 0) 1 8 Tryz.underlying34 HI.out.1 HI.out.2.1 HI.out.2.2.1 HI.out.2.2.2 rfl (by decide) _ _ _ rfl ((HO.out.1.alloc _).alloc _) ⟨wr.heap.size + 1, 0, none⟩ 1 1 [.int .i64 x.addr] rfl rfl HNW.out (by simp [Value.oneCell']) (by unfold maxLen; omega) (by omega) (by simp; omega) ?_)
        intro v' w3 hown hgrow _ hat
        have H7 : Hid (w3.ownsRow w.heap.size 3 1 v' (B ++ [x]).length ((B ++ [x]).map fun x => Value.int .i64 x.addr) ∧ w3.ownsRow w.heap.size 150 5 u4 L.length (L.flatMap encQ) ∧ Grow w w3) := by
          refine ⟨by simpa using hown, owns_fr (owns_grow HO.out.2.1 (((Grow.refl _).alloc _).alloc _)) (fr_grown hgrow) (fun j hj e => own_ne HO.out.1 HO.out.2.1 (by decide) j hj e), ((HO.out.2.2.alloc _).alloc _).grown hgrow (fun j e => (HO.out.1.lt j e).1)⟩
        clear hown hgrow hat
        go_wp2_with fail
        go_roundw
        case rel => exact ⟨k + 1, by omega, by go_num, by rw [HN.out.1, HN.out.2]; exact H7.out⟩
        case measure => simp [intOf] <;> omega
    · obtain rfl : k = s.items.length := by omega
      have hki : ¬ (s.items.length : Int) < (s.items.length : Int) := by omega
      have kb := HO.out.2.2.at_ HV.out.blk
      obtain ⟨A4, m4, p4, hu4⟩ := own_sl HO.out.2.1
      subst hu4
      have k5' := (blk_cell kb 5).trans (rfl : _ = some (Value.slice A s.items.length cap))
      have f5' := blk_free kb 5
      have HF : Hid (OpL (QM b) w F (sweepS s fun _ => true) (.returned u3) (wr.setCell ⟨b, 5, none⟩ (.slice A4 m4 p4))) := by
        have hbe : (sweepS s fun _ => true).back = (bkQ s.items s.items.length).map (·.addr) := by
          unfold sweepS bkQ
          rw [List.take_length]
          dsimp only
          congr 1
          exact List.filter_congr fun x _ => by rw [Bool.true_and, freeQ HV.out.kind]
        have hie : (sweepS s fun _ => true).st.items = lfQ s.items s.items.length := by
          unfold sweepS lfQ
          rw [List.take_length]
          exact List.filter_congr fun x _ => by rw [Bool.true_and, freeQ HV.out.kind]
        refine ⟨u3, fun k => k = b ∨ (Value.slice A4 m4 p4).ownBlock = some k, rfl, ?_, ⟨_, HV.out.kind, HV.out.ok.sweep _, blk_set kb 5 _, ?_, fun k => Iff.rfl⟩, ?_, ?_⟩
        · rw [hbe, List.length_map, List.map_map]
          exact owns_fr HO.out.1 ((Fr.refl (· = b) _).setCell _ _ (.inr rfl)) (fun j hj e => by have := (HO.out.1.lt j hj).1; omega)
        · rw [hie]
          exact own_base_le (owns_fr HO.out.2.1 ((Fr.refl (· = b) _).setCell _ _ (.inr rfl)) (fun j hj e => by have := (HO.out.2.1.lt j hj).1; omega)) (Nat.zero_le _)
        · exact Step.mono HO.out.2.2 ((Fr.refl F _).setCell _ _ (.inr ((HV.out.fp b).2 (.inl rfl)))) (fun k hk => hk.elim (fun e => .inl (e ▸ (HV.out.fp b).2 (.inl rfl))) (fun e => .inr (HO.out.2.1.lt k e).1))
        · rintro k hk (rfl | e)
          · have := (HO.out.1.lt k hk).1; omega
          · exact own_ne HO.out.2.1 HO.out.1 (by decide) k hk e
      clear kb
      go_wp2_with fail
      exact HR.out _ _ HF.out
def updQ (t : Nat) (x : Itm) : Itm := { x with for_ := upd1 x.for_ t false }
theorem encQ_upd (x : Itm) {t : Nat} (ht : t < 4) : (encQ x).set (1 + t) (.bool false) = encQ (updQ t x) := by
  obtain rfl | rfl | rfl | rfl : t = 0 ∨ t = 1 ∨ t = 2 ∨ t = 3 := by omega
  all_goals simp [encQ, updQ, upd1]
theorem Ok.out0 {s : RS} (h : Ok s) {t : Nat} (ht : t < s.n) : Ok (outS0 s t) := by
  refine ⟨h.n1, h.n4, fun t' k' hh => ?_, fun t' k' => ?_, fun t' ht' => ?_, fun x hx t' ht' => ?_, fun x hx => ?_, h.now0⟩
  · dsimp only [outS0] at hh ⊢
    unfold upd1; split
    · rfl
    · exact h.holds t' k' hh
  · dsimp only [outS0]
    unfold upd1; split
    · exact Int.le_refl _
    · exact h.pos t' k'
  · dsimp only [outS0] at ht' ⊢
    unfold upd1
    rw [if_neg (by omega)]
    exact h.ins t' ht'
  · dsimp only [outS0] at hx ht'
    obtain ⟨y, hy, rfl⟩ := List.mem_map.1 hx
    dsimp only
    unfold upd1; split
    · rfl
    · exact h.forI y hy t' ht'
  · dsimp only [outS0] at hx
    obtain ⟨y, hy, rfl⟩ := List.mem_map.1 hx
    exact h.addr y hy
theorem OpL.toP {At : World → FP → RS → Prop} {w w1 w' : World} {F : FP} {r : RO} {e : Ending} (h : OpL At w1 F r e w') (hs : Step F w F w1) : ∃ v, e = .returned v ∧ OpP At w F ⟨r.st, r.back, 0⟩ (.returned (.tuple #[v, .int .i64 0])) w' := by
  obtain ⟨v, F', rfl, h1, h2, h3, h4⟩ := h
  exact ⟨v, rfl, v, F', rfl, own_base_le h1 hs.fr.size, h2, hs.trans h3, h4⟩
set_option maxRecDepth 100000 in
set_option maxHeartbeats 4000000 in
theorem quOut {b : Nat} {w : World} {F : FP} {s : RS} (h : QM b w F s) (hs : s.items.length ≤ 200000) (t : Int) : Calls Tryz.prog 72 #[.pointer (some ⟨b, 0, none⟩), .int .i64 t] w (OpP (QM b) w F (outS s t)) := by
  refine cph fun R HR => ?_
  obtain ⟨v, hv⟩ := h
  have HH := Lib.hid (quHas hv t)
  have HV := Lib.hid hv
  cases ht : okTh s t
  · rw [ht] at HH
    have e : outS s t = ⟨s, [], 1⟩ := by simp [outS, ht]
    rw [e] at HR
    clear hv e
    go_enter Tryz.func72, Tryz.ntmps72
    go_wp2_with (go_at_call 114; refine HH.out.mono ?_; rintro e w' ⟨rfl, rfl⟩)
    exact HR.out _ _ (OpP.none ⟨v, HV.out⟩ (Step.refl _ _))
  · rw [ht] at HH
    have e : outS s t = ⟨(sweepS (outS0 s t.toNat) fun _ => true).st, (sweepS (outS0 s t.toNat) fun _ => true).back, 0⟩ := by simp [outS, ht, hv.kind, sweepS]
    rw [e] at HR
    obtain ⟨k, rfl, hk⟩ := okTh_nat ht
    have h4 : k < 4 := by have := hv.ok.n4; omega
    have hcell : ∃ x, w.cell? ⟨b, 1 + k, none⟩ = some x := by
      rw [blk_cell hv.blk]
      obtain rfl | rfl | rfl | rfl : k = 0 ∨ k = 1 ∨ k = 2 ∨ k = 3 := by omega
      all_goals exact ⟨_, rfl⟩
    obtain ⟨x0, hx0⟩ := hcell
    have hf := blk_free hv.blk (1 + k)
    have hok := Lib.hid (hv.ok.out0 hk)
    have hki : (k : Int) < 4 := by omega
    have hblk := blk_set hv.blk (1 + k) (.bool false)
    rw [qArr_ins (s := s) h4 false (outS0 s k) rfl rfl] at hblk
    have hrow := owns_fr hv.row ((Fr.refl (· = b) w).setCell ⟨b, 1 + k, none⟩ (.bool false) (.inr rfl)) (fun j hj e => hv.ne (by rw [hj, e]))
    have H1 : Hid ((w.setCell ⟨b, 1 + k, none⟩ (.bool false)).heap[b]? = some (.cells (qArr (outS0 s k) v) 136 (0, 0)) ∧ (w.setCell ⟨b, 1 + k, none⟩ (.bool false)).ownsRow 0 150 5 v s.items.length ((mapK (updQ k) s.items 0).flatMap encQ) ∧ Fr F w (w.setCell ⟨b, 1 + k, none⟩ (.bool false))) :=
      ⟨hblk, by simpa [mapK] using hrow, (Fr.refl _ _).setCell _ _ (.inr ((hv.fp b).2 (.inl rfl)))⟩
    have hsh : ∃ A cap, v = .slice A s.items.length cap ∧ (s.items ≠ [] → ∃ g, A = some ⟨g, 0, none⟩) := by
      rcases own_val hv.row with ⟨rfl, h0⟩ | ⟨g, cap, rfl, _⟩
      · have : s.items = [] := List.eq_nil_of_length_eq_zero h0
        exact ⟨none, 0, by rw [h0], fun h => absurd this h⟩
      · exact ⟨_, cap, rfl, fun _ => ⟨g, rfl⟩⟩
    obtain ⟨A, cap, rfl, hA⟩ := hsh
    have HA := Lib.hid hA
    have k5' := (blk_cell hblk 5).trans (rfl : _ = some (Value.slice A s.items.length cap))
    have hk2 : (k : Int).toNat = k := by simp
    rw [hk2] at HR
    clear hv hA e hblk hrow ht hk2
    go_enter Tryz.func72, Tryz.ntmps72
    go_wp2_with (go_at_call 114; refine HH.out.mono ?_; rintro e w' ⟨rfl, rfl⟩)
    generalize w.setCell ⟨b, 1 + k, none⟩ (.bool false) = w1 at H1 k5' ⊢
    go_wp2_with fail
    go_loopw [21] (fun i wr => ∃ j : Nat, j ≤ s.items.length ∧ i = .int .i64 j ∧ Hid (wr.heap[b]? = some (.cells (qArr (outS0 s k) (.slice A s.items.length cap)) 136 (0, 0)) ∧ wr.ownsRow 0 150 5 (.slice A s.items.length cap) s.items.length ((mapK (updQ k) s.items j).flatMap encQ) ∧ Fr F w wr)) (fun i _ => s.items.length - (intOf i).toNat)
    case atStart => exact ⟨0, by omega, rfl, H1.out⟩
    case round =>
      obtain ⟨j, hj, rfl, HO⟩ := hrel
      by_cases hlt : j < s.items.length
      · obtain ⟨x, hx⟩ : ∃ x, s.items[j]? = some x := ⟨s.items[j], by simp [hlt]⟩
        obtain ⟨g, rfl⟩ := HA.out (by intro e; rw [e] at hlt; simp at hlt)
        have hji : (j : Int) < (s.items.length : Int) := by omega
        have k5 := (blk_cell HO.out.1 5).trans (rfl : _ = some (Value.slice (some ⟨g, 0, none⟩) s.items.length cap))
        have hxm := mapK_at (updQ k) hx
        have hc := own_at encQ_len HO.out.2.1 hxm (o := 1 + k) (by omega)
        have hc2 : ∃ y, wr.cell? ⟨g, j * 5 + (1 + k), none⟩ = some y := by
          rw [hc]
          obtain rfl | rfl | rfl | rfl : k = 0 ∨ k = 1 ∨ k = 2 ∨ k = 3 := by omega
          all_goals exact ⟨_, rfl⟩
        obtain ⟨y, hy⟩ := hc2
        rw [← Nat.add_assoc] at hy
        have hfz := HO.out.2.1.frozenAt (j * 5 + 1 + k)
        have hst := (HO.out.2.1.stored (j * 5 + 1 + k) (.bool false)).1
        rw [Nat.add_assoc, flat_set encQ_len _ j x (updQ k x) (1 + k) _ hxm (by omega) (encQ_upd x h4), mapK_set (updQ k) hx, ← Nat.add_assoc] at hst
        have hgb : g ≠ b := fun e => by
          have : QMv b (.slice (some ⟨g, 0, none⟩) s.items.length cap) w F s := HV.out
          exact this.ne (by rw [e]; rfl)
        have hFg : F g := (HV.out.fp g).2 (.inr rfl)
        have H2 := Lib.hid (And.intro ((blk_set_other (a := ⟨g, j * 5 + 1 + k, none⟩) (fun e => hgb e.symm) (.bool false)).trans HO.out.1) (And.intro hst (HO.out.2.2.setCell ⟨g, j * 5 + 1 + k, none⟩ (.bool false) (.inr hFg))))
        clear hc hxm hst
        go_wp2_with fail
        go_roundw
        case rel => exact ⟨j + 1, by omega, by go_num, H2.out⟩
        case measure => simp [intOf] <;> omega
      · obtain rfl : j = s.items.length := by omega
        have hji : ¬ (s.items.length : Int) < (s.items.length : Int) := by omega
        have hq : QM b wr F (outS0 s k) := ⟨.slice A s.items.length cap, HV.out.kind, hok.out, HO.out.1, by
          have h1 := HO.out.2.1
          unfold mapK at h1
          rw [List.take_length, List.drop_length, List.append_nil] at h1
          have e : (outS0 s k).items = s.items.map (updQ k) := rfl
          rw [e, List.length_map]
          exact h1, HV.out.fp⟩
        have HOv := Lib.hid (quOver hq (by simpa [outS0] using hs))
        have HSt : Hid (Step F w F wr) := ⟨HO.out.2.2, fun k hk => .inl hk⟩
        clear hq
        go_wp2_with (go_at_call 115; refine HOv.out.mono ?_; intro e w9 ho; obtain ⟨v9, rfl, hp9⟩ := ho.toP HSt.out; have H9 := Lib.hid hp9; clear hp9 ho)
        exact HR.out _ _ H9.out
end Go.Proofs.YtcgcljmnnjalpaaGreat
