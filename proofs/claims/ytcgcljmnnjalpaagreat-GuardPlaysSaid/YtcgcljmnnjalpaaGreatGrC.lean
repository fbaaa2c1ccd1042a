/- The reference's manager: Bear. -/
import Derived.Test.YtcgcljmnnjalpaaGreatGrB
set_option linter.unusedVariables false
set_option linter.unusedSimpArgs false
namespace Go.Proofs.YtcgcljmnnjalpaaGreat
open Go.RowKit Go.Kx
open Go.ChangeMaps (setBlock)
theorem info2 : ((Tryz.prog.info? 174).map fun i => (i.zero, i.size, i.bytes)) = some (some (.agg #[.int .i64 0, .int .i64 0]), 2, 16) := by kernel_rfl
def notA (a : Int) (l : List P2) : List P2 := l.filter fun x => !(x.1 == a)
def bearL (kb : List P2) (a era : Int) : List P2 := notA a kb ++ if 0 < era then [(a, era)] else []
theorem notA_succ {a : Int} {l : List P2} {k : Nat} {x : P2} (h : l[k]? = some x) : notA a (l.take (k + 1)) = if x.1 == a then notA a (l.take k) else notA a (l.take k) ++ [x] := by
  unfold notA
  rw [List.take_add_one, h, List.filter_append]
  cases hx : x.1 == a <;> simp [hx]
theorem notA_le (a : Int) (l : List P2) (k : Nat) : (notA a (l.take k)).length ≤ k := Nat.le_trans (List.length_filter_le _ _) (List.length_take_le _ _)
theorem birth_app {l m : List P2} {x : Int} (h : ∀ y ∈ l, y.1 ≠ x) : birthL (l ++ m) x = birthL m x := by
  induction l with
  | nil => rfl
  | cons y l ih =>
    show (if y.1 = x then y.2 else birthL (l ++ m) x) = _
    rw [if_neg (h y (by simp)), ih fun z hz => h z (by simp [hz])]
theorem birth_notA {l m : List P2} {a x : Int} (hx : x ≠ a) (hm : birthL m x = 0) : birthL (notA a l ++ m) x = birthL l x := by
  unfold notA
  induction l with
  | nil => exact hm
  | cons y l ih =>
    cases hy : y.1 == a
    · rw [List.filter_cons, if_pos (by simp [hy]), List.cons_append]
      show (if y.1 = x then y.2 else birthL ((l.filter fun x => !(x.1 == a)) ++ m) x) = (if y.1 = x then y.2 else birthL l x)
      rw [ih]
    · have e : y.1 = a := by simpa using hy
      rw [List.filter_cons, if_neg (by simp [hy]), ih]
      show _ = (if y.1 = x then y.2 else _)
      rw [if_neg (fun q => hx (q.symm.trans e))]
theorem birth_bear (kb : List P2) (a x : Int) {era : Int} (he : 0 ≤ era) : birthL (bearL kb a era) x = if x = a then era else birthL kb x := by
  unfold bearL
  by_cases hx : x = a
  · subst hx
    rw [if_pos rfl, birth_app fun y hy => by simpa using (List.mem_filter.1 hy).2]
    by_cases h : 0 < era
    · rw [if_pos h]; show (if x = x then era else 0) = era; rw [if_pos rfl]
    · rw [if_neg h]; show (0 : Int) = era; omega
  · rw [if_neg hx]
    refine birth_notA hx ?_
    by_cases h : 0 < era
    · rw [if_pos h]; show (if a = x then era else 0) = 0; rw [if_neg (fun e => hx e.symm)]
    · rw [if_neg h]; rfl
theorem bear_len (kb : List P2) (a era : Int) : (bearL kb a era).length ≤ kb.length + (if 0 < era then 1 else 0) := by
  unfold bearL notA
  rw [List.length_append]
  have := List.length_filter_le (fun x : P2 => !(x.1 == a)) kb
  split <;> simp <;> omega
def BearP (b : Nat) (vi : Value) (kb : List P2) (w : World) (F : FP) (s : RS) (e : Ending) (w' : World) : Prop :=
  e = .returned (.tuple #[]) ∧ ∃ vb F', RMv b vi vb kb w' F' s ∧ Step F w F' w'
set_option maxRecDepth 100000 in
set_option maxHeartbeats 4000000 in
theorem rBear {b : Nat} {vi vb : Value} {kb : List P2} {w : World} {F : FP} {s : RS} (hv : RMv b vi vb kb w F s) (hkl : kb.length ≤ 2000000) (a era : Int) (he : 0 ≤ era) : Calls Tryz.prog 124 #[.pointer (some ⟨b, 0, none⟩), .int .i64 a, .int .i64 era] w (BearP b vi (bearL kb a era) w F { s with born := fun x => if x = a then era else s.born x }) := by
  refine cph fun R HR => ?_
  have k9 := (blk_cell hv.blk 29).trans (rfl : _ = some vb)
  have f9 := blk_free hv.blk 29
  have hbl := blk_lt hv.blk
  have HV := Lib.hid hv
  obtain ⟨i1, hi, hz0, hz1, hz2⟩ := info_parts info2
  have HJ := Lib.hid (And.intro hi (And.intro hz0 (And.intro hz1 hz2)))
  obtain ⟨A, cap, rfl, hA⟩ := hv.bshape
  have HA := Lib.hid hA
  have HE := Lib.hid (fun (w' : World) (v : Value) (hown : w'.ownsRow w.heap.size 174 2 v (bearL kb a era).length ((bearL kb a era).flatMap enc2)) (hg : Grow w w') => show BearP b vi (bearL kb a era) w F { s with born := fun x => if x = a then era else s.born x } (.returned (.tuple #[])) (w'.setCell ⟨b, 29, none⟩ v) from by
    have hf : Fr (· = b) w' (w'.setCell ⟨b, 29, none⟩ v) := (Fr.refl _ _).setCell _ _ (.inr rfl)
    have hbk := hg.at_ hv.blk
    refine ⟨rfl, v, fun k => k = b ∨ vi.ownBlock = some k ∨ v.ownBlock = some k, ⟨hv.kind, ⟨hv.ok.n1, hv.ok.n4, hv.ok.holds, hv.ok.pos, hv.ok.ins, hv.ok.forI, hv.ok.addr, hv.ok.now0⟩, blk_set hbk 29 v, ?_, ?_, fun x => (birth_bear kb a x he).trans (by rw [hv.born x]), fun k => Iff.rfl⟩, ⟨?_, fun k hk => ?_⟩⟩
    · exact owns_fr (owns_grow hv.row hg) hf (fun j hj e => (hv.nei j hj).1 e)
    · exact own_base_le (owns_fr hown hf (fun j hj e => by have := (hown.lt j hj).1; omega)) (Nat.zero_le _)
    · exact Fr.then (hg.mono fun _ _ h => h.elim) hf (fun i _ h => (hv.fp i).2 (.inl h))
    · rcases hk with q | q | q
      · exact .inl ((hv.fp k).2 (.inl q))
      · exact .inl ((hv.fp k).2 (.inr (.inl q)))
      · exact .inr (hown.lt k q).1)
  clear hv hA hi hz0 hz1 hz2
  go_enter Tryz.func124, Tryz.ntmps124
  go_wp2_with fail
  go_loopw [6, 7] (fun u i wr => ∃ k : Nat, k ≤ kb.length ∧ i = .int .i64 k ∧ Hid (wr.ownsRow w.heap.size 174 2 u (notA a (kb.take k)).length ((notA a (kb.take k)).flatMap enc2) ∧ Grow w wr)) (fun _ i _ => kb.length - (intOf i).toNat)
  case atStart => exact ⟨0, Nat.zero_le _, rfl, World.ownsRow_nil _ _ _ _, Grow.refl _⟩
  case round =>
    obtain ⟨k, hk, rfl, HO⟩ := hrel
    have hnl := notA_le a kb k
    have hgs := HO.out.2.size
    have k9' := HO.out.2.cell k9
    by_cases hlt : k < kb.length
    · obtain ⟨x, hx⟩ : ∃ x, kb[k]? = some x := ⟨kb[k], by simp [hlt]⟩
      obtain ⟨g, rfl⟩ := HA.out (by intro e; rw [e] at hlt; simp at hlt)
      have c0 := HO.out.2.cell ((own_at enc2_len HV.out.brow hx (o := 0) (by omega)).trans (rfl : _ = some (Value.int .i64 x.1)))
      have c1 := HO.out.2.cell ((own_at enc2_len HV.out.brow hx (o := 1) (by omega)).trans (rfl : _ = some (Value.int .i64 x.2)))
      rw [Nat.add_zero] at c0
      have hki : (k : Int) < (kb.length : Int) := by omega
      have hns := notA_succ (a := a) hx
      clear hx
      cases hxa : x.1 == a
      · have e1 : (x.1 != a) = true := by simp [bne, hxa]
        rw [hxa] at hns
        have HNs := Lib.hid hns
        have HNW := Lib.hid (cells_new wr (enc2 x) 174)
        clear hns
        go_wp2_with (at_builtin; refine wpList_append_own_at _ rfl (.tmp 27) (.tmp 35) 81 rfl w.heap.size 174 i1 (.agg #[.int .i64 0, .int .i64 0]) 2 16 Tryz.underlying81 HJ.out.1 HJ.out.2.1 HJ.out.2.2.1 HJ.out.2.2.2 rfl (by decide) _ _ _ rfl (HO.out.1.alloc _) ⟨wr.heap.size, 0, none⟩ 1 1 (enc2 x) rfl rfl HNW.out (by simp [Value.oneCell', enc2]) (by unfold maxLen; omega) (by omega) (by simp; omega) ?_; intro v' w3 hown hgrow _ _; have H7 : Hid (w3.ownsRow w.heap.size 174 2 v' (notA a (kb.take (k + 1))).length ((notA a (kb.take (k + 1))).flatMap enc2) ∧ Grow w w3) := ⟨by rw [HNs.out]; simpa using hown, (HO.out.2.alloc _).grown hgrow (fun j e => (HO.out.1.lt j e).1)⟩; clear hown hgrow)
        go_roundw
        case rel => exact ⟨k + 1, by omega, by go_num, H7.out⟩
        case measure => simp [intOf] <;> omega
      · have e1 : (x.1 != a) = false := by simp [bne, hxa]
        rw [hxa] at hns
        have HNs := Lib.hid hns
        clear hns
        go_wp2_with fail
        go_roundw
        case rel => exact ⟨k + 1, by omega, by go_num, by rw [HNs.out]; exact HO.out.1, HO.out.2⟩
        case measure => simp [intOf] <;> omega
    · obtain rfl : k = kb.length := by omega
      have hki : ¬ (kb.length : Int) < (kb.length : Int) := by omega
      have hall := HO.out.1
      rw [List.take_length] at hall hnl
      have HAl := Lib.hid hall
      have f9' := blk_free (HO.out.2.at_ HV.out.blk) 29
      obtain ⟨A6, m6, c6, hu6⟩ := own_sl hall
      subst hu6
      clear hall
      by_cases hera : 0 < era
      · have hb2 : bearL kb a era = notA a kb ++ [(a, era)] := by unfold bearL; rw [if_pos hera]
        have HB2 := Lib.hid hb2
        have HNW := Lib.hid (cells_new wr (enc2 (a, era)) 174)
        clear hb2
        go_wp2_with (at_builtin; refine wpList_append_own_at _ rfl (.tmp 39) (.tmp 43) 81 rfl w.heap.size 174 i1 (.agg #[.int .i64 0, .int .i64 0]) 2 16 Tryz.underlying81 HJ.out.1 HJ.out.2.1 HJ.out.2.2.1 HJ.out.2.2.2 rfl (by decide) _ _ _ rfl (HAl.out.alloc _) ⟨wr.heap.size, 0, none⟩ 1 1 (enc2 (a, era)) rfl rfl HNW.out (by simp [Value.oneCell', enc2]) (by unfold maxLen; omega) (by omega) (by simp; omega) ?_; intro v' w3 hown hgrow _ _; obtain ⟨A7, m7, c7, hu7⟩ := own_sl hown; subst hu7; have hg3 : Grow w w3 := (HO.out.2.alloc _).grown hgrow (fun j e => (HAl.out.lt j e).1); have f9'' := blk_free (hg3.at_ HV.out.blk) 29; have k9'' := hg3.cell k9; have H7 : Hid (w3.ownsRow w.heap.size 174 2 (.slice A7 m7 c7) (bearL kb a era).length ((bearL kb a era).flatMap enc2) ∧ Grow w w3) := ⟨by rw [HB2.out]; simpa using hown, hg3⟩; clear hown hgrow hg3)
        go_end0
        exact HR.out _ _ (HE.out _ _ H7.out.1 H7.out.2)
      · have hb2 : bearL kb a era = notA a kb := by unfold bearL; rw [if_neg hera, List.append_nil]
        have HB2 := Lib.hid hb2
        clear hb2
        go_wp2_with fail
        go_end0
        exact HR.out _ _ (HE.out _ _ (by rw [HB2.out]; exact HAl.out) HO.out.2)
end Go.Proofs.YtcgcljmnnjalpaaGreat
