/- GuardPlays: the guard's Play; what the statement's function answers. -/
import Derived.Test.YtcgcljmnnjalpaaGreatGrO
import Derived.Test.YtcgcljmnnjalpaaGreatGhB
import Derived.Deep.RegionHeld3
set_option linter.unusedVariables false
set_option linter.unusedSimpArgs false
namespace Go.Proofs.YtcgcljmnnjalpaaGreat
open Go.RowKit Go.Kx
open Go.ChangeMaps (setBlock)
theorem outs_sl {B0 : Nat} {F : FP} {ls : List (List Int)} {u : Value} {w : World} (h : OutsAt B0 F ls u w) : ∃ A c, u = .slice A ls.length c := by
  obtain ⟨vs, h1, h2, h3, h4⟩ := h
  rcases own_val h2 with ⟨rfl, h0⟩ | ⟨g, cap, rfl, _⟩
  · exact ⟨none, 0, by rw [h0]⟩
  · exact ⟨_, cap, rfl⟩
def PlayY (w : World) (outs : List (List Int)) (e : Ending) (w' : World) : Prop := ∃ A c, e = .returned (.tuple #[.slice A outs.length c, .int .i64 0]) ∧ OutsAt w.heap.size (fun _ => False) outs (.slice A outs.length c) w' ∧ Grow w w'
def PlayN (w : World) (e : Ending) (w' : World) : Prop := e = .returned (.tuple #[.slice none 0 0, .int .i64 1]) ∧ Grow w w'
set_option maxRecDepth 100000 in
set_option maxHeartbeats 4000000 in
theorem play_no {w : World} {A : Option Addr} {cap : Nat} (l : List Dd) (k t : Int) (h : ¬ (((0 ≤ k ∧ k ≤ 5) ∧ 1 ≤ t ∧ t ≤ 4) ∧ l.length ≤ 200)) : Calls Tryz.prog 14 #[.int .i64 k, .int .i64 t, .slice A l.length cap] w (PlayN w) := by
  refine cph fun R HR => ?_
  have HNw := Lib.hid (gmNew w k t)
  by_cases hok : (0 ≤ k ∧ k ≤ 5) ∧ 1 ≤ t ∧ t ≤ 4
  · have hl : 200 < l.length := by
      have : ¬ l.length ≤ 200 := fun q => h ⟨hok, q⟩
      omega
    have hli : (200 : Int) < (l.length : Int) := by omega
    unfold GNewK at *
    simp only [if_pos hok] at HNw
    clear h hok
    go_enter Tryz.func14, Tryz.ntmps14
    go_wp2_with (go_at_call 18; refine HNw.out.mono ?_; rintro e w2 ⟨G, F1, rfl, hA, hg, hF⟩; have H2 := Lib.hid hg; clear hA hg hF)
    exact HR.out _ _ ⟨rfl, H2.out⟩
  · unfold GNewK at *
    simp only [if_neg hok] at HNw
    clear h hok
    go_enter Tryz.func14, Tryz.ntmps14
    go_wp2_with (go_at_call 18; refine HNw.out.mono ?_; rintro e w2 ⟨rfl, hg⟩; have H2 := Lib.hid hg; clear hg)
    exact HR.out _ _ ⟨rfl, H2.out⟩
set_option maxRecDepth 100000 in
set_option maxHeartbeats 8000000 in
theorem play_yes {w : World} {A : Option Addr} {cap : Nat} {l : List Dd} (h : DdAt w A l) {k : Int} {N : Nat} (hok : (0 ≤ k ∧ k ≤ 5) ∧ 1 ≤ N ∧ N ≤ 4) (hl : l.length ≤ 200) : Calls Tryz.prog 14 #[.int .i64 k, .int .i64 N, .slice A l.length cap] w (PlayY w (outsS (newS k N) l)) := by
  refine cph fun R HR => ?_
  have HD := Lib.hid h
  have hNw := gmNew w k N
  unfold GNewK at hNw
  simp only [if_pos (And.intro hok.1 (by omega : 1 ≤ (N : Int) ∧ (N : Int) ≤ 4)), Int.toNat_natCast] at hNw
  have HNw := Lib.hid hNw
  have hN4 : N ≤ 4 := hok.2.2
  have hfew0 := few_new k (n := N) hN4
  have hbk : ∀ q, q ≤ l.length → Small (runS (newS k N) (l.take q)) ∧ Few 200 (runS (newS k N) (l.take q)) := fun q hq => ⟨(hfew0.run _).small (by simp; omega), (hfew0.run _).mono (by simp; omega)⟩
  have HBk := Lib.hid hbk
  obtain ⟨iL, hi, hz0, hz1, hz2⟩ := info_parts infoL
  have HL := Lib.hid (And.intro hi (And.intro hz0 (And.intro hz1 hz2)))
  clear h hNw hok hfew0 hbk hi hz0 hz1 hz2
  generalize newS k N = s0 at HNw HBk HR
  have hli : ¬ (200 : Int) < (l.length : Int) := by omega
  go_enter Tryz.func14, Tryz.ntmps14
  go_wp2_with (go_at_call 18; refine HNw.out.mono ?_; rintro e w2 ⟨G, F1, rfl, hA, hg, hF⟩; have H2 := Lib.hid (And.intro hA (And.intro hg hF)); clear hA hg hF)
  go_loopw [10, 28] (fun u i wr => ∃ q : Nat, q ≤ l.length ∧ i = .int .i64 q ∧ Hid (∃ F, GM G wr F (runS s0 (l.take q)) ∧ OutsAt w.heap.size F (outsS s0 (l.take q)) u wr ∧ Grow w wr ∧ ∀ j, F j → w.heap.size ≤ j)) (fun _ i _ => l.length - (intOf i).toNat)
  case atStart => exact ⟨0, Nat.zero_le _, rfl, F1, H2.out.1, OutsAt.nil _ _ _, H2.out.2.1, H2.out.2.2⟩
  case round =>
    obtain ⟨q, hq, rfl, HO⟩ := hrel
    by_cases hlt : q < l.length
    · have hki : (q : Int) < (l.length : Int) := by omega
      obtain ⟨d, hd⟩ : ∃ d, l[q]? = some d := ⟨l[q], by simp [hlt]⟩
      obtain ⟨F, hm, hout, hg, hF⟩ := HO.out
      have hdd := HD.out.fr hg (fun _ h => h.elim)
      obtain ⟨b, off, rfl, hcs⟩ := hdd.resolve_left (by intro e; rw [e] at hlt; simp at hlt)
      obtain ⟨c0, c1, c2, c3⟩ := hcs q d hd
      have hsm := (HBk.out q hq).1
      have hfw := (HBk.out q hq).2
      have hbl := back_le _ hfw.2.2 d
      have hbl2 : (doS (runS s0 (l.take q)) d).back.length ≤ 1000000 := by have := hfw.1; omega
      have hsucc := runS_succ (s := s0) hd
      have hosucc := outsS_succ (s := s0) hd
      have hol : (outsS s0 (l.take q)).length = q := by rw [outsS_len, List.length_take]; omega
      generalize hs : runS s0 (l.take q) = s at hm hsm hsucc hosucc hbl2
      generalize hr : doS s d = r at hsucc hosucc hbl2
      have HRr := Lib.hid hr
      have hga := (Grow.refl wr).alloc (Obj.cells #[.int .i64 d.do_, .int .i64 d.th, .int .i64 d.ho, .int .i64 d.ad] 32)
      have hna := blk_new wr (Obj.cells #[.int .i64 d.do_, .int .i64 d.th, .int .i64 d.ho, .int .i64 d.ad] 32)
      obtain ⟨wa, hwa⟩ : ∃ wa, wr.alloc (Obj.cells #[.int .i64 d.do_, .int .i64 d.th, .int .i64 d.ho, .int .i64 d.ad] 32) = wa := ⟨_, rfl⟩
      rw [hwa] at hga hna
      have hsa : wa.heap.size = wr.heap.size + 1 := by rw [← hwa]; exact size_alloc _ _
      have e0 := (blk_cell hna 0).trans (rfl : _ = some (Value.int .i64 d.do_))
      have e1 := (blk_cell hna 1).trans (rfl : _ = some (Value.int .i64 d.th))
      have e2 := (blk_cell hna 2).trans (rfl : _ = some (Value.int .i64 d.ho))
      have e3 := (blk_cell hna 3).trans (rfl : _ = some (Value.int .i64 d.ad))
      have hb := (GM.local G).fr hm (G := fun _ => False) hga (fun _ _ h => h)
      have hDo := gmDoes hb hsm d
      rw [hr] at hDo
      have HDo := Lib.hid hDo
      have HB := Lib.hid (And.intro hb (And.intro (hout.grow hga) (And.intro (hg.trans hga) hF)))
      have HSu := Lib.hid (And.intro hsucc hosucc)
      have HOl := Lib.hid hol
      have HSz0 := Lib.hid (hg.trans hga).size
      clear hd hm hout hg hF hdd hcs hna hga hs hsucc hosucc hol hsm hfw hbl hb hDo hr
      go_wp2_with (first | (go_at_call 40; refine HDo.out.mono ?_; intro e w6 ho6; obtain ⟨A6, c6, F6, rfl, o6, a6, s6, d6⟩ := ho6.ints; have hO6 := HB.out.2.1.step s6; obtain ⟨vs, v1, v2, v3, v4⟩ := hO6; have HV := Lib.hid (And.intro v1 (And.intro v2 (And.intro v3 v4))); have g6 := grow_step HB.out.2.2.1 HB.out.2.2.2 s6; have HSz := Lib.hid g6.1.size; have H6 := Lib.hid (And.intro o6 (And.intro a6 (And.intro d6 g6))); clear o6 a6 s6 d6 v1 v2 v3 v4 g6 ho6) | (at_builtin; refine wpList_append_own_at _ rfl (.tmp 32) (.tmp 36) 24 rfl w.heap.size 34 iL (.slice none 0 0) 1 24 Tryz.underlying24 HL.out.1 HL.out.2.1 HL.out.2.2.1 HL.out.2.2.2 rfl (by decide) _ (outsS s0 (l.take q)).length vs rfl (HV.out.2.1.alloc _) ⟨w6.heap.size, 0, none⟩ 1 1 [.slice A6 r.back.length c6] rfl rfl (cell_one_new w6 _ _) (by simp [Value.oneCell']) (by unfold maxLen; rw [HOl.out]; omega) (by rw [HOl.out]; omega) (by have := HSz.out; simp; omega) ?_; intro v7 w7 hown hgrow _ hat; have H7 := Lib.hid (And.intro hown (And.intro hgrow hat)); clear hown hgrow hat))
      go_roundw
      case rel =>
        refine ⟨q + 1, by omega, by go_num, F6, ?_, ?_, (H6.out.2.2.2.1.alloc _).grown H7.out.2.1 (fun j e => (HV.out.2.1.lt j e).1), H6.out.2.2.2.2⟩
        · rw [HSu.out.1]
          exact local_grown (GM.local G) H6.out.2.1 HV.out.2.2.1 H7.out.2.1
        · rw [HSu.out.2]
          exact OutsAt.app HV.out.1 HV.out.2.1 HV.out.2.2.1 HV.out.2.2.2 H6.out.1 HSz0.out H6.out.2.2.1 H7.out.1 H7.out.2.1 H7.out.2.2 ((GM.local G).lt H6.out.2.1)
      case measure => simp [intOf] <;> omega
    · obtain rfl : q = l.length := by omega
      have hki : ¬ (l.length : Int) < (l.length : Int) := by omega
      go_wp2_with fail
      obtain ⟨F, hm, hout, hg, hF⟩ := HO.out
      rw [List.take_length] at hout
      have ho2 := hout.free
      obtain ⟨A9, c9, hu⟩ := outs_sl ho2
      rw [hu] at ho2
      exact HR.out _ _ ⟨A9, c9, by rw [hu], ho2, hg⟩
theorem OutsAt.behind {B0 : Nat} {F : FP} {ls : List (List Int)} {u : Value} {w : World} (h : OutsAt B0 (fun _ => False) ls u w) (hF : ∀ j, F j → w.heap.size ≤ j) : OutsAt B0 F ls u w := by
  obtain ⟨vs, h1, h2, h3, h4⟩ := h
  exact ⟨vs, h1, h2, fun j hj hf => by have := (h2.lt j hj).2; have := hF j hf; omega, fun i x hx => by
    obtain ⟨v, p1, p2, p3⟩ := h4 i x hx
    exact ⟨v, p1, p2, fun j hj hf => by have := (p2.lt j hj).2; have := hF j hf; omega⟩⟩
theorem fr_cell {S : Nat → Prop} {a b : World} (h : Fr S a b) {p : Addr} {v : Value} (hc : a.cell? p = some v) (hn : ¬ S p.block) : b.cell? p = some v :=
  (World.cell?_of_block (w := a) (h.blk p.block (World.block_lt_of_cell? a p hc) hn)).trans hc
theorem OutsAt.cellStep {B0 g : Nat} {F F' : FP} {ls : List (List Int)} {m c : Nat} {w w' : World} (h : OutsAt B0 F ls (.slice (some ⟨g, 0, none⟩) m c) w) (hs : Step F w F' w') {i : Nat} {x : List Int} (hx : ls[i]? = some x) {A' : Option Addr} {n' c' : Nat} (hz : w.cell? ⟨g, i, none⟩ = some (.slice A' n' c')) :
    OutsAt B0 F' ls (.slice (some ⟨g, 0, none⟩) m c) w' ∧ w'.cell? ⟨g, i, none⟩ = some (.slice A' n' c') ∧ IntsAt w' A' x := by
  have h' := h.step hs
  have hng : ¬ F g := by obtain ⟨vs, h1, h2, h3, h4⟩ := h; exact h3 g rfl
  have hz' := fr_cell hs.fr hz hng
  refine ⟨h', hz', ?_⟩
  obtain ⟨b, A2, c2, e, -, z2, i2⟩ := h'.at_ hx
  injection e with e2
  injection e2 with e3
  subst e3
  rw [hz'] at z2
  injection z2 with z3
  injection z3 with z4
  subst z4
  exact i2
set_option maxRecDepth 100000 in
set_option maxHeartbeats 16000000 in
theorem plays_any {w : World} {A : Option Addr} {cap : Nat} {l : List Dd} (h : DdAt w A l) (k t : Int) : Calls Tryz.prog 3 #[.int .i64 k, .int .i64 t, .slice A l.length cap] w (TrueP w) := by
  refine cph fun R HR => ?_
  have HD := Lib.hid h
  have HA := Lib.hid (awake_any w)
  by_cases hok : ((0 ≤ k ∧ k ≤ 5) ∧ 1 ≤ t ∧ t ≤ 4) ∧ l.length ≤ 200
  · obtain ⟨N, rfl⟩ := Int.eq_ofNat_of_zero_le (a := t) (by omega)
    have hN : (0 ≤ k ∧ k ≤ 5) ∧ 1 ≤ N ∧ N ≤ 4 := by omega
    have hl200 := hok.2
    have hli : ¬ (200 : Int) < (l.length : Int) := by omega
    have HPl := Lib.hid (fun w1 (hg : Grow w w1) => play_yes (cap := cap) (h.fr hg (fun _ h => h.elim)) hN hl200)
    have HRw := Lib.hid (fun w1 => rgNew w1 k N)
    unfold RGNewK at HRw
    simp only [if_pos hok.1, Int.toNat_natCast] at HRw
    have hfew0 := few_new k (n := N) hN.2.2
    have hbk : ∀ q, q ≤ l.length → Small (runS (newS k N) (l.take q)) ∧ Few 200 (runS (newS k N) (l.take q)) := fun q hq => ⟨(hfew0.run _).small (by simp; omega), (hfew0.run _).mono (by simp; omega)⟩
    have HBk := Lib.hid hbk
    have hol := outsS_len (newS k N) l
    have HOl := Lib.hid hol
    clear h hok hfew0 hbk hN hol
    generalize newS k N = s0 at HPl HRw HBk HOl
    go_enter Tryz.func3, Tryz.ntmps3
    go_wp2_with (first | (go_at_call 13; refine HA.out.mono ?_; rintro e w1 ⟨rfl, hg1⟩; have HG1 := Lib.hid hg1; clear hg1) | (go_at_call 14; refine (HPl.out _ HG1.out).mono ?_; rintro e w2 ⟨A14, c14, rfl, ho, hg⟩; rw [HOl.out] at ho ⊢; have H2 := Lib.hid (And.intro ho hg); clear ho hg) | (go_at_call 15; refine (HRw.out _).mono ?_; rintro e w3 ⟨b, F2, rfl, hA, hg, hF⟩; have H3 := Lib.hid (And.intro hA (And.intro hg hF)); clear hA hg hF))
    have hI3 : ∃ F, RM b w3 F (runS s0 (l.take 0)) ∧ OutsAt w1.heap.size F (outsS s0 l) (.slice A14 l.length c14) w3 ∧ Grow w w3 ∧ ∀ j, F j → w.heap.size ≤ j :=
      ⟨F2, H3.out.1, (H2.out.1.behind H3.out.2.2).grow H3.out.2.1, (HG1.out.trans H2.out.2).trans H3.out.2.1, fun j hj => by have := H3.out.2.2 j hj; have := H2.out.2.size; have := HG1.out.size; omega⟩
    have HI3 := Lib.hid hI3
    clear hI3
    go_loopw [11] (fun i wr => ∃ q : Nat, q ≤ l.length ∧ i = .int .i64 q ∧ Hid (∃ F, RM b wr F (runS s0 (l.take q)) ∧ OutsAt w1.heap.size F (outsS s0 l) (.slice A14 l.length c14) wr ∧ Grow w wr ∧ ∀ j, F j → w.heap.size ≤ j)) (fun i _ => l.length - (intOf i).toNat)
    case atStart => exact ⟨0, Nat.zero_le _, rfl, HI3.out⟩
    case round =>
      obtain ⟨q, hq, rfl, HQ⟩ := hrel
      by_cases hql : q < l.length
      · have hqi : (q : Int) < (l.length : Int) := by omega
        obtain ⟨y, hy⟩ : ∃ y, l[q]? = some y := ⟨l[q], by simp [hql]⟩
        obtain ⟨F, hm, ho, hg, hF⟩ := HQ.out
        obtain ⟨b9, o9, rfl, hcs⟩ := HD.out.resolve_left (by intro e; rw [e] at hql; simp at hql)
        obtain ⟨p0, p1, p2, p3⟩ := hcs q y hy
        have c0 := hg.cell p0
        have c1 := hg.cell p1
        have c2 := hg.cell p2
        have c3 := hg.cell p3
        have hw := outsS_at (s := s0) hy
        have hsm := (HBk.out q hq).1
        have hfw := (HBk.out q hq).2
        have hbl := back_le _ hfw.2.2 y
        have hbl2 : (doS (runS s0 (l.take q)) y).back.length ≤ 1000000 := by have := hfw.1; omega
        have hsu := runS_succ (s := s0) hy
        have hga := (Grow.refl wr).alloc (Obj.cells #[.int .i64 y.do_, .int .i64 y.th, .int .i64 y.ho, .int .i64 y.ad] 32)
        have hna := blk_new wr (Obj.cells #[.int .i64 y.do_, .int .i64 y.th, .int .i64 y.ho, .int .i64 y.ad] 32)
        have hsz := size_alloc wr (Obj.cells #[.int .i64 y.do_, .int .i64 y.th, .int .i64 y.ho, .int .i64 y.ad] 32)
        obtain ⟨wa, hwa⟩ : ∃ wa, wr.alloc (Obj.cells #[.int .i64 y.do_, .int .i64 y.th, .int .i64 y.ho, .int .i64 y.ad] 32) = wa := ⟨_, rfl⟩
        rw [hwa] at hga hna hsz
        have e0 := (blk_cell hna 0).trans (rfl : _ = some (Value.int .i64 y.do_))
        have e1 := (blk_cell hna 1).trans (rfl : _ = some (Value.int .i64 y.th))
        have e2 := (blk_cell hna 2).trans (rfl : _ = some (Value.int .i64 y.ho))
        have e3 := (blk_cell hna 3).trans (rfl : _ = some (Value.int .i64 y.ad))
        have hma := (RM.local b).fr hm (G := fun _ => False) hga (fun _ _ h => h)
        have hoa := ho.grow hga
        obtain ⟨b14, A', c', rfl, -, z14, -⟩ := hoa.at_ hw
        have HSu := Lib.hid hsu
        generalize runS s0 (l.take q) = sq at hma hsm HSu hbl2 hw z14
        have hdo : ∀ W, Grow wa W → Calls Tryz.prog 17 #[.pointer (some ⟨b, 0, none⟩), .int .i64 y.do_, .int .i64 y.th, .int .i64 y.ho, .int .i64 y.ad] W (OpL (RM b) W F (doS sq y)) := fun W hW => rmDo ((RM.local b).fr hma (G := fun _ => False) hW (fun _ _ h => h)) hsm y
        generalize doS sq y = r at hdo HSu hbl2 hw z14
        have HZ := Lib.hid (And.intro z14 (And.intro e0 (And.intro e1 (And.intro e2 e3))))
        have hFw : ∀ j, F j → j < wr.heap.size := fun j hj => (RM.local b).lt hm j hj
        have HDo := Lib.hid hdo
        have H4 := Lib.hid (And.intro hoa (And.intro (hg.trans hga) (And.intro hF (And.intro hw hFw))))
        clear hy hm ho hg hF hcs p0 p1 p2 p3 hw hsm hfw hbl hsu hga hna hma hoa hdo hFw
        go_upto_region 13 with fail
        go_cut [76] (fun v wx => v = .bool false ∧ Hid (∃ F', RM b wx F' r.st ∧ OutsAt w1.heap.size F' (outsS s0 l) (.slice (some ⟨b14, 0, none⟩) l.length c14) wx ∧ Grow w wx ∧ ∀ j, F' j → w.heap.size ≤ j))
        case first =>
          go_region_held3 (fun W => W.cell? ⟨b14, q, none⟩ = some (.slice A' r.back.length c') ∧ W.cell? ⟨wr.heap.size, 0, none⟩ = some (.int .i64 y.do_) ∧ W.cell? ⟨wr.heap.size, 1, none⟩ = some (.int .i64 y.th) ∧ W.cell? ⟨wr.heap.size, 2, none⟩ = some (.int .i64 y.ho) ∧ W.cell? ⟨wr.heap.size, 3, none⟩ = some (.int .i64 y.ad)) (refine ⟨?_, ?_, ?_, ?_, ?_⟩ <;> first | assumption | exact Grow.cell (Grow.drew (Grow.refl _)) (by assumption)) ((first | (go_at_call 17; (with_reducible refine Calls.mono (HDo.out _ ?_) ?_); (first | exact Grow.refl _ | exact (Grow.refl _).drew); intro e w7 ho7; obtain ⟨A7, c7, F7, rfl, o7, a7, s7, d7⟩ := ho7.ints; have k7 := (H4.out.1.grow (Grow.refl _).drew).cellStep s7 H4.out.2.2.2.1 ((Grow.refl _).drew.cell HZ.out.1); have z7 := k7.2.1; have f0 := fr_cell s7.fr ((Grow.refl _).drew.cell HZ.out.2.1) (fun e => Nat.lt_irrefl _ (H4.out.2.2.2.2 _ e)); have f1 := fr_cell s7.fr ((Grow.refl _).drew.cell HZ.out.2.2.1) (fun e => Nat.lt_irrefl _ (H4.out.2.2.2.2 _ e)); have f2 := fr_cell s7.fr ((Grow.refl _).drew.cell HZ.out.2.2.2.1) (fun e => Nat.lt_irrefl _ (H4.out.2.2.2.2 _ e)); have f3 := fr_cell s7.fr ((Grow.refl _).drew.cell HZ.out.2.2.2.2) (fun e => Nat.lt_irrefl _ (H4.out.2.2.2.2 _ e)); have HSa : Hid (∀ W, Grow w7 W → Calls Tryz.prog 16 #[.slice A' r.back.length c', .slice A7 r.back.length c7] W fun e w' => e = .returned (.bool true) ∧ Grow W w') := (fun W hW => by have hs := sameI_any (ca := c') (cb := c7) (k7.2.2.grow hW) ((ints_own o7).grow hW) hbl2 hbl2; rw [decide_eq_true rfl] at hs; exact hs); have g7 := grow_step (H4.out.2.1.drew) H4.out.2.2.1 s7; have H7 := Lib.hid (And.intro a7 (And.intro k7.1 g7)); clear ho7 o7 a7 s7 d7 k7 g7) | (go_at_call 16; (with_reducible refine Calls.mono (HSa.out _ ?_) ?_); (first | exact Grow.refl _ | exact (Grow.refl _).drew); rintro e w8 ⟨rfl, g8⟩; have g9 := Grow.trans (a := w7) (by first | exact Grow.refl _ | exact (Grow.refl _).drew) g8; have z8 := g9.cell z7; have h0 := g9.cell f0; have h1 := g9.cell f1; have h2 := g9.cell f2; have h3 := g9.cell f3; have H8 := Lib.hid g9; clear g8 g9)))
          all_goals
            go_wp2_with fail
            go_meet
            exact ⟨rfl, F7, (RM.local b).fr (G := fun _ => False) H7.out.1 (by first | exact H8.out | exact H8.out.drew) (fun _ _ h => h), H7.out.2.1.grow (by first | exact H8.out | exact H8.out.drew), H7.out.2.2.1.trans (by first | exact H8.out | exact H8.out.drew), H7.out.2.2.2⟩
        case rest =>
          obtain ⟨rfl, HC⟩ := hcut
          go_wp2_with fail
          go_roundw
          case rel =>
            refine ⟨q + 1, by omega, by go_num, ?_⟩
            rw [HSu.out]
            exact HC.out
          case measure => simp [intOf] <;> omega
      · obtain rfl : q = l.length := by omega
        have hqi : ¬ (l.length : Int) < (l.length : Int) := by omega
        go_wp2_with fail
        obtain ⟨F, hm, ho, hg, hF⟩ := HQ.out
        exact HR.out _ _ ⟨rfl, hg⟩
  · have HPl := Lib.hid (fun w1 => play_no (w := w1) (A := A) (cap := cap) l k t hok)
    have HRw := Lib.hid (fun w1 => rgNew w1 k t)
    unfold RGNewK at HRw
    by_cases hv : (0 ≤ k ∧ k ≤ 5) ∧ 1 ≤ t ∧ t ≤ 4
    · simp only [if_pos hv] at HRw
      have hl : 200 < l.length := by
        have : ¬ l.length ≤ 200 := fun q => hok ⟨hv, q⟩
        omega
      have hli : (200 : Int) < (l.length : Int) := by omega
      clear h hok hv
      go_enter Tryz.func3, Tryz.ntmps3
      go_wp2_with (first | (go_at_call 13; refine HA.out.mono ?_; rintro e w1 ⟨rfl, hg1⟩; have HG1 := Lib.hid hg1; clear hg1) | (go_at_call 14; refine (HPl.out _).mono ?_; rintro e w2 ⟨rfl, hg⟩; have H2 := Lib.hid hg; clear hg) | (go_at_call 15; refine (HRw.out _).mono ?_; rintro e w3 ⟨b, F2, rfl, hA, hg, hF⟩; have H3 := Lib.hid hg; clear hA hg hF))
      exact HR.out _ _ ⟨rfl, (HG1.out.trans H2.out).trans H3.out⟩
    · simp only [if_neg hv] at HRw
      clear h hok hv
      go_enter Tryz.func3, Tryz.ntmps3
      go_wp2_with (first | (go_at_call 13; refine HA.out.mono ?_; rintro e w1 ⟨rfl, hg1⟩; have HG1 := Lib.hid hg1; clear hg1) | (go_at_call 14; refine (HPl.out _).mono ?_; rintro e w2 ⟨rfl, hg⟩; have H2 := Lib.hid hg; clear hg) | (go_at_call 15; refine (HRw.out _).mono ?_; rintro e w3 ⟨rfl, hg⟩; have H3 := Lib.hid hg; clear hg))
      exact HR.out _ _ ⟨rfl, (HG1.out.trans H2.out).trans H3.out⟩
end Go.Proofs.YtcgcljmnnjalpaaGreat
