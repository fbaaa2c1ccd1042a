/- The hazard manager: Retire. -/
import Derived.Test.YtcgcljmnnjalpaaGreatGfM
set_option linter.unusedVariables false
set_option linter.unusedSimpArgs false
namespace Go.Proofs.YtcgcljmnnjalpaaGreat
open Go.RowKit Go.Kx
open Go.ChangeMaps (setBlock)
set_option maxRecDepth 100000 in
set_option maxHeartbeats 4000000 in
theorem contains_Z {w : World} {v : Value} {base : Nat} {l : List P2} {f : Nat} {lb : Array Value} {p : P2 → Bool} {J : Nat → World → Prop} (hown : w.ownsRow base 140 2 v l.length (l.flatMap enc2)) (hp : PredJ f lb (fun k => v.ownBlock = some k) p l J) (h0 : J 0 w)
    (eg : ∀ args w, (callFunc f args).run Tryz.prog w = .ok (.enter f args) w) (hl : l.length ≤ 200000) :
    Calls Tryz.prog 102 #[v, .func (.func f) #[] lb] w fun e w' => e = .returned (.bool (l.any p)) ∧ (∃ n, J n w') ∧ w'.ownsRow base 140 2 v l.length (l.flatMap enc2) := by
  refine cph fun R HR => ?_
  have HI := Lib.hid (index_Z hown hp h0 eg hl)
  unfold IdxJ at HI
  rw [← fstA_any] at HR
  obtain ⟨A, m, c, rfl⟩ := own_sl hown
  generalize fstA p l = i at HI HR
  clear hown hp h0
  go_enter Tryz.func102, Tryz.ntmps102
  go_wp2_with (go_at_call 129; refine HI.out.mono ?_; rintro e w' ⟨rfl, hj, hrow, hsz⟩; have H7 := Lib.hid (And.intro hj hrow); clear hj hrow)
  exact HR.out _ _ ⟨rfl, ⟨_, H7.out.1⟩, H7.out.2⟩
theorem eg103 (args : Array Value) (w : World) : (callFunc 103 args).run Tryz.prog w = .ok (.enter 103 args) w := by kernel_rfl
def adrIs (a : Int) (x : P2) : Bool := x.2 == a
theorem adrIs_any (s : RS) (a : Int) : (hzl s).any (adrIs a) = waitsB s a := by
  unfold hzl waitsB
  rw [List.any_map]
  rfl
theorem hzRet1 {w0 : World} {B : Nat} {a : Int} {G : Nat → Prop} {l : List P2} (hB : ¬ G B) (h1 : w0.cell? ⟨B, 0, none⟩ = some (.int .i64 a)) : PredJ 103 #[.pointer (some ⟨B, 0, none⟩)] G (adrIs a) l (fun _ W => Fr G w0 W) := by
  intro n x W0 W hx hJ hfr
  refine cph fun R HR => ?_
  have hW : Fr G w0 W := hJ.trans hfr
  have hcB := (World.cell?_of_block (w := w0) (hW.blk _ (World.block_lt_of_cell? w0 _ h1) hB)).trans h1
  have hgA := (Grow.refl W).alloc (Obj.cells #[.int .i64 x.1, .int .i64 x.2] 140)
  have aB := hgA.cell hcB
  have HA := Lib.hid (And.intro hgA hW)
  unfold adrIs at HR
  clear hx hJ hfr hW hcB hgA h1
  go_enter Tryz.func103, Tryz.ntmps103
  go_wp2_with fail
  exact HR.out _ _ ⟨rfl, fr_grow HA.out.2 HA.out.1, HA.out.1.mono fun _ _ h => h.elim⟩
theorem infoZ : ((Tryz.prog.info? 140).map fun i => (i.zero, i.size, i.bytes)) = some (some (.agg #[.int .i64 0, .int .i64 0]), 2, 16) := by kernel_rfl
def cz (t : Int) (l : List P2) (k : Nat) : Nat := (l.take k).countP fun x => x.1 == t
theorem cz_succ {t : Int} {l : List P2} {k : Nat} {x : P2} (h : l[k]? = some x) : cz t l (k + 1) = if x.1 == t then cz t l k + 1 else cz t l k := by
  unfold cz
  rw [List.take_add_one, h, List.countP_append]
  cases hx : x.1 == t <;> simp [hx]
theorem cz_le (t : Int) (l : List P2) (k : Nat) : cz t l k ≤ k := Nat.le_trans List.countP_le_length (List.length_take_le _ _)
theorem cz_all (s : RS) (t : Int) : cz t (hzl s) (hzl s).length = cntS s t := by
  unfold cz cntS hzl
  rw [List.take_length, List.countP_map]
  rfl
set_option maxRecDepth 100000 in
set_option maxHeartbeats 4000000 in
theorem hzRetire {b : Nat} {w : World} {F : FP} {s : RS} (h : HZ b w F s) (hs : s.items.length ≤ 100000) (t a : Int) : Calls Tryz.prog 56 #[.pointer (some ⟨b, 0, none⟩), .int .i64 t, .int .i64 a] w (OpP (HZ b) w F (retS s t a)) := by
  refine cph fun R HR => ?_
  have hga := (Grow.refl w).alloc (Obj.cells #[.int .i64 a] 3)
  have hna := blk_new w (Obj.cells #[.int .i64 a] 3)
  have hsa := size_alloc w (Obj.cells #[.int .i64 a] 3)
  obtain ⟨wa, hwa⟩ : ∃ wa, w.alloc (Obj.cells #[.int .i64 a] 3) = wa := ⟨_, rfl⟩
  rw [hwa] at hga hna hsa
  have kA := (blk_cell hna 0).trans (rfl : _ = some (Value.int .i64 a))
  have hQa := (HZ.local b).fr h (G := fun _ => False) hga (fun _ _ h => h)
  have HQ := Lib.hid hQa
  have HGa := Lib.hid hga
  have HSa : Hid (Step F w F wa) := ⟨hga.mono fun _ _ h => h.elim, fun k hk => .inl hk⟩
  obtain ⟨H0, v0, hv0⟩ := h
  have hFlt := Lib.hid hv0.lt
  obtain ⟨H, v, hv⟩ := hQa
  have HT := Lib.hid (hzNo hv t)
  have HV := Lib.hid hv
  clear hga hna hv0
  cases ht : okTh s t
  · rw [ht] at HT
    have e : retS s t a = ⟨s, [], 1⟩ := by simp [retS, ht]
    rw [e] at HR
    clear hv e
    go_enter Tryz.func56, Tryz.ntmps56
    go_wp2_with (go_at_call 101; refine HT.out.mono ?_; rintro e w' ⟨rfl, rfl⟩)
    exact HR.out _ _ (OpP.none HQ.out HSa.out)
  rw [ht] at HT
  by_cases ha : a < 1
  · have e : retS s t a = ⟨s, [], 1⟩ := by simp [retS]; omega
    rw [e] at HR
    clear hv e ht
    go_enter Tryz.func56, Tryz.ntmps56
    go_wp2_with (go_at_call 101; refine HT.out.mono ?_; rintro e w' ⟨rfl, rfl⟩)
    exact HR.out _ _ (OpP.none HQ.out HSa.out)
  have ha0 : 0 < a := by omega
  have hbl : b < w.heap.size := hFlt.out b ((hv.fp b).2 (.inl rfl))
  have hvl : ∀ k, v.ownBlock = some k → k < w.heap.size := fun k hk => hFlt.out k ((hv.fp k).2 (.inr (.inr hk)))
  have m1 := (blk_cell hv.blk 1).trans (rfl : _ = some v)
  have hcon := contains_Z (base := 0) (J := fun _ W => Fr (fun k => v.ownBlock = some k) wa W) (by rw [hzl_len]; exact hv.row) (hzRet1 (a := a) (l := hzl s) (fun hk => by have := hvl _ hk; omega) kA) (Fr.refl _ _) eg103 (by rw [hzl_len]; omega)
  rw [adrIs_any] at hcon
  have HC := Lib.hid hcon
  have HVL := Lib.hid hvl
  obtain ⟨A, m, cap, hvs⟩ := own_sl hv.row
  subst hvs
  clear hcon hvl
  cases hw : waitsB s a
  · rw [hw] at HC
    have hokr := Lib.hid (hv.ok.ret0 t a ha0)
    obtain ⟨i1, hi, hz0, hz1, hz2⟩ := info_parts infoZ
    have HJ := Lib.hid (And.intro hi (And.intro hz0 (And.intro hz1 hz2)))
    have HK := Lib.hid (And.intro ht (And.intro hw hv.kind))
    clear hi hz0 hz1 hz2 hv ht hw
    go_enter Tryz.func56, Tryz.ntmps56
    go_upto_region 5 with (first | (go_at_call 101; refine HT.out.mono ?_; rintro e w' ⟨rfl, rfl⟩) | (go_at_call 102; refine HC.out.mono ?_; rintro e w1 ⟨rfl, ⟨_, hfr⟩, hrow⟩; have HF1 := Lib.hid (And.intro hfr hrow); clear hfr hrow))
    have hb1 := HF1.out.1.at_ HV.out.blk (fun e => (HV.out.nev b e).1 rfl)
    have hrow := HF1.out.2
    have e1 := (blk_cell hb1 1).trans (rfl : _ = some (Value.slice A m cap))
    have f1 := blk_free hb1 1
    have kA1 := (World.cell?_of_block (w := wa) (HF1.out.1.blk _ (World.block_lt_of_cell? wa _ kA) (fun e => absurd (HVL.out w.heap.size e) (Nat.lt_irrefl _)))).trans kA
    have hgs := HF1.out.1.size
    have hbl1 := blk_lt hb1
    have hwl1 : w.heap.size < w1.heap.size := by omega
    rw [hzl_len] at hrow
    have H2 := Lib.hid (And.intro hb1 hrow)
    clear hb1 hrow
    go_region_law ((refine step_append_own rfl (.tmp 28) (.tmp 32) 117 rfl 0 140 i1 (.agg #[.int .i64 0, .int .i64 0]) 2 16 Tryz.underlying117 HJ.out.1 HJ.out.2.1 HJ.out.2.2.1 HJ.out.2.2.2 rfl (by decide) _ s.items.length ((hzl s).flatMap enc2) rfl (H2.out.2.alloc _) ⟨w1.heap.size, 0, none⟩ 1 1 [.int .i64 t, .int .i64 a] rfl rfl (cells_new w1.drew [.int .i64 t, .int .i64 a] 140) (by simp [Value.oneCell']) (by unfold maxLen; omega) (by omega) (by simp) ?_); intro v2 w3 hown hgrow _ hat; obtain ⟨g, cap3, rfl⟩ := own_some hown; have hb3 : w3.heap[b]? = some (.cells #[.slice (some ⟨H, 0, none⟩) s.n s.n, .slice A m cap] 119 (0, 0)) := (fr_grown hgrow).at_ (blk_alloc' _ H2.out.1) (fun e => (HV.out.nev b e).1 rfl); have e1' := (blk_cell hb3 1).trans (rfl : _ = some (Value.slice A m cap)); have f1' := blk_free hb3 1; have H8 := Lib.hid (And.intro hb3 (And.intro hown (And.intro hgrow hat))); clear hb3 hown hgrow hat)
    all_goals
      have hnew : g = w1.heap.size + 1 ∨ (Value.slice A m cap).ownBlock = some g := by
        rcases H8.out.2.2.2 with e | e
        · exact .inr (e.symm.trans rfl)
        · left; simpa [Value.ownBlock] using e
      have hHl : H < w.heap.size := hFlt.out H ((HV.out.fp H).2 (.inr (.inl rfl)))
      have hgb : g ≠ b ∧ g ≠ H := by
        rcases hnew with e | e
        · exact ⟨by omega, by omega⟩
        · exact HV.out.nev _ e
      have hb4 := blk_set H8.out.1 1 (.slice (some ⟨g, 0, none⟩) (s.items.length + 1) cap3)
      have hgr : Fr (fun k => (Value.slice A m cap).ownBlock = some k) wa w3 := (HF1.out.1.drew.alloc _).grown H8.out.2.2.1 (fun k e => .inr e)
      have hfb : Fr (· = b) w3 (w3.setCell ⟨b, 1, none⟩ (.slice (some ⟨g, 0, none⟩) (s.items.length + 1) cap3)) := (Fr.refl (· = b) _).setCell _ _ (.inr rfl)
      have hq : HZv b H (.slice (some ⟨g, 0, none⟩) (s.items.length + 1) cap3) (w3.setCell ⟨b, 1, none⟩ (.slice (some ⟨g, 0, none⟩) (s.items.length + 1) cap3)) (fun k => k = b ∨ k = H ∨ (Value.slice (some ⟨g, 0, none⟩) (s.items.length + 1) cap3).ownBlock = some k) (retS0 s t a) := by
        refine ⟨HV.out.kind, hokr.out, hb4, ?_, ?_, fun k => Iff.rfl⟩
        · exact owns_fr (owns_fr HV.out.hrow hgr (fun k hk e => by rw [HV.out.tH hk] at e; exact (HV.out.nev H e).2 rfl)) hfb (fun k hk e => by rw [HV.out.tH hk] at e; exact HV.out.neH e)
        · have h1 := owns_fr H8.out.2.1 hfb (fun j hj e => by
            have : g = j := by simpa [Value.ownBlock] using hj
            exact hgb.1 (this.trans e))
          simpa [retS0, hzl, mkItm, enc2] using h1
      have HSt : Hid (Step F w (fun k => k = b ∨ k = H ∨ (Value.slice (some ⟨g, 0, none⟩) (s.items.length + 1) cap3).ownBlock = some k) (w3.setCell ⟨b, 1, none⟩ (.slice (some ⟨g, 0, none⟩) (s.items.length + 1) cap3))) :=
        HSa.out.trans ⟨(hgr.mono (fun i _ e => (HV.out.fp i).2 (.inr (.inr e)))).trans (hfb.mono (fun i _ e => (HV.out.fp i).2 (.inl e))), fun k hk => by
          rcases hk with e | e | e
          · exact .inl ((HV.out.fp k).2 (.inl e))
          · exact .inl ((HV.out.fp k).2 (.inr (.inl e)))
          · have hgk : g = k := by simpa [Value.ownBlock] using e
            subst hgk
            rcases hnew with e | e
            · exact .inr (by omega)
            · exact .inl ((HV.out.fp _).2 (.inr (.inr e)))⟩
      obtain ⟨W6, hW6⟩ : ∃ W6, w3.setCell ⟨b, 1, none⟩ (.slice (some ⟨g, 0, none⟩) (s.items.length + 1) cap3) = W6 := ⟨_, rfl⟩
      rw [hW6] at hq HSt
      have c61 := (blk_cell hq.blk 1).trans (rfl : _ = some (Value.slice (some ⟨g, 0, none⟩) (s.items.length + 1) cap3))
      have H6 := Lib.hid hq
      have hr6 := hq.row
      rw [show (retS0 s t a).items.length = s.items.length + 1 from by simp [retS0]] at hr6
      have HR6 := Lib.hid hr6
      clear hr6
      have hn4 : s.n ≤ 4 := HV.out.ok.n4
      have hlen : (hzl (retS0 s t a)).length = s.items.length + 1 := by simp [hzl, retS0]
      have HL := Lib.hid hlen
      have HCZ := Lib.hid (cz_le t (hzl (retS0 s t a)))
      clear hq hgr hfb hb4 hlen
      go_wp2_with fail
      go_loopw [8, 41] (fun n8 i wr => ∃ k : Nat, k ≤ s.items.length + 1 ∧ i = .int .i64 k ∧ n8 = .int .i64 (cz t (hzl (retS0 s t a)) k) ∧ Hid (Grow W6 wr)) (fun _ i _ => s.items.length + 1 - (intOf i).toNat)
      case atStart => exact ⟨0, by omega, rfl, rfl, Grow.refl _⟩
      case round =>
        obtain ⟨k, hk, rfl, rfl, HO⟩ := hrel
        have hcz := HCZ.out k
        by_cases hlt : k < s.items.length + 1
        · obtain ⟨x, hx⟩ : ∃ x, (hzl (retS0 s t a))[k]? = some x := ⟨(hzl (retS0 s t a))[k]'(by rw [HL.out]; exact hlt), List.getElem?_eq_getElem _⟩
          have c0 := HO.out.cell ((own_at enc2_len HR6.out hx (o := 0) (by omega)).trans (rfl : _ = some (Value.int .i64 x.1)))
          have c1 := HO.out.cell ((own_at enc2_len HR6.out hx (o := 1) (by omega)).trans (rfl : _ = some (Value.int .i64 x.2)))
          have hki : (k : Int) < (s.items.length : Int) + 1 := by omega
          rw [Nat.add_zero] at c0
          have hcs := cz_succ (t := t) hx
          clear hx
          cases hxt : x.1 == t
          · rw [hxt] at hcs
            have HX := Lib.hid hcs
            clear hcs
            generalize cz t (hzl (retS0 s t a)) k = n at hcz HX
            go_wp2_with fail
            go_roundw
            case rel => exact ⟨k + 1, by omega, by go_num, by rw [HX.out]; rfl, HO.out.alloc _⟩
            case measure => simp [intOf] <;> omega
          · rw [hxt] at hcs
            have HX := Lib.hid hcs
            clear hcs
            generalize cz t (hzl (retS0 s t a)) k = n at hcz HX
            go_wp2_with fail
            go_roundw
            case rel => exact ⟨k + 1, by omega, by go_num, by rw [HX.out]; simp, HO.out.alloc _⟩
            case measure => simp [intOf] <;> omega
        · obtain rfl : k = s.items.length + 1 := by omega
          have hki : ¬ (((s.items.length + 1 : Nat) : Int) < (s.items.length : Int) + 1) := by omega
          have hce : cz t (hzl (retS0 s t a)) (s.items.length + 1) = cntS (retS0 s t a) t := by rw [← HL.out, cz_all]
          rw [hce] at hcz ⊢
          have c0 := HO.out.cell ((blk_cell H6.out.blk 0).trans (rfl : _ = some (Value.slice (some ⟨H, 0, none⟩) s.n s.n)))
          have hq := (HZ.local b).fr ⟨H, _, H6.out⟩ (G := fun _ => False) HO.out (fun _ _ h => h)
          have HQ9 := Lib.hid hq
          have HS9 := Lib.hid (hzScan hq (by simp [retS0]; omega) t)
          have HSt9 := Lib.hid (HSt.out.trans (⟨HO.out.mono fun _ _ h => h.elim, fun k hk => .inl hk⟩ : Step _ W6 (fun k => k = b ∨ k = H ∨ (Value.slice (some ⟨g, 0, none⟩) (s.items.length + 1) cap3).ownBlock = some k) wr))
          have hre : retS s t a = if 3 * s.n < cntS (retS0 s t a) t then sweepS (retS0 s t a) (fun x => x.thr == t) else ⟨retS0 s t a, [], 0⟩ := by
            unfold retS
            rw [HK.out.1, HK.out.2.1, if_pos HK.out.2.2]
            simp [ha0]
          rw [hre] at HR
          clear hre hce hq
          generalize cntS (retS0 s t a) t = cN at hcz HR
          by_cases hle : 3 * s.n < cN
          · have hle2 : ¬ ((cN : Int) ≤ 3 * (s.n : Int)) := by omega
            rw [if_pos hle] at HR
            clear hle
            go_wp2_with (go_at_call 104; refine HS9.out.mono ?_; intro e w9 ho; obtain ⟨v9, rfl, hp9⟩ := ho.toP2 HSt9.out; have H9 := Lib.hid hp9; clear hp9 ho)
            exact HR.out _ _ H9.out
          · have hle2 : (cN : Int) ≤ 3 * (s.n : Int) := by omega
            rw [if_neg hle] at HR
            clear hle
            go_wp2_with fail
            exact HR.out _ _ (OpP.none HQ9.out HSt9.out)
  · rw [hw] at HC
    have e : retS s t a = ⟨s, [], 6⟩ := by simp [retS, ht, ha0, hw]
    rw [e] at HR
    clear hv e ht hw
    go_enter Tryz.func56, Tryz.ntmps56
    go_wp2_with (first | (go_at_call 101; refine HT.out.mono ?_; rintro e w' ⟨rfl, rfl⟩) | (go_at_call 102; refine HC.out.mono ?_; rintro e w1 ⟨rfl, ⟨_, hfr⟩, hrow⟩; have HF1 := Lib.hid (And.intro hfr hrow); clear hfr hrow))
    refine HR.out _ _ (OpP.none ⟨H, .slice A m cap, HV.out.kind, HV.out.ok, HF1.out.1.at_ HV.out.blk (fun e => (HV.out.nev b e).1 rfl), owns_fr HV.out.hrow HF1.out.1 (fun k hk e => by rw [HV.out.tH hk] at e; exact (HV.out.nev H e).2 rfl), ?_, HV.out.fp⟩ (HSa.out.trans ⟨HF1.out.1.mono fun i _ e => (HV.out.fp i).2 (.inr (.inr e)), fun k hk => .inl hk⟩))
    have := HF1.out.2
    rwa [hzl_len] at this
end Go.Proofs.YtcgcljmnnjalpaaGreat
