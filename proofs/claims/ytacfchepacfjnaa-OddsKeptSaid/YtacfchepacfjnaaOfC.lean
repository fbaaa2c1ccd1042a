/- Finds. -/
import Derived.Test.YtacfchepacfjnaaOfB
set_option linter.unusedVariables false
set_option linter.unusedSimpArgs false
namespace Go.Proofs.Ytacfchepacfjnaa
open Go.RowKit Go.Kx Go.Maps Go.Sort Go.Shelf
open Go.ChangeMaps (setBlock)
theorem eqAt_any (w : World) (B : Nat) (t x : Int) (hc : w.cell? ⟨B, 0, none⟩ = some (.int .i64 t)) : Calls Try.prog 46 #[.int .i64 x, .pointer (some ⟨B, 0, none⟩)] w fun e w' => e = .returned (.bool (x == t)) ∧ w = w' := by
  refine cph fun R HR => ?_
  go_enter Try.func46, Try.ntmps46
  go_wp2_with fail
  exact HR.out _ _ ⟨rfl, rfl⟩
theorem own_base_row {w : World} {base g n cap : Nat} {xs : List Value} (h : w.ownsRow base 3 1 (.slice (some ⟨g, 0, none⟩) n cap) n xs) : w.ownsRow g 3 1 (.slice (some ⟨g, 0, none⟩) n cap) n xs := by
  refine ⟨h.1, ?_⟩
  rcases h.2 with hv | ⟨g2, cap2, cur, e, hg, rest⟩
  · exact .inl hv
  · have e2 := e
    simp only [Value.slice.injEq, Option.some.injEq, Addr.mk.injEq] at e2
    obtain ⟨⟨rfl, _⟩, _, _⟩ := e2
    exact .inr ⟨g, cap2, cur, e, Nat.le_refl _, rest⟩
theorem cnt_stay (l : List Int) (t : Int) : (l.countP fun x => !(x == t)) + l.count t = l.length := by
  have := List.length_eq_countP_add_countP (fun x : Int => x == t) (l := l)
  rw [List.count]
  have e : (l.countP fun x => !(x == t)) = l.countP fun a => decide ¬(a == t) = true := by
    apply List.countP_congr
    intro x _
    cases x == t <;> simp
  omega
def okF (cs l : List Int) (i s j u : Int) : Bool := decide (0 < tot cs) && (bugB cs i s j u && stpB cs l)
def FindsP (w : World) (cs l : List Int) (i s j u : Int) (e : Ending) (w' : World) : Prop :=
  e = .returned (.tuple #[.bool (okF cs l i s j u && fnd l i s j u), .int .i64 (if okF cs l i s j u then 0 else 1)]) ∧ Grow w w'
theorem FindsP.no {w w' : World} {cs l : List Int} {i s j u : Int} (h : okF cs l i s j u = false) (hg : Grow w w') : FindsP w cs l i s j u (.returned (.tuple #[.bool false, .int .i64 1])) w' := ⟨by rw [h]; rfl, hg⟩
theorem FindsP.yes {w w' : World} {cs l : List Int} {i s j u : Int} (h : okF cs l i s j u = true) (hg : Grow w w') : FindsP w cs l i s j u (.returned (.tuple #[.bool (fnd l i s j u), .int .i64 0])) w' := ⟨by rw [h]; rfl, hg⟩
set_option maxRecDepth 100000 in
set_option maxHeartbeats 4000000 in
theorem Finds_any {w : World} {A B : Option Addr} {ca cb : Nat} {cs l : List Int} (h1 : IntsAt w A cs) (h2 : IntsAt w B l) (i s j u : Int) :
    Calls Try.prog 22 #[.slice A cs.length ca, .slice B l.length cb, bugV i s j u] w (FindsP w cs l i s j u) := by
  refine cph fun R HR => ?_
  have HV := Lib.hid (fun (W : World) (hg : Grow w W) => valid_any (w := W) (cap := ca) (h1.grow hg))
  have HB := Lib.hid (fun (W : World) (hg : Grow w W) => isBug_any (w := W) (ca := ca) (h1.grow hg) i s j u)
  have HG0 := Lib.hid ((Grow.refl w).alloc (.cells #[.int .i64 i, .int .i64 s, .int .i64 j, .int .i64 u] 35))
  have H := Lib.hid (And.intro h1 h2)
  unfold bugV at HB ⊢
  clear h1 h2
  by_cases hv : 0 < tot cs
  · obtain ⟨hm1, hm4, hvs, hts⟩ := tot_pos hv
    have hvd : decide (0 < tot cs) = true := by simp [hv]
    have htb := (tot_bd cs).2
    rw [hvd] at HV
    cases hb : bugB cs i s j u
    · rw [hb] at HB
      have HN := Lib.hid (fun w' => FindsP.no (w := w) (w' := w') (cs := cs) (l := l) (i := i) (s := s) (j := j) (u := u) (by simp [okF, hb]))
      clear hvd hts hvs hb
      go_enter Try.func22, Try.ntmps22
      go_wp2_with (first | (go_at_call 16; refine (HV.out _ HG0.out).mono ?_; rintro e w' ⟨rfl, rfl⟩) | (go_at_call 43; refine (HB.out _ HG0.out).mono ?_; rintro e w2 ⟨rfl, hg⟩; have H2 := Lib.hid (HG0.out.trans hg); clear hg))
      exact HR.out _ _ (HN.out _ H2.out)
    · rw [hb] at HB
      have HS := Lib.hid (fun (W : World) (hg : Grow w W) => sum_any (w := W) (cap := ca) (H.out.1.grow hg) hvs (by omega))
      have hokE : okF cs l i s j u = (decide ((l.length : Int) = cs.sum) && cntB cs l) := by unfold okF stpB; rw [hb, hvd, hts]; rfl
      rw [hts] at htb hv
      have hsd : ∀ W : World, True := fun _ => trivial
      clear hvd hts hvs hb hsd
      generalize cs.sum = T at HS hokE htb hv
      by_cases hl : (l.length : Int) = T
      · subst hl
        rw [decide_eq_true rfl, Bool.true_and] at hokE
        have HE := Lib.hid hokE
        have hn : ((l.length : Int) != (l.length : Int)) = false := by simp
        clear hokE
        have HCl := Lib.hid (fun (W : World) (hg : Grow w W) => clone_any (w := W) (c := cb) (H.out.2.grow hg) (by omega) (by omega))
        have HFi := Lib.hid (fun (W : World) (hg : Grow w W) => finds_any (w := W) (ca := cb) (H.out.2.grow hg) (by omega) i s j u)
        unfold bugV at HFi
        go_enter Try.func22, Try.ntmps22
        go_wp2_with (first | (go_at_call 16; refine (HV.out _ HG0.out).mono ?_; rintro e w' ⟨rfl, rfl⟩) | (go_at_call 43; refine (HB.out _ HG0.out).mono ?_; rintro e w2 ⟨rfl, hg⟩; have H2 := Lib.hid hg; clear hg) | (go_at_call 35; refine (HS.out _ (HG0.out.trans H2.out)).mono ?_; rintro e w' ⟨rfl, rfl⟩))
        go_loopw [28] (fun n wr => ∃ t : Nat, t ≤ cs.length ∧ n = .int .i64 t ∧ Hid (Grow (w.alloc (.cells #[.int .i64 i, .int .i64 s, .int .i64 j, .int .i64 u] 35)) wr ∧ ∀ (q : Nat) (hq : q < cs.length), q < t → ((l.count (q : Int) : Nat) : Int) = cs[q])) (fun n _ => cs.length - (intOf n).toNat)
        case atStart => exact ⟨0, Nat.zero_le _, rfl, H2.out, fun q _ hq => by omega⟩
        case round =>
          obtain ⟨t, ht, rfl, HQ⟩ := hrel
          by_cases hlt : t < cs.length
          · have hki : (t : Int) < (cs.length : Int) := by omega
            obtain ⟨b, off, rfl, hc⟩ := (H.out.1.grow (HG0.out.trans HQ.out.1)).at_ hlt
            have HX : Hid (∀ x, x = cs[t] → (((l.count (t : Int) : Nat) : Int) = x → ∀ (q : Nat) (hq : q < cs.length), q < t + 1 → ((l.count (q : Int) : Nat) : Int) = cs[q]) ∧ (((l.count (t : Int) : Nat) : Int) ≠ x → cntB cs l = false)) := by
              rintro x rfl
              refine ⟨fun h q hq hqt => ?_, fun h => cntB_no hlt h⟩
              by_cases e : q = t
              · subst e; exact h
              · exact HQ.out.2 q hq (by omega)
            obtain ⟨x, hx⟩ : ∃ x, x = cs[t] := ⟨_, rfl⟩
            rw [← hx] at hc
            have HY := Lib.hid (HX.out x hx)
            have hst := cnt_stay l (t : Int)
            have hca := fun o => ((Grow.refl wr).alloc o).cell hc
            clear hx HX
            have hG1 : Hid (Grow w wr) := HG0.out.trans HQ.out.1
            have HCl2 := Lib.hid (fun o => HCl.out _ (hG1.out.alloc o))
            go_wp2_with (go_at_call 45; (with_reducible refine (HCl2.out _).mono ?_))
            rintro e w3 ⟨g, cap, rfl, hrow, hg3⟩
            have hbx : (wr.alloc (.cells #[.int .i64 (t : Int)] 3)).heap[wr.heap.size]? = some (.cells #[.int .i64 (t : Int)] 3 (0, 0)) := blk_new wr _
            have hgB : wr.heap.size < g := by
              have := (hrow.lt g (by simp [Value.ownBlock])).1
              rw [World.size_alloc] at this
              omega
            have HD := Lib.hid (delete_any (lb := #[.pointer (some ⟨wr.heap.size, 0, none⟩)]) (p := fun x => x == (t : Int)) (own_base_row hrow) (fun W hf x _ => by
              have h3 := hg3.at_ hbx
              have h4 := hf.at_ h3 (by omega)
              exact eqAt_any W wr.heap.size t x (by rw [blk_cell h4]; rfl)) (enters_of Try.func46 (by kernel_rfl) rfl) (by omega))
            have hgr : Hid (Grow w w3 ∧ Grow (w.alloc (.cells #[.int .i64 i, .int .i64 s, .int .i64 j, .int .i64 u] 35)) w3 ∧ w3.heap.size > g ∧ wr.heap.size < g) := ⟨(hG1.out.alloc _).trans hg3, (HQ.out.1.alloc _).trans hg3, (hrow.lt g (by simp [Value.ownBlock])).2, hgB⟩
            clear hrow hg3 hbx hgB
            generalize (l.countP fun x => !(x == (t : Int))) = m at hst HD
            have hmw : ((l.length : Int) - (m : Int)) = ((l.count (t : Int) : Nat) : Int) := by omega
            generalize l.count (t : Int) = n at hst HY hmw
            by_cases e : (n : Int) = x
            · have e' : ((n : Int) != x) = false := by simp [e]
              have HE2 := Lib.hid (HY.out.1 e)
              clear e
              go_wp2_with (go_at_call 44; (with_reducible refine HD.out.mono ?_); rintro e w4 ⟨A4, c4, rfl, hf4⟩; have H4 := Lib.hid hf4; clear hf4)
              go_roundw
              case rel => exact ⟨t + 1, by omega, by go_num, (Fr.then hgr.out.2.1 H4.out (fun k hk e => by subst e; have := HQ.out.1.size; have := hgr.out.2.2.2; omega)), HE2.out⟩
              case measure => simp [intOf]; omega
            · have e' : ((n : Int) != x) = true := by simp [e]
              have HN := Lib.hid (fun w' => FindsP.no (w := w) (w' := w') (cs := cs) (l := l) (i := i) (s := s) (j := j) (u := u) (by rw [HE.out]; exact HY.out.2 e))
              clear e
              go_wp2_with (go_at_call 44; (with_reducible refine HD.out.mono ?_); rintro e w4 ⟨A4, c4, rfl, hf4⟩; have H4 := Lib.hid hf4; clear hf4)
              exact HR.out _ _ (HN.out _ (Fr.then hgr.out.1 H4.out (fun k hk e => by subst e; have := hG1.out.size; have := hgr.out.2.2.2; omega)))
          · have hki : ¬ (t : Int) < (cs.length : Int) := by omega
            have HF := Lib.hid (fun w' => FindsP.yes (w := w) (w' := w') (cs := cs) (l := l) (i := i) (s := s) (j := j) (u := u) (by rw [HE.out]; exact cntB_yes fun q hq => HQ.out.2 q hq (by omega)))
            have hbb := HQ.out.1.at_ (blk_new w _)
            have c0 : wr.cell? ⟨w.heap.size, 0, none⟩ = some (.int .i64 i) := by rw [blk_cell hbb]; rfl
            have c1 : wr.cell? ⟨w.heap.size, 1, none⟩ = some (.int .i64 s) := by rw [blk_cell hbb]; rfl
            have c2 : wr.cell? ⟨w.heap.size, 2, none⟩ = some (.int .i64 j) := by rw [blk_cell hbb]; rfl
            have c3 : wr.cell? ⟨w.heap.size, 3, none⟩ = some (.int .i64 u) := by rw [blk_cell hbb]; rfl
            have hG1 : Hid (Grow w wr) := HG0.out.trans HQ.out.1
            clear hbb
            go_wp2_with (go_at_call 47; refine (HFi.out _ hG1.out).mono ?_; rintro e w4 ⟨rfl, hg⟩; have H4 := Lib.hid (hG1.out.trans hg); clear hg)
            exact HR.out _ _ (HF.out _ H4.out)
      · have HN := Lib.hid (fun w' => FindsP.no (w := w) (w' := w') (cs := cs) (l := l) (i := i) (s := s) (j := j) (u := u) (by rw [hokE, decide_eq_false hl]; rfl))
        have hn : ((l.length : Int) != T) = true := by simp [hl]
        clear hl hokE
        go_enter Try.func22, Try.ntmps22
        go_wp2_with (first | (go_at_call 16; refine (HV.out _ HG0.out).mono ?_; rintro e w' ⟨rfl, rfl⟩) | (go_at_call 43; refine (HB.out _ HG0.out).mono ?_; rintro e w2 ⟨rfl, hg⟩; have H2 := Lib.hid (HG0.out.trans hg); clear hg) | (go_at_call 35; refine (HS.out _ H2.out).mono ?_; rintro e w' ⟨rfl, rfl⟩))
        exact HR.out _ _ (HN.out _ H2.out)
  · have hvd : decide (0 < tot cs) = false := by simpa using hv
    rw [hvd] at HV
    have HN := Lib.hid (fun w' => FindsP.no (w := w) (w' := w') (cs := cs) (l := l) (i := i) (s := s) (j := j) (u := u) (by simp [okF, hv]))
    clear hv hvd
    go_enter Try.func22, Try.ntmps22
    go_wp2_with (go_at_call 16; refine (HV.out _ HG0.out).mono ?_; rintro e w' ⟨rfl, rfl⟩)
    exact HR.out _ _ (HN.out _ HG0.out)
end Go.Proofs.Ytacfchepacfjnaa
