/- Steps, the reference's Finds; slices.DeleteFunc at the length it leaves; Finds. -/
import Derived.Test.YtacfchepacfjnaaOfA
set_option linter.unusedVariables false
set_option linter.unusedSimpArgs false
namespace Go.Proofs.Ytacfchepacfjnaa
open Go.RowKit Go.Kx Go.Maps Go.Sort Go.Shelf
open Go.ChangeMaps (setBlock)
/-- Each thread as often as counts say. -/
def cntB (cs l : List Int) : Bool := (List.range cs.length).all fun t => decide (((l.count (t : Int) : Nat) : Int) = cs[t]?.getD 0)
def stpB (cs l : List Int) : Bool := decide ((l.length : Int) = tot cs) && cntB cs l
theorem cntB_no {cs l : List Int} {t : Nat} (ht : t < cs.length) (h : ((l.count (t : Int) : Nat) : Int) ≠ cs[t]) : cntB cs l = false := by
  unfold cntB
  rw [List.all_eq_false]
  refine ⟨t, by simpa using ht, ?_⟩
  rw [List.getElem?_eq_getElem ht]
  simpa using h
theorem cntB_yes {cs l : List Int} (h : ∀ (t : Nat) (ht : t < cs.length), ((l.count (t : Int) : Nat) : Int) = cs[t]) : cntB cs l = true := by
  unfold cntB
  rw [List.all_eq_true]
  intro t ht
  have ht : t < cs.length := by simpa using ht
  rw [List.getElem?_eq_getElem ht]
  simpa using h t ht
set_option maxHeartbeats 2000000 in
theorem steps_any {w : World} {A B : Option Addr} {ca cb : Nat} {cs l : List Int} (h1 : IntsAt w A cs) (h2 : IntsAt w B l) (hv : 0 < tot cs) :
    Calls Try.prog 24 #[.slice A cs.length ca, .slice B l.length cb] w fun e w' => e = .returned (.bool (stpB cs l)) ∧ w = w' := by
  refine cph fun R HR => ?_
  obtain ⟨hm1, hm4, hvs, hts⟩ := tot_pos hv
  have htb := (tot_bd cs).2
  have HT := Lib.hid (total_any (cap := ca) h1)
  have H := Lib.hid (And.intro h1 h2)
  unfold stpB at HR
  generalize tot cs = T at HT HR hts hv htb
  clear h1 h2 hvs hts
  by_cases hne : (l.length : Int) = T
  · subst hne
    rw [decide_eq_true rfl, Bool.true_and] at HR
    have hn : ((l.length : Int) != (l.length : Int)) = false := by simp
    go_enter Try.func24, Try.ntmps24
    go_wp2_with (go_at_call 17; refine HT.out.mono ?_; rintro e w' ⟨rfl, rfl⟩)
    go_loop [5] (fun i => ∃ t : Nat, t ≤ cs.length ∧ i = .int .i64 t ∧ Hid (∀ (q : Nat) (hq : q < cs.length), q < t → ((l.count (q : Int) : Nat) : Int) = cs[q])) (fun i => cs.length - (intOf i).toNat)
    case atStart => exact ⟨0, Nat.zero_le _, rfl, fun q _ hq => by omega⟩
    case round =>
      obtain ⟨t, ht, rfl, HQ⟩ := hrel
      by_cases hlt : t < cs.length
      · have hki : (t : Int) < (cs.length : Int) := by omega
        obtain ⟨b, off, rfl, hc⟩ := H.out.1.at_ hlt
        have HX : Hid (∀ x, x = cs[t] → (((l.count (t : Int) : Nat) : Int) = x → ∀ (q : Nat) (hq : q < cs.length), q < t + 1 → ((l.count (q : Int) : Nat) : Int) = cs[q]) ∧ (((l.count (t : Int) : Nat) : Int) ≠ x → cntB cs l = false)) := by
          rintro x rfl
          refine ⟨fun h q hq hqt => ?_, fun h => cntB_no hlt h⟩
          by_cases e : q = t
          · subst e; exact h
          · exact HQ.out q hq (by omega)
        obtain ⟨x, hx⟩ : ∃ x, x = cs[t] := ⟨_, rfl⟩
        rw [← hx] at hc
        have HY := Lib.hid (HX.out x hx)
        clear hx HX
        go_wp2_with fail
        go_loop [6, 7] (fun n i => ∃ k : Nat, k ≤ l.length ∧ i = .int .i64 k ∧ n = .int .i64 ((l.take k).count (t : Int) : Nat)) (fun _ i => l.length - (intOf i).toNat)
        case atStart => exact ⟨0, Nat.zero_le _, rfl, by simp⟩
        case round =>
          obtain ⟨k, hk, rfl, rfl⟩ := hrel
          have hcl : (l.take k).count (t : Int) ≤ k := Nat.le_trans List.count_le_length (List.length_take_le _ _)
          by_cases hkl : k < l.length
          · have hki2 : (k : Int) < (l.length : Int) := by omega
            obtain ⟨b2, off2, rfl, hc2⟩ := H.out.2.at_ hkl
            have hcs := cnt_succ l (t : Int) k
            rw [List.getElem?_eq_getElem hkl] at hcs
            have HC := Lib.hid hcs
            clear hcs
            generalize l[k] = y at hc2 HC
            generalize hn : (l.take k).count (t : Int) = n at hcl HC ⊢
            clear hn
            by_cases e : y = (t : Int)
            · have e' : (y == (t : Int)) = true := by simp [e]
              have HE := Lib.hid e
              clear e
              go_wp2_with fail
              go_round
              case rel => exact ⟨k + 1, by omega, by go_num, by rw [HC.out, if_pos (by rw [HE.out])]; go_num⟩
              case measure => simp [intOf]; omega
            · have e' : (y == (t : Int)) = false := by simp [e]
              have HE := Lib.hid e
              clear e
              go_wp2_with fail
              go_round
              case rel => exact ⟨k + 1, by omega, by go_num, by rw [HC.out, if_neg (fun h => HE.out (by cases h; rfl))]; simp⟩
              case measure => simp [intOf]; omega
          · have hki2 : ¬ (k : Int) < (l.length : Int) := by omega
            have e : l.take k = l := List.take_of_length_le (by omega)
            rw [e] at hcl ⊢
            clear e
            generalize l.count (t : Int) = n at hcl HY ⊢
            by_cases e : (n : Int) = x
            · have e' : ((n : Int) != x) = false := by simp [e]
              have HE := Lib.hid (HY.out.1 e)
              clear e
              go_wp2_with fail
              go_round
              case rel => exact ⟨t + 1, by omega, by go_num, HE.out⟩
              case measure => simp [intOf]; omega
            · have e' : ((n : Int) != x) = true := by simp [e]
              rw [HY.out.2 e] at HR
              clear e
              go_wp2_with fail
              exact HR.out _ _ ⟨rfl, rfl⟩
      · have hki : ¬ (t : Int) < (cs.length : Int) := by omega
        rw [cntB_yes fun q hq => HQ.out q hq (by omega)] at HR
        go_wp2_with fail
        exact HR.out _ _ ⟨rfl, rfl⟩
  · rw [decide_eq_false hne, Bool.false_and] at HR
    have hn : ((l.length : Int) != T) = true := by simp [hne]
    clear hne
    go_enter Try.func24, Try.ntmps24
    go_wp2_with (go_at_call 17; refine HT.out.mono ?_; rintro e w' ⟨rfl, rfl⟩)
    exact HR.out _ _ ⟨rfl, rfl⟩
set_option maxRecDepth 100000 in
set_option maxHeartbeats 2000000 in
theorem refFinds_any {w : World} {A : Option Addr} {ca : Nat} {l : List Int} (h : IntsAt w A l) (hl : l.length ≤ 1000) (i s j u : Int) (hs0 : 0 ≤ s) (hs6 : s ≤ 6) : Calls Try.prog 25 #[.slice A l.length ca, bugV i s j u] w (BoolG w (fndR l i s j u)) := by
  refine cph fun R HR => ?_
  have HP := Lib.hid (fun (t s : Int) (o : Obj) (n : Nat) => place_any (w := (w.alloc o).drewN n) (ca := ca) (h.grow (((Grow.refl w).alloc o).drewN n)) t s (by omega))
  have HP0 := Lib.hid (fun (t s : Int) (o : Obj) => place_any (w := w.alloc o) (ca := ca) (h.grow ((Grow.refl w).alloc o)) t s (by omega))
  clear h
  unfold bugV
  unfold fndR at HR
  go_enter Try.func25, Try.ntmps25
  go_wp2_with (go_at_call 48; refine (HP0.out _ _ _).mono ?_; rintro e w' ⟨rfl, rfl⟩)
  all_goals
    refine HR.out _ _ ⟨?_, (Grow.refl w).alloc _⟩
    simp_all
    try (intro hh; omega)
/-- What slices.DeleteFunc leaves: a slice as long as what stays. -/
def DelP (w : World) (g n : Nat) (e : Ending) (w' : World) : Prop := ∃ A c, e = .returned (.slice A n c) ∧ Fr (fun k => k = g) w w'
structure DelS (w wr : World) (g cap : Nat) (l : List Int) (p : Int → Bool) (i j : Nat) : Prop where
  row : ∃ xs : List Int, xs.length = l.length ∧ wr.ownsRow g 3 1 (.slice (some ⟨g, 0, none⟩) l.length cap) l.length (xs.map (Value.int .i64)) ∧ ∀ q, j ≤ q → xs[q]? = l[q]?
  fr : Fr (fun k => k = g) w wr
  cnt : i = (l.take j).countP fun x => !p x
theorem fstP_lt (p : Int → Bool) : ∀ l : List Int, fstP p l < l.length
  | [] => by simp [fstP]
  | x :: l => by
    have := fstP_lt p l
    unfold fstP
    simp only [List.length_cons]
    split
    · omega
    · split <;> omega
theorem cntP_succ {l : List Int} (q : Int → Bool) {j : Nat} (hj : j < l.length) : (l.take (j + 1)).countP q = (l.take j).countP q + if q l[j] then 1 else 0 := by
  rw [List.take_succ_eq_append_getElem hj, List.countP_append]
  simp [List.countP_cons]
theorem cntP_le {l : List Int} (q : Int → Bool) (j : Nat) : (l.take j).countP q ≤ j := Nat.le_trans List.countP_le_length (List.length_take_le _ _)
theorem DelS.skip {w wr : World} {g cap : Nat} {l : List Int} {p : Int → Bool} {i j : Nat} (h : DelS w wr g cap l p i j) (hj : j < l.length) (hp : p l[j] = true) : DelS w wr g cap l p i (j + 1) := by
  obtain ⟨xs, h1, h2, h3⟩ := h.row
  exact ⟨⟨xs, h1, h2, fun q hq => h3 q (by omega)⟩, h.fr, by rw [cntP_succ _ hj, hp, h.cnt]; simp⟩
theorem DelS.keep {w wr : World} {g cap : Nat} {l : List Int} {p : Int → Bool} {i j : Nat} (h : DelS w wr g cap l p i j) (hij : i ≤ j) (hj : j < l.length) {x : Int} (hx : x = l[j]) (hp : p x = false) : DelS w (wr.setCell ⟨g, i, none⟩ (.int .i64 x)) g cap l p (i + 1) (j + 1) := by
  obtain ⟨xs, h1, h2, h3⟩ := h.row
  subst hx
  refine ⟨⟨xs.set i l[j], by simpa using h1, ?_, fun q hq => ?_⟩, h.fr.setCell _ _ (.inr rfl), by rw [cntP_succ _ hj, hp, h.cnt]; simp⟩
  · rw [List.map_set]; exact (h2.stored i _).1
  · rw [List.getElem?_set, if_neg (by omega)]; exact h3 q (by omega)
theorem fr_setCells {S : Nat → Prop} {g : Nat} (hg : S g) : ∀ (vs : List Value) (o : Nat) (a w : World), Fr S a w → Fr S a (w.setCells g o vs)
  | [], _, _, _, h => h
  | v :: r, o, a, w, h => fr_setCells hg r (o + 1) a _ (h.setCell ⟨g, o, none⟩ v (.inr hg))
set_option maxRecDepth 100000 in
set_option maxHeartbeats 4000000 in
theorem delete_any {w : World} {g cap f : Nat} {l : List Int} {lb : Array Value} {p : Int → Bool} (hown : w.ownsRow g 3 1 (.slice (some ⟨g, 0, none⟩) l.length cap) l.length (l.map (Value.int .i64)))
    (hp : ∀ W, Fr (fun k => k = g) w W → Pred f lb p W l) (eg : ∀ args w, (callFunc f args).run Try.prog w = .ok (.enter f args) w) (hl : l.length ≤ 1000) :
    Calls Try.prog 44 #[.slice (some ⟨g, 0, none⟩) l.length cap, .func (.func f) #[] lb] w (DelP w g (l.countP fun x => !p x)) := by
  refine cph fun R HR => ?_
  have hcap : l.length ≤ cap := by
    rcases hown.2 with ⟨e, _⟩ | ⟨g2, c3, cur, e, hb1, hb2, hb3, hb4, _⟩
    · cases e
    · cases e; exact hb3
  have HI := Lib.hid (index_any (cap := cap) (own_ints hown) (hp w (Fr.refl _ _)) eg (by omega))
  have H0 : Hid (∀ k : Nat, k < l.length → fstP p l = k → DelS w w g cap l p k (k + 1)) := by
    intro k hk he
    have hall : ∀ q (hq : q < l.length), q < k → p l[q] = false := by
      intro q hq hqk
      clear hown hp eg HI HR hcap
      induction l generalizing k q with
      | nil => simp at hq
      | cons x l ih =>
        unfold fstP at he
        split at he
        · omega
        · next hpx =>
          have hge := fstP_ge p l
          cases q with
          | zero => simpa using hpx
          | succ q =>
            split at he
            · omega
            · have hq' : q < l.length := by simpa using hq
              have hk' : k - 1 < l.length := by simp at hk; omega
              simpa using ih (by simp at hl; omega) (k - 1) hk' (by omega) q hq' (by omega)
    refine ⟨⟨l, rfl, hown, fun _ _ => rfl⟩, Fr.refl _ _, ?_⟩
    have hk2 : p l[k] = true := by
      clear hown hp eg HI HR hcap hall
      induction l generalizing k with
      | nil => simp at hk
      | cons x l ih =>
        unfold fstP at he
        split at he
        · next hpx => obtain rfl : k = 0 := by omega
                      simpa using hpx
        · have hge := fstP_ge p l
          split at he
          · omega
          · obtain ⟨k, rfl⟩ : ∃ k', k = k' + 1 := ⟨k - 1, by omega⟩
            simpa using ih (by simp at hl; omega) k (by simpa using hk) (by omega)
    rw [cntP_succ _ hk, hk2, List.countP_eq_length.2]
    · rw [List.length_take]; simp; omega
    · intro x hx
      obtain ⟨q, hq, rfl⟩ := List.mem_iff_getElem.1 hx
      rw [List.length_take] at hq
      rw [List.getElem_take, hall q (by omega) (by omega)]; rfl
  have HP := Lib.hid hp
  have hge := fstP_ge p l
  have hnone : fstP p l = -1 → (l.countP fun x => !p x) = l.length := fun e => by
    rw [List.countP_eq_length]
    intro x hx
    have := (not_congr (fstP_any p l)).1 (by omega)
    cases hpx : p x
    · rfl
    · exact absurd (List.any_eq_true.2 ⟨x, hx, hpx⟩) this
  have HN := Lib.hid hnone
  have hlt := fstP_lt p l
  clear hown hp hnone
  by_cases hz : fstP p l = -1
  · rw [HN.out hz] at HR
    rw [hz] at HI
    clear hz hge HN hlt H0
    go_enter Try.func44, Try.ntmps44
    go_wp2_with (go_at_call 57; refine HI.out.mono ?_; rintro e w' ⟨rfl, rfl⟩)
    exact HR.out _ _ ⟨_, _, rfl, Fr.refl _ _⟩
  · obtain ⟨k0, hk0⟩ := Int.eq_ofNat_of_zero_le (a := fstP p l) (by omega)
    have hk : k0 < l.length := by omega
    have HD := Lib.hid (H0.out k0 hk hk0)
    rw [hk0] at HI
    have hne1 : ((k0 : Int) == -1) = false := beq_eq_false_iff_ne.2 (by omega)
    clear hz hge HN hlt H0 hk0
    go_enter Try.func44, Try.ntmps44
    go_wp2_with (go_at_call 57; refine HI.out.mono ?_; rintro e w' ⟨rfl, rfl⟩)
    go_loopw [5, 6, 7] (fun a b _ wr => ∃ i j : Nat, a = .int .i64 i ∧ b = .int .i64 j ∧ j ≤ l.length ∧ i < j ∧ Hid (DelS w wr g cap l p i j)) (fun _ b _ _ => l.length - (intOf b).toNat)
    case atStart => exact ⟨k0, k0 + 1, rfl, by go_num, by omega, by omega, HD.out⟩
    case round =>
      obtain ⟨i, j, rfl, rfl, hj, hij, HS⟩ := hrel
      by_cases hjl : j < l.length
      · have hji : (j : Int) < (l.length : Int) := by omega
        obtain ⟨xs, hxl, hrow, hxs⟩ := HS.out.row
        have hc := own_cell hrow (j := j) (by omega)
        have hco := own_cell hrow (j := i) (by omega)
        have hfz := hrow.frozenAt i
        have hxj : xs[j] = l[j] := by
          have := hxs j (Nat.le_refl _)
          rw [List.getElem?_eq_getElem (by omega), List.getElem?_eq_getElem hjl] at this
          exact Option.some.inj this
        rw [hxj] at hc
        have hq := HP.out wr HS.out.fr l[j] (List.getElem_mem hjl)
        have hii : (i : Int) < (l.length : Int) := by omega
        have HK : Hid (∀ x, x = l[j] → (p x = false → DelS w (wr.setCell ⟨g, i, none⟩ (.int .i64 x)) g cap l p (i + 1) (j + 1)) ∧ (p x = true → DelS w wr g cap l p i (j + 1))) := by
          rintro x rfl
          exact ⟨fun h => HS.out.keep (by omega) hjl rfl h, fun h => HS.out.skip hjl h⟩
        obtain ⟨x, hx⟩ : ∃ x, x = l[j] := ⟨_, rfl⟩
        rw [← hx] at hc hq
        have HK2 := Lib.hid (HK.out x hx)
        have hq2 := Lib.hid hq
        generalize xs[i] = old at hco
        clear hx hxj hxl hrow hxs HK hq
        cases hpx : p x
        · rw [hpx] at hq2
          have HF := Lib.hid (HK2.out.1 hpx)
          clear hpx
          go_wp2_with (go_at_fn f; refine hq2.out.mono ?_; rintro e w' ⟨rfl, rfl⟩)
          go_roundw
          case rel => exact ⟨i + 1, j + 1, by go_num, by go_num, by omega, by omega, HF.out⟩
          case measure => simp [intOf]; omega
        · rw [hpx] at hq2
          have HF := Lib.hid (HK2.out.2 hpx)
          clear hpx
          go_wp2_with (go_at_fn f; refine hq2.out.mono ?_; rintro e w' ⟨rfl, rfl⟩)
          go_roundw
          case rel => exact ⟨i, j + 1, rfl, by go_num, by omega, by omega, HF.out⟩
          case measure => simp [intOf]; omega
      · obtain rfl : j = l.length := by omega
        have hji : ¬ (l.length : Int) < (l.length : Int) := by omega
        obtain ⟨xs, hxl, hrow, hxs⟩ := HS.out.row
        have hcl : ∀ ty, (Builtin.clear_ #[22] ty #[.slice (some ⟨g, i, none⟩) (l.length - i) (cap - i)]).run Try.prog wr = .ok (.tuple #[]) (wr.setCells g i (List.replicate (l.length - i) (.int .i64 0))) :=
          fun ty => Lib.run_clear_slice wr _ _ ty _ Try.underlying22 Try.zeroValue3 rfl rfl g i _ _ (by omega) (fun t ht => by rw [own_cell hrow (j := i + t) (by omega)]; rfl) (fun t ht => hrow.frozenAt (i + t))
        have hcn := HS.out.cnt
        rw [List.take_of_length_le (Nat.le_refl _)] at hcn
        rw [← hcn] at HR
        have HF := Lib.hid (fr_setCells (g := g) (S := fun k => k = g) rfl (List.replicate (l.length - i) (.int .i64 0)) i w wr HS.out.fr)
        clear hcn hxs hrow hxl
        go_wp2_with fail
        exact HR.out _ _ ⟨_, _, rfl, HF.out⟩
end Go.Proofs.Ytacfchepacfjnaa
