/- slices.DeleteFunc at ints: what stays, in its order. -/
import Derived.Test.YtabplbalacldfaaLpA
set_option linter.unusedVariables false
set_option linter.unusedSimpArgs false
namespace Go.Proofs.Ytabplbalacldfaa
open Go.RowKit Go.Kx
/-- The first place of which p holds. -/
def fstP (p : Int → Bool) : List Int → Int
  | [] => -1
  | x :: l => if p x then 0 else if fstP p l < 0 then -1 else fstP p l + 1
theorem fstP_ge (p : Int → Bool) : ∀ l, -1 ≤ fstP p l
  | [] => by simp [fstP]
  | x :: l => by
    have := fstP_ge p l
    unfold fstP
    split
    · omega
    · split <;> omega
theorem fstP_any (p : Int → Bool) (l : List Int) : (0 ≤ fstP p l) ↔ l.any p = true := by
  induction l with
  | nil => simp [fstP]
  | cons x l ih =>
    have := fstP_ge p l
    unfold fstP
    by_cases h : p x
    · simp [h]
    · rw [if_neg h]
      simp only [List.any_cons, Bool.or_eq_true, h, Bool.false_eq_true, false_or]
      rw [← ih]
      by_cases h2 : fstP p l < 0
      · rw [if_pos h2]; exact ⟨fun h => by omega, fun h => by omega⟩
      · rw [if_neg h2]; exact ⟨fun h => by omega, fun h => by omega⟩
theorem fstP_stop {p : Int → Bool} {l : List Int} {k : Nat} (hk : k < l.length) (h : ∀ x ∈ l.take k, p x = false) (hp : p l[k] = true) : fstP p l = k := by
  induction l generalizing k with
  | nil => simp at hk
  | cons x l ih =>
    cases k with
    | zero => simp at hp; simp [fstP, hp]
    | succ k =>
      have h0 : p x = false := h x (by simp)
      have := ih (k := k) (by simpa using hk) (fun y hy => h y (by simp [hy])) (by simpa using hp)
      unfold fstP
      rw [if_neg (by simp [h0]), this, if_neg (by omega)]
      simp
theorem fstP_none {p : Int → Bool} {l : List Int} (h : ∀ x ∈ l, p x = false) : fstP p l = -1 := by
  induction l with
  | nil => rfl
  | cons x l ih =>
    unfold fstP
    rw [if_neg (by simp [h x (by simp)]), ih fun y hy => h y (by simp [hy])]
    rfl
theorem take_p {p : Int → Bool} {l : List Int} {k : Nat} (hk : k < l.length) (h : ∀ x ∈ l.take k, p x = false) (hp : p l[k] = false) : ∀ x ∈ l.take (k + 1), p x = false := by
  rw [List.take_succ_eq_append_getElem hk]
  intro x hx
  rcases List.mem_append.1 hx with h1 | h1
  · exact h x h1
  · rw [List.mem_singleton.1 h1]; exact hp
/-- What a predicate answers, the world left alone. -/
def Pred (g : Nat) (lb : Array Value) (p : Int → Bool) (w : World) (l : List Int) : Prop :=
  ∀ x ∈ l, Calls Try.prog g (#[.int .i64 x] ++ lb) w fun e w' => e = .returned (.bool (p x)) ∧ w = w'
theorem indexF_any {w : World} {A : Option Addr} {cap : Nat} {l : List Int} {g : Nat} {lb : Array Value} {p : Int → Bool} (h : IntsAt w A l) (hp : Pred g lb p w l) (eg : ∀ args w, (callFunc g args).run Try.prog w = .ok (.enter g args) w) (hl : l.length ≤ 20000000000000) :
    Calls Try.prog 65 #[.slice A l.length cap, .func (.func g) #[] lb] w fun e w' => e = .returned (.int .i64 (fstP p l)) ∧ w = w' := by
  refine cph fun R HR => ?_
  have H := Lib.hid h
  have HP := Lib.hid hp
  clear h hp
  go_enter Try.func65, Try.ntmps65
  go_wp2_with fail
  go_loop [8] (fun i => ∃ k : Nat, k ≤ l.length ∧ i = .int .i64 k ∧ Hid (∀ x ∈ l.take k, p x = false)) (fun i => l.length - (intOf i).toNat)
  case atStart => exact ⟨0, Nat.zero_le _, rfl, fun x hx => by simp at hx⟩
  case round =>
    obtain ⟨k, hk, rfl, HK⟩ := hrel
    by_cases hlt : k < l.length
    · obtain ⟨b, off, rfl, hc⟩ := H.out.at_ hlt
      have hki : (k : Int) < (l.length : Int) := by omega
      have hq := Lib.hid (HP.out l[k] (List.getElem_mem hlt))
      obtain ⟨x, hx⟩ : ∃ x, x = l[k] := ⟨_, rfl⟩
      rw [← hx] at hc hq
      have HX := Lib.hid hx
      clear hx
      cases hpx : p x
      · rw [hpx] at hq
        have HF := Lib.hid hpx
        clear hpx
        go_wp2_with (go_at_fn g; refine hq.out.mono ?_; rintro e w' ⟨rfl, rfl⟩)
        go_round
        case rel => exact ⟨k + 1, by omega, by go_num, take_p hlt HK.out (by rw [← HX.out]; exact HF.out)⟩
        case measure => simp [intOf]; omega
      · rw [hpx] at hq
        have HF := Lib.hid hpx
        clear hpx
        have e := fstP_stop hlt HK.out (by rw [← HX.out]; exact HF.out)
        rw [e] at HR
        clear e
        go_wp2_with (go_at_fn g; refine hq.out.mono ?_; rintro e w' ⟨rfl, rfl⟩)
        exact HR.out _ _ ⟨rfl, rfl⟩
    · have hki : ¬ (k : Int) < (l.length : Int) := by omega
      have e := fstP_none (p := p) (l := l) fun x hx => HK.out x (by rw [List.take_of_length_le (by omega)]; exact hx)
      rw [e] at HR
      clear e
      go_wp2_with fail
      exact HR.out _ _ ⟨rfl, rfl⟩
theorem fstP_lt (p : Int → Bool) : ∀ l : List Int, fstP p l < l.length
  | [] => by simp [fstP]
  | x :: l => by
    have := fstP_lt p l
    unfold fstP
    simp only [List.length_cons]
    split
    · omega
    · split <;> omega
/-- What slices.DeleteFunc leaves. -/
def DelP (w : World) (base g : Nat) (r : List Int) (e : Ending) (w' : World) : Prop :=
  ∃ c, e = .returned (.slice (some ⟨g, 0, none⟩) r.length c) ∧ w'.ownsRow base 3 1 (.slice (some ⟨g, 0, none⟩) r.length c) r.length (r.map (Value.int .i64)) ∧ Fr (fun k => k = g) w w'
def keepL (p : Int → Bool) (l : List Int) : List Int := l.filter fun x => !p x
theorem keepL_succ {p : Int → Bool} {l : List Int} {j : Nat} (hj : j < l.length) : keepL p (l.take (j + 1)) = if p l[j] then keepL p (l.take j) else keepL p (l.take j) ++ [l[j]] := by
  unfold keepL
  rw [List.take_succ_eq_append_getElem hj, List.filter_append]
  cases h : p l[j] <;> simp [h]
theorem keepL_le (p : Int → Bool) (l : List Int) (j : Nat) : (keepL p (l.take j)).length ≤ j := Nat.le_trans (List.length_filter_le _ _) (List.length_take_le _ _)
structure DelS (w wr : World) (base g cap : Nat) (l : List Int) (p : Int → Bool) (i j : Nat) : Prop where
  row : ∃ xs : List Int, xs.length = l.length ∧ wr.ownsRow base 3 1 (.slice (some ⟨g, 0, none⟩) l.length cap) l.length (xs.map (Value.int .i64)) ∧ (∀ q, j ≤ q → xs[q]? = l[q]?) ∧ xs.take i = keepL p (l.take j)
  fr : Fr (fun k => k = g) w wr
  cnt : i = (keepL p (l.take j)).length
theorem DelS.skip {w wr : World} {base g cap : Nat} {l : List Int} {p : Int → Bool} {i j : Nat} (h : DelS w wr base g cap l p i j) (hj : j < l.length) (hp : p l[j] = true) : DelS w wr base g cap l p i (j + 1) := by
  obtain ⟨xs, h1, h2, h3, h4⟩ := h.row
  have e : keepL p (l.take (j + 1)) = keepL p (l.take j) := by rw [keepL_succ hj, hp]; rfl
  exact ⟨⟨xs, h1, h2, fun q hq => h3 q (by omega), by rw [e]; exact h4⟩, h.fr, by rw [e]; exact h.cnt⟩
theorem DelS.keep {w wr : World} {base g cap : Nat} {l : List Int} {p : Int → Bool} {i j : Nat} (h : DelS w wr base g cap l p i j) (hij : i ≤ j) (hj : j < l.length) {x : Int} (hx : x = l[j]) (hp : p x = false) : DelS w (wr.setCell ⟨g, i, none⟩ (.int .i64 x)) base g cap l p (i + 1) (j + 1) := by
  obtain ⟨xs, h1, h2, h3, h4⟩ := h.row
  subst hx
  have e : keepL p (l.take (j + 1)) = keepL p (l.take j) ++ [l[j]] := by rw [keepL_succ hj, hp]; rfl
  refine ⟨⟨xs.set i l[j], by simpa using h1, ?_, fun q hq => ?_, ?_⟩, h.fr.setCell _ _ (.inr rfl), by rw [e, List.length_append, h.cnt]; rfl⟩
  · rw [List.map_set]; exact (h2.stored i _).1
  · rw [List.getElem?_set, if_neg (by omega)]; exact h3 q (by omega)
  · rw [e, ← h4, List.take_succ_eq_append_getElem (by simp; omega)]
    simp [List.take_set_of_le]
theorem frr_setCells {S : Nat → Prop} {g : Nat} (hg : S g) : ∀ (vs : List Value) (o : Nat) (a w : World), Fr S a w → Fr S a (w.setCells g o vs)
  | [], _, _, _, h => h
  | v :: r, o, a, w, h => frr_setCells hg r (o + 1) a _ (h.setCell ⟨g, o, none⟩ v (.inr hg))
theorem own_shrink {w : World} {base g n cap : Nat} {e : TypeId} {xs : List Value} (h : w.ownsRow base e 1 (.slice (some ⟨g, 0, none⟩) n cap) n xs) {i : Nat} (hi : i ≤ n) : w.ownsRow base e 1 (.slice (some ⟨g, 0, none⟩) i cap) i (xs.take i) := by
  have hl := h.1
  rcases h.2 with ⟨e', _⟩ | ⟨g2, c3, cur, e', hb1, hb2, hb3, hb4, hb5, hb6⟩
  · cases e'
  · cases e'
    refine ⟨by rw [List.length_take]; omega, .inr ⟨g, cap, cur, rfl, hb1, hb2, by omega, hb4, hb5, ?_⟩⟩
    rw [← hb6, List.take_take]
    congr 1
    omega
theorem own_setCells {base g n cap : Nat} {e : TypeId} {xs : List Value} : ∀ (vs : List Value) (o : Nat) (w : World), xs.length ≤ o → w.ownsRow base e 1 (.slice (some ⟨g, 0, none⟩) n cap) n xs → (w.setCells g o vs).ownsRow base e 1 (.slice (some ⟨g, 0, none⟩) n cap) n xs
  | [], _, _, _, h => h
  | v :: r, o, w, ho, h => by
    have := (h.stored o v).1
    rw [List.set_eq_of_length_le ho] at this
    exact own_setCells r (o + 1) _ (by omega) this
set_option maxRecDepth 100000 in
set_option maxHeartbeats 4000000 in
theorem delete_any {w : World} {base g cap f : Nat} {l : List Int} {lb : Array Value} {p : Int → Bool} (hown : w.ownsRow base 3 1 (.slice (some ⟨g, 0, none⟩) l.length cap) l.length (l.map (Value.int .i64)))
    (hp : ∀ W, Fr (fun k => k = g) w W → Pred f lb p W l) (eg : ∀ args w, (callFunc f args).run Try.prog w = .ok (.enter f args) w) (hl : l.length ≤ 1000) :
    Calls Try.prog 47 #[.slice (some ⟨g, 0, none⟩) l.length cap, .func (.func f) #[] lb] w (DelP w base g (keepL p l)) := by
  refine cph fun R HR => ?_
  have hcap : l.length ≤ cap := by
    rcases hown.2 with ⟨e, _⟩ | ⟨g2, c3, cur, e, hb1, hb2, hb3, hb4, _⟩
    · cases e
    · cases e; exact hb3
  have HI := Lib.hid (indexF_any (cap := cap) (own_ints hown) (hp w (Fr.refl _ _)) eg (by omega))
  have H0 : Hid (∀ k : Nat, k < l.length → fstP p l = k → DelS w w base g cap l p k (k + 1)) := by
    intro k hk he
    have hall : ∀ q (hq : q < l.length), q < k → p l[q] = false := by
      intro q hq hqk
      clear hown hp eg HI HR hcap
      induction l generalizing k q with
      | nil => simp at hq
      | cons x l ih =>
        unfold fstP at he
        split at he
        · omega
        · next hpx =>
          have hge := fstP_ge p l
          cases q with
          | zero => simpa using hpx
          | succ q =>
            split at he
            · omega
            · have hq' : q < l.length := by simpa using hq
              have hk' : k - 1 < l.length := by simp at hk; omega
              simpa using ih (by simp at hl; omega) (k - 1) hk' (by omega) q hq' (by omega)
    have hk2 : p l[k] = true := by
      clear hown hp eg HI HR hcap hall
      induction l generalizing k with
      | nil => simp at hk
      | cons x l ih =>
        unfold fstP at he
        split at he
        · next hpx => obtain rfl : k = 0 := by omega
                      simpa using hpx
        · have hge := fstP_ge p l
          split at he
          · omega
          · obtain ⟨k, rfl⟩ : ∃ k', k = k' + 1 := ⟨k - 1, by omega⟩
            simpa using ih (by simp at hl; omega) k (by simpa using hk) (by omega)
    have e1 : keepL p (l.take (k + 1)) = l.take k := by
      rw [keepL_succ hk, hk2, if_pos rfl]
      unfold keepL
      rw [List.filter_eq_self]
      intro x hx
      obtain ⟨q, hq, rfl⟩ := List.mem_iff_getElem.1 hx
      rw [List.length_take] at hq
      rw [List.getElem_take, hall q (by omega) (by omega)]; rfl
    exact ⟨⟨l, rfl, hown, fun _ _ => rfl, e1.symm⟩, Fr.refl _ _, by rw [e1, List.length_take]; omega⟩
  have HP := Lib.hid hp
  have hge := fstP_ge p l
  have hnone : fstP p l = -1 → keepL p l = l := fun e => by
    unfold keepL
    rw [List.filter_eq_self]
    intro x hx
    have := (not_congr (fstP_any p l)).1 (by omega)
    cases hpx : p x
    · rfl
    · exact absurd (List.any_eq_true.2 ⟨x, hx, hpx⟩) this
  have HO := Lib.hid hown
  have HN := Lib.hid hnone
  have hlt := fstP_lt p l
  clear hown hp hnone
  by_cases hz : fstP p l = -1
  · rw [HN.out hz] at HR
    rw [hz] at HI
    clear hz hge HN hlt H0
    go_enter Try.func47, Try.ntmps47
    go_wp2_with (go_at_call 65; refine HI.out.mono ?_; rintro e w' ⟨rfl, rfl⟩)
    exact HR.out _ _ ⟨cap, rfl, HO.out, Fr.refl _ _⟩
  · obtain ⟨k0, hk0⟩ := Int.eq_ofNat_of_zero_le (a := fstP p l) (by omega)
    have hk : k0 < l.length := by omega
    have HD := Lib.hid (H0.out k0 hk hk0)
    rw [hk0] at HI
    have hne1 : ((k0 : Int) == -1) = false := beq_eq_false_iff_ne.2 (by omega)
    clear hz hge HN hlt H0 hk0
    go_enter Try.func47, Try.ntmps47
    go_wp2_with (go_at_call 65; refine HI.out.mono ?_; rintro e w' ⟨rfl, rfl⟩)
    go_loopw [5, 6, 7] (fun a b _ wr => ∃ i j : Nat, a = .int .i64 i ∧ b = .int .i64 j ∧ j ≤ l.length ∧ i < j ∧ Hid (DelS w wr base g cap l p i j)) (fun _ b _ _ => l.length - (intOf b).toNat)
    case atStart => exact ⟨k0, k0 + 1, rfl, by go_num, by omega, by omega, HD.out⟩
    case round =>
      obtain ⟨i, j, rfl, rfl, hj, hij, HS⟩ := hrel
      by_cases hjl : j < l.length
      · have hji : (j : Int) < (l.length : Int) := by omega
        obtain ⟨xs, hxl, hrow, hxs, _⟩ := HS.out.row
        have hc := own_cell hrow (j := j) (by omega)
        have hco := own_cell hrow (j := i) (by omega)
        have hfz := hrow.frozenAt i
        have hxj : xs[j] = l[j] := by
          have := hxs j (Nat.le_refl _)
          rw [List.getElem?_eq_getElem (by omega), List.getElem?_eq_getElem hjl] at this
          exact Option.some.inj this
        rw [hxj] at hc
        have hq := HP.out wr HS.out.fr l[j] (List.getElem_mem hjl)
        have hii : (i : Int) < (l.length : Int) := by omega
        have HK : Hid (∀ x, x = l[j] → (p x = false → DelS w (wr.setCell ⟨g, i, none⟩ (.int .i64 x)) base g cap l p (i + 1) (j + 1)) ∧ (p x = true → DelS w wr base g cap l p i (j + 1))) := by
          rintro x rfl
          exact ⟨fun h => HS.out.keep (by omega) hjl rfl h, fun h => HS.out.skip hjl h⟩
        obtain ⟨x, hx⟩ : ∃ x, x = l[j] := ⟨_, rfl⟩
        rw [← hx] at hc hq
        have HK2 := Lib.hid (HK.out x hx)
        have hq2 := Lib.hid hq
        generalize xs[i] = old at hco
        clear hx hxj hxl hrow hxs HK hq
        cases hpx : p x
        · rw [hpx] at hq2
          have HF := Lib.hid (HK2.out.1 hpx)
          clear hpx
          go_wp2_with (go_at_fn f; refine hq2.out.mono ?_; rintro e w' ⟨rfl, rfl⟩)
          go_roundw
          case rel => exact ⟨i + 1, j + 1, by go_num, by go_num, by omega, by omega, HF.out⟩
          case measure => simp [intOf]; omega
        · rw [hpx] at hq2
          have HF := Lib.hid (HK2.out.2 hpx)
          clear hpx
          go_wp2_with (go_at_fn f; refine hq2.out.mono ?_; rintro e w' ⟨rfl, rfl⟩)
          go_roundw
          case rel => exact ⟨i, j + 1, rfl, by go_num, by omega, by omega, HF.out⟩
          case measure => simp [intOf]; omega
      · obtain rfl : j = l.length := by omega
        have hji : ¬ (l.length : Int) < (l.length : Int) := by omega
        obtain ⟨xs, hxl, hrow, hxs, hxt⟩ := HS.out.row
        have hcl : ∀ ty, (Builtin.clear_ #[44] ty #[.slice (some ⟨g, i, none⟩) (l.length - i) (cap - i)]).run Try.prog wr = .ok (.tuple #[]) (wr.setCells g i (List.replicate (l.length - i) (.int .i64 0))) :=
          fun ty => Lib.run_clear_slice wr _ _ ty _ Try.underlying44 Try.zeroValue3 rfl rfl g i _ _ (by omega) (fun t ht => by rw [own_cell hrow (j := i + t) (by omega)]; rfl) (fun t ht => hrow.frozenAt (i + t))
        have hcn := HS.out.cnt
        rw [List.take_of_length_le (Nat.le_refl _)] at hcn hxt
        have HF : Hid (DelP w base g (keepL p l) (.returned (.slice (some ⟨g, 0, none⟩) i cap)) (wr.setCells g i (List.replicate (l.length - i) (.int .i64 0)))) := by
          refine ⟨cap, by rw [← hcn], ?_, frr_setCells (g := g) (S := fun k => k = g) rfl (List.replicate (l.length - i) (.int .i64 0)) i w wr HS.out.fr⟩
          rw [← hcn, ← hxt, List.map_take]
          exact own_setCells _ i wr (by rw [List.length_take]; omega) (own_shrink hrow (by omega))
        have hii : (i : Int) ≤ (cap : Int) := by omega
        clear hcn hxs hrow hxl hxt
        go_wp2_with fail
        exact HR.out _ _ HF.out
end Go.Proofs.Ytabplbalacldfaa
