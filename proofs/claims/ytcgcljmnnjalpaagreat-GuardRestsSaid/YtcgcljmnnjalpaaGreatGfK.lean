/- slices.IndexFunc, ContainsFunc at [3]int; the hazard manager: is an address held? -/
import Derived.Test.YtcgcljmnnjalpaaGreatGfJ
set_option linter.unusedVariables false
set_option linter.unusedSimpArgs false
namespace Go.Proofs.YtcgcljmnnjalpaaGreat
open Go.RowKit Go.Kx
open Go.ChangeMaps (setBlock)
section
variable {α : Type}
def fstG (p : α → Bool) : List α → Int
  | [] => -1
  | x :: l => if p x then 0 else if fstG p l < 0 then -1 else fstG p l + 1
theorem fstG_ge (p : α → Bool) : ∀ l, -1 ≤ fstG p l
  | [] => by simp [fstG]
  | x :: l => by
    have := fstG_ge p l
    unfold fstG
    split
    · omega
    · split <;> omega
theorem fstG_stop {p : α → Bool} {l : List α} {k : Nat} (hk : k < l.length) (h : ∀ x ∈ l.take k, p x = false) (hp : p l[k] = true) : fstG p l = k := by
  induction l generalizing k with
  | nil => simp at hk
  | cons x l ih =>
    cases k with
    | zero => simp at hp; simp [fstG, hp]
    | succ k =>
      have h0 : p x = false := h x (by simp)
      have := ih (k := k) (by simpa using hk) (fun y hy => h y (by simp [hy])) (by simpa using hp)
      unfold fstG
      rw [if_neg (by simp [h0]), this, if_neg (by omega)]
      simp
theorem fstG_none {p : α → Bool} {l : List α} (h : ∀ x ∈ l, p x = false) : fstG p l = -1 := by
  induction l with
  | nil => rfl
  | cons x l ih =>
    unfold fstG
    rw [if_neg (by simp [h x (by simp)]), ih fun y hy => h y (by simp [hy])]
    rfl
theorem takeG {p : α → Bool} {l : List α} {k : Nat} (hk : k < l.length) (h : ∀ x ∈ l.take k, p x = false) (hp : p l[k] = false) : ∀ x ∈ l.take (k + 1), p x = false := by
  rw [List.take_succ_eq_append_getElem hk]
  intro x hx
  rcases List.mem_append.1 hx with h1 | h1
  · exact h x h1
  · rw [List.mem_singleton.1 h1]; exact hp
theorem fstG_any (p : α → Bool) (l : List α) : decide (0 ≤ fstG p l) = l.any p := by
  induction l with
  | nil => rfl
  | cons x l ih =>
    have := fstG_ge p l
    rw [List.any_cons, ← ih, show fstG p (x :: l) = if p x then 0 else if fstG p l < 0 then -1 else fstG p l + 1 from rfl]
    by_cases h : p x
    · simp [h]
    · rw [if_neg h, show p x = false by simpa using h, Bool.false_or]
      by_cases h2 : fstG p l < 0
      · rw [if_pos h2, decide_eq_false (by omega), decide_eq_false (by omega)]
      · rw [if_neg h2, decide_eq_true (by omega), decide_eq_true (by omega)]
end
/-- What a predicate on rows answers; it may lay new blocks. -/
def PredH (g : Nat) (lb : Array Value) (p : (Nat → Int) → Bool) (w : World) (l : List (Nat → Int)) : Prop :=
  ∀ r ∈ l, ∀ W, Grow w W → Calls Tryz.prog g (#[.agg #[.int .i64 (r 0), .int .i64 (r 1), .int .i64 (r 2)]] ++ lb) W fun e w' => e = .returned (.bool (p r)) ∧ Grow W w'
set_option maxHeartbeats 1000000 in
theorem indexH_any {w : World} {H : Nat} {l : List (Nat → Int)} {g : Nat} {lb : Array Value} {p : (Nat → Int) → Bool} (hown : w.ownsRow 0 76 3 (.slice (some ⟨H, 0, none⟩) l.length l.length) l.length (l.flatMap encH)) (hp : PredH g lb p w l) (eg : ∀ args w, (callFunc g args).run Tryz.prog w = .ok (.enter g args) w) (hl : l.length ≤ 20000) :
    Calls Tryz.prog 146 #[.slice (some ⟨H, 0, none⟩) l.length l.length, .func (.func g) #[] lb] w fun e w' => e = .returned (.int .i64 (fstG p l)) ∧ Grow w w' := by
  refine cph fun R HR => ?_
  have HO := Lib.hid hown
  have HP := Lib.hid hp
  clear hown hp
  go_enter Tryz.func146, Tryz.ntmps146
  go_wp2_with fail
  go_loopw [8] (fun i wr => ∃ k : Nat, k ≤ l.length ∧ i = .int .i64 k ∧ Hid ((∀ x ∈ l.take k, p x = false) ∧ Grow w wr)) (fun i _ => l.length - (intOf i).toNat)
  case atStart => exact ⟨0, Nat.zero_le _, rfl, fun x hx => by simp at hx, Grow.refl _⟩
  case round =>
    obtain ⟨k, hk, rfl, HK⟩ := hrel
    by_cases hlt : k < l.length
    · have hki : (k : Int) < (l.length : Int) := by omega
      obtain ⟨x, hx⟩ : ∃ x, x = l[k] := ⟨_, rfl⟩
      have hx2 : l[k]? = some x := by rw [hx]; simp [hlt]
      have c0 := HK.out.2.cell ((own_at encH_len HO.out hx2 (o := 0) (by omega)).trans (rfl : _ = some (Value.int .i64 (x 0))))
      have c1 := HK.out.2.cell ((own_at encH_len HO.out hx2 (o := 1) (by omega)).trans (rfl : _ = some (Value.int .i64 (x 1))))
      have c2 := HK.out.2.cell ((own_at encH_len HO.out hx2 (o := 2) (by omega)).trans (rfl : _ = some (Value.int .i64 (x 2))))
      rw [Nat.add_zero] at c0
      have hq := Lib.hid (HP.out x (List.mem_of_getElem? hx2) wr HK.out.2)
      have HX := Lib.hid hx
      clear hx hx2
      cases hpx : p x
      · rw [hpx] at hq
        have HF := Lib.hid hpx
        clear hpx
        go_wp2_with (go_at_fn g; refine hq.out.mono ?_; rintro e w' ⟨rfl, hg⟩; have H7 := Lib.hid hg; clear hg)
        go_roundw
        case rel => exact ⟨k + 1, by omega, by go_num, takeG hlt HK.out.1 (by rw [← HX.out]; exact HF.out), HK.out.2.trans H7.out⟩
        case measure => simp [intOf] <;> omega
      · rw [hpx] at hq
        have HF := Lib.hid hpx
        clear hpx
        have e := fstG_stop hlt HK.out.1 (by rw [← HX.out]; exact HF.out)
        rw [e] at HR
        clear e
        go_wp2_with (go_at_fn g; refine hq.out.mono ?_; rintro e w' ⟨rfl, hg⟩; have H7 := Lib.hid hg; clear hg)
        exact HR.out _ _ ⟨rfl, HK.out.2.trans H7.out⟩
    · have hki : ¬ (k : Int) < (l.length : Int) := by omega
      have e := fstG_none (p := p) (l := l) fun x hx => HK.out.1 x (by rw [List.take_of_length_le (by omega)]; exact hx)
      rw [e] at HR
      clear e
      go_wp2_with fail
      exact HR.out _ _ ⟨rfl, HK.out.2⟩
theorem containsH_any {w : World} {H : Nat} {l : List (Nat → Int)} {g : Nat} {lb : Array Value} {p : (Nat → Int) → Bool} (hown : w.ownsRow 0 76 3 (.slice (some ⟨H, 0, none⟩) l.length l.length) l.length (l.flatMap encH)) (hp : PredH g lb p w l) (eg : ∀ args w, (callFunc g args).run Tryz.prog w = .ok (.enter g args) w) (hl : l.length ≤ 20000) :
    Calls Tryz.prog 131 #[.slice (some ⟨H, 0, none⟩) l.length l.length, .func (.func g) #[] lb] w fun e w' => e = .returned (.bool (l.any p)) ∧ Grow w w' := by
  refine cph fun R HR => ?_
  have HI := Lib.hid (indexH_any hown hp eg hl)
  rw [← fstG_any] at HR
  generalize fstG p l = i at HI HR
  clear hown hp
  go_enter Tryz.func131, Tryz.ntmps131
  go_wp2_with (go_at_call 146; refine HI.out.mono ?_; rintro e w' ⟨rfl, hg⟩; have H7 := Lib.hid hg; clear hg)
  exact HR.out _ _ ⟨rfl, H7.out⟩
theorem eg132 (args : Array Value) (w : World) : (callFunc 132 args).run Tryz.prog w = .ok (.enter 132 args) w := by kernel_rfl
theorem eg130 (args : Array Value) (w : World) : (callFunc 130 args).run Tryz.prog w = .ok (.enter 130 args) w := by kernel_rfl
theorem eg134 (args : Array Value) (w : World) : (callFunc 134 args).run Tryz.prog w = .ok (.enter 134 args) w := by kernel_rfl
/-- Is an address among a thread's holds? -/
def rowB (a : Int) (r : Nat → Int) : Bool := decide (a ∈ [r 0, r 1, r 2])
set_option maxHeartbeats 1000000 in
theorem hzRow {w : World} {B2 : Nat} {a : Int} {l : List (Nat → Int)} (h : w.cell? ⟨B2, 0, none⟩ = some (.int .i64 a)) : PredH 132 #[.pointer (some ⟨B2, 0, none⟩)] (rowB a) w l := by
  intro r _ W hW
  refine cph fun R HR => ?_
  have hB := hW.cell h
  have hn := blk_new W (Obj.cells #[.int .i64 (r 0), .int .i64 (r 1), .int .i64 (r 2)] 76)
  have hg := (Grow.refl W).alloc (Obj.cells #[.int .i64 (r 0), .int .i64 (r 1), .int .i64 (r 2)] 76)
  obtain ⟨w2, hw2⟩ : ∃ w2, W.alloc (Obj.cells #[.int .i64 (r 0), .int .i64 (r 1), .int .i64 (r 2)] 76) = w2 := ⟨_, rfl⟩
  rw [hw2] at hn hg
  have hB2 := hg.cell hB
  have HC : Hid (∀ n, Calls Tryz.prog 106 #[.slice (some ⟨W.heap.size, 0, none⟩) 3 3, .int .i64 a] (w2.drewN n) fun e w' => e = .returned (.bool (decide (a ∈ [r 0, r 1, r 2]))) ∧ w2.drewN n = w') := Lib.hid fun n =>
    containsI_any (cap := 3) (l := [r 0, r 1, r 2]) a (.inr ⟨W.heap.size, 0, rfl, fun j y hj => by
      have hb3 : (w2.drewN n).cell? ⟨W.heap.size, 0 + j, none⟩ = _ := blk_cell (w := w2.drewN n) hn (0 + j)
      rw [hb3]
      match j, hj with
      | 0, hj => simp at hj; subst hj; rfl
      | 1, hj => simp at hj; subst hj; rfl
      | 2, hj => simp at hj; subst hj; rfl
      | j + 3, hj => simp at hj⟩) (by simp)
  have HG := Lib.hid hg
  clear hn hg hB
  generalize hm : rowB a r = m at HR
  have hm' : decide (a ∈ [r 0, r 1, r 2]) = m := hm
  have HM := Lib.hid hm'
  clear hm hm'
  go_enter Tryz.func132, Tryz.ntmps132
  go_upto_region 1 with fail
  go_quiet ((first | (go_at_call 106; exact Calls.quiet_of_same ((HC.out _).mono fun e w' h => ⟨by rw [h.1, HM.out], h.2.symm⟩))))
  go_wp2_with fail
  exact HR.out _ _ ⟨rfl, HG.out.drewN nq⟩
/-- Does any thread hold an address? -/
def heldR (s : RS) (a : Int) : Bool := (hRows s).any (rowB a)
theorem heldR_eq {s : RS} (h : Ok s) {a : Int} (ha : 0 < a) : heldR s a = heldB s a := by
  rw [Bool.eq_iff_iff]
  unfold heldR heldB
  rw [List.any_eq_true, List.any_eq_true]
  constructor
  · rintro ⟨r, hr, hp⟩
    obtain ⟨t, ht, rfl⟩ := List.mem_map.1 hr
    have ht' := List.mem_range.1 ht
    have := h.n4
    refine ⟨t, List.mem_range.2 (by omega), ?_⟩
    unfold rowB at hp
    simp at hp
    rcases hp with e | e | e
    · exact List.any_eq_true.2 ⟨0, by decide, by simp [e]⟩
    · exact List.any_eq_true.2 ⟨1, by decide, by simp [e]⟩
    · exact List.any_eq_true.2 ⟨2, by decide, by simp [e]⟩
  · rintro ⟨t, ht, hp⟩
    obtain ⟨k, hk, he⟩ := List.any_eq_true.1 hp
    have hk' := List.mem_range.1 hk
    have he' : s.holds t k = a := by simpa using he
    have htn : t < s.n := by
      rcases Nat.lt_or_ge t s.n with h1 | h1
      · exact h1
      · have := h.holds t k (.inl h1); omega
    refine ⟨s.holds t, List.mem_map.2 ⟨t, List.mem_range.2 htn, rfl⟩, ?_⟩
    unfold rowB
    obtain rfl | rfl | rfl : k = 0 ∨ k = 1 ∨ k = 2 := by omega
    all_goals simp [he']
set_option maxHeartbeats 1000000 in
theorem hzHeld {W : World} {b B H : Nat} {v : Value} {s : RS} {a : Int} (hn : s.n ≤ 4) (h1 : W.cell? ⟨B, 0, none⟩ = some (.pointer (some ⟨b, 0, none⟩))) (h2 : W.cell? ⟨b, 0, none⟩ = some (.slice (some ⟨H, 0, none⟩) s.n s.n)) (h3 : W.ownsRow 0 76 3 (.slice (some ⟨H, 0, none⟩) s.n s.n) s.n ((hRows s).flatMap encH)) :
    Calls Tryz.prog 130 #[.int .i64 a, .pointer (some ⟨B, 0, none⟩)] W fun e w' => e = .returned (.bool (heldR s a)) ∧ Grow W w' := by
  refine cph fun R HR => ?_
  have hg := (Grow.refl W).alloc (Obj.cells #[.int .i64 a] 3)
  have hn2 := (blk_cell (blk_new W (Obj.cells #[.int .i64 a] 3)) 0).trans (rfl : _ = some (Value.int .i64 a))
  obtain ⟨w2, hw2⟩ : ∃ w2, W.alloc (Obj.cells #[.int .i64 a] 3) = w2 := ⟨_, rfl⟩
  rw [hw2] at hg hn2
  have k1 := hg.cell h1
  have k2 := hg.cell h2
  have k3 := owns_grow h3 hg
  rw [← hRows_len s] at k3
  have hc := containsH_any k3 (hzRow hn2) eg132 (by rw [hRows_len]; omega)
  rw [hRows_len] at hc
  have HC := Lib.hid hc
  have HG := Lib.hid hg
  unfold heldR at HR
  generalize (hRows s).any (rowB a) = m at HR HC
  clear h1 h2 h3 hg k3 hc hn2
  go_enter Tryz.func130, Tryz.ntmps130
  go_wp2_with (go_at_call 131; refine HC.out.mono ?_; rintro e w' ⟨rfl, hg⟩; have H7 := Lib.hid hg; clear hg)
  exact HR.out _ _ ⟨rfl, HG.out.trans H7.out⟩
end Go.Proofs.YtcgcljmnnjalpaaGreat
