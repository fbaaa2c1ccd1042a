/- Slices of ints that are read; the small functions on them: sum, IndexFunc, ContainsFunc, Valid, Total, Has, Ints. -/
import Derived.Test.YtacfchepacfjnaaProg
import Derived.Test.YtacfchepacfjnaaKxD
import Derived.Shelf.Abstract
import Derived.Deep.DeepCutAuto
import Derived.Deep.CutBlock
import Derived.Deep.QuietTactic
import Derived.BigQuiet
set_option linter.unusedVariables false
set_option linter.unusedSimpArgs false
namespace Go.Proofs.Ytacfchepacfjnaa
open Go.RowKit Go.Kx
open Go.ChangeMaps (setBlock)
/-- A slice of ints as memory has it. -/
def IntsAt (w : World) (A : Option Addr) (l : List Int) : Prop := l = [] ∨ ∃ b off, A = some ⟨b, off, none⟩ ∧ ∀ j x, l[j]? = some x → w.cell? ⟨b, off + j, none⟩ = some (.int .i64 x)
theorem IntsAt.at_ {w : World} {A : Option Addr} {l : List Int} (h : IntsAt w A l) {k : Nat} (hk : k < l.length) : ∃ b off, A = some ⟨b, off, none⟩ ∧ w.cell? ⟨b, off + k, none⟩ = some (.int .i64 l[k]) := by
  obtain ⟨b, off, h1, h2⟩ := h.resolve_left (by rintro rfl; simp at hk)
  exact ⟨b, off, h1, h2 k _ (by simp [hk])⟩
theorem IntsAt.grow {w w' : World} {A : Option Addr} {l : List Int} (h : IntsAt w A l) (hg : Grow w w') : IntsAt w' A l :=
  h.imp (fun e => e) fun ⟨b, off, h1, h2⟩ => ⟨b, off, h1, fun j x hx => hg.cell (h2 j x hx)⟩
theorem take_sum {l : List Int} {k : Nat} (hk : k < l.length) : (l.take (k + 1)).sum = (l.take k).sum + l[k] := by
  rw [List.take_succ_eq_append_getElem hk, List.sum_append]; simp
theorem sum_bd {l : List Int} (h : ∀ x ∈ l, 0 ≤ x ∧ x ≤ 6) : 0 ≤ l.sum ∧ l.sum ≤ 6 * l.length := by
  induction l with
  | nil => simp
  | cons a l ih =>
    have h1 := h a (by simp)
    have h2 := ih fun x hx => h x (by simp [hx])
    simp only [List.sum_cons, List.length_cons]
    omega
theorem sum_any {w : World} {A : Option Addr} {cap : Nat} {l : List Int} (h : IntsAt w A l) (hv : ∀ x ∈ l, 0 ≤ x ∧ x ≤ 6) (hl : l.length ≤ 1000000) :
    Calls Try.prog 35 #[.slice A l.length cap] w fun e w' => e = .returned (.int .i64 l.sum) ∧ w = w' := by
  refine cph fun R HR => ?_
  have H := Lib.hid h
  have HV := Lib.hid hv
  clear h hv
  go_enter Try.func35, Try.ntmps35
  go_wp2_with fail
  go_loop [3, 8] (fun n i => ∃ k : Nat, k ≤ l.length ∧ i = .int .i64 k ∧ n = .int .i64 (l.take k).sum) (fun _ i => l.length - (intOf i).toNat)
  case atStart => exact ⟨0, Nat.zero_le _, rfl, rfl⟩
  case round =>
    obtain ⟨k, hk, rfl, rfl⟩ := hrel
    have hb := sum_bd (l := l.take k) fun x hx => HV.out x (List.mem_of_mem_take hx)
    have hl2 : (l.take k).length ≤ k := List.length_take_le _ _
    by_cases hlt : k < l.length
    · obtain ⟨b, off, rfl, hc⟩ := H.out.at_ hlt
      have hx := HV.out l[k] (List.getElem_mem hlt)
      have hs := take_sum hlt
      have HS := Lib.hid hs
      have hki : (k : Int) < (l.length : Int) := by omega
      generalize l[k] = x at hc hx HS
      generalize (l.take k).sum = s at hb HS
      clear hs
      go_wp2_with fail
      go_round
      case rel => exact ⟨k + 1, by omega, by go_num, by rw [HS.out]⟩
      case measure => simp [intOf]; omega
    · have hki : ¬ (k : Int) < (l.length : Int) := by omega
      have e : l.take k = l := List.take_of_length_le (by omega)
      rw [e]
      go_wp2_with fail
      exact HR.out _ _ ⟨rfl, rfl⟩
/-- The first place of which p holds. -/
def fstP (p : Int → Bool) : List Int → Int
  | [] => -1
  | x :: l => if p x then 0 else if fstP p l < 0 then -1 else fstP p l + 1
theorem fstP_ge (p : Int → Bool) : ∀ l, -1 ≤ fstP p l
  | [] => by simp [fstP]
  | x :: l => by
    have := fstP_ge p l
    unfold fstP
    split
    · omega
    · split <;> omega
theorem fstP_any (p : Int → Bool) (l : List Int) : (0 ≤ fstP p l) ↔ l.any p = true := by
  induction l with
  | nil => simp [fstP]
  | cons x l ih =>
    have := fstP_ge p l
    unfold fstP
    by_cases h : p x
    · simp [h]
    · rw [if_neg h]
      simp only [List.any_cons, Bool.or_eq_true, h, Bool.false_eq_true, false_or]
      rw [← ih]
      by_cases h2 : fstP p l < 0
      · rw [if_pos h2]; exact ⟨fun h => by omega, fun h => by omega⟩
      · rw [if_neg h2]; exact ⟨fun h => by omega, fun h => by omega⟩
theorem fstP_stop {p : Int → Bool} {l : List Int} {k : Nat} (hk : k < l.length) (h : ∀ x ∈ l.take k, p x = false) (hp : p l[k] = true) : fstP p l = k := by
  induction l generalizing k with
  | nil => simp at hk
  | cons x l ih =>
    cases k with
    | zero => simp at hp; simp [fstP, hp]
    | succ k =>
      have h0 : p x = false := h x (by simp)
      have := ih (k := k) (by simpa using hk) (fun y hy => h y (by simp [hy])) (by simpa using hp)
      unfold fstP
      rw [if_neg (by simp [h0]), this, if_neg (by omega)]
      simp
theorem fstP_none {p : Int → Bool} {l : List Int} (h : ∀ x ∈ l, p x = false) : fstP p l = -1 := by
  induction l with
  | nil => rfl
  | cons x l ih =>
    unfold fstP
    rw [if_neg (by simp [h x (by simp)]), ih fun y hy => h y (by simp [hy])]
    rfl
theorem take_p {p : Int → Bool} {l : List Int} {k : Nat} (hk : k < l.length) (h : ∀ x ∈ l.take k, p x = false) (hp : p l[k] = false) : ∀ x ∈ l.take (k + 1), p x = false := by
  rw [List.take_succ_eq_append_getElem hk]
  intro x hx
  rcases List.mem_append.1 hx with h1 | h1
  · exact h x h1
  · rw [List.mem_singleton.1 h1]; exact hp
/-- What a predicate answers, the world left alone. -/
def Pred (g : Nat) (lb : Array Value) (p : Int → Bool) (w : World) (l : List Int) : Prop :=
  ∀ x ∈ l, Calls Try.prog g (#[.int .i64 x] ++ lb) w fun e w' => e = .returned (.bool (p x)) ∧ w = w'
theorem index_any {w : World} {A : Option Addr} {cap : Nat} {l : List Int} {g : Nat} {lb : Array Value} {p : Int → Bool} (h : IntsAt w A l) (hp : Pred g lb p w l) (eg : ∀ args w, (callFunc g args).run Try.prog w = .ok (.enter g args) w) (hl : l.length ≤ 20000000000000) :
    Calls Try.prog 57 #[.slice A l.length cap, .func (.func g) #[] lb] w fun e w' => e = .returned (.int .i64 (fstP p l)) ∧ w = w' := by
  refine cph fun R HR => ?_
  have H := Lib.hid h
  have HP := Lib.hid hp
  clear h hp
  go_enter Try.func57, Try.ntmps57
  go_wp2_with fail
  go_loop [8] (fun i => ∃ k : Nat, k ≤ l.length ∧ i = .int .i64 k ∧ Hid (∀ x ∈ l.take k, p x = false)) (fun i => l.length - (intOf i).toNat)
  case atStart => exact ⟨0, Nat.zero_le _, rfl, fun x hx => by simp at hx⟩
  case round =>
    obtain ⟨k, hk, rfl, HK⟩ := hrel
    by_cases hlt : k < l.length
    · obtain ⟨b, off, rfl, hc⟩ := H.out.at_ hlt
      have hki : (k : Int) < (l.length : Int) := by omega
      have hq := Lib.hid (HP.out l[k] (List.getElem_mem hlt))
      obtain ⟨x, hx⟩ : ∃ x, x = l[k] := ⟨_, rfl⟩
      rw [← hx] at hc hq
      have HX := Lib.hid hx
      clear hx
      cases hpx : p x
      · rw [hpx] at hq
        have HF := Lib.hid hpx
        clear hpx
        go_wp2_with (go_at_fn g; refine hq.out.mono ?_; rintro e w' ⟨rfl, rfl⟩)
        go_round
        case rel => exact ⟨k + 1, by omega, by go_num, take_p hlt HK.out (by rw [← HX.out]; exact HF.out)⟩
        case measure => simp [intOf]; omega
      · rw [hpx] at hq
        have HF := Lib.hid hpx
        clear hpx
        have e := fstP_stop hlt HK.out (by rw [← HX.out]; exact HF.out)
        rw [e] at HR
        clear e
        go_wp2_with (go_at_fn g; refine hq.out.mono ?_; rintro e w' ⟨rfl, rfl⟩)
        exact HR.out _ _ ⟨rfl, rfl⟩
    · have hki : ¬ (k : Int) < (l.length : Int) := by omega
      have e := fstP_none (p := p) (l := l) fun x hx => HK.out x (by rw [List.take_of_length_le (by omega)]; exact hx)
      rw [e] at HR
      clear e
      go_wp2_with fail
      exact HR.out _ _ ⟨rfl, rfl⟩
theorem contains_any {w : World} {A : Option Addr} {cap : Nat} {l : List Int} {g : Nat} {lb : Array Value} {p : Int → Bool} (h : IntsAt w A l) (hp : Pred g lb p w l) (eg : ∀ args w, (callFunc g args).run Try.prog w = .ok (.enter g args) w) (hl : l.length ≤ 20000000000000) :
    Calls Try.prog 36 #[.slice A l.length cap, .func (.func g) #[] lb] w fun e w' => e = .returned (.bool (l.any p)) ∧ w = w' := by
  refine cph fun R HR => ?_
  have H := Lib.hid (index_any (cap := cap) h hp eg hl)
  have hge := fstP_ge p l
  clear h hp
  cases ha : l.any p
  · have : fstP p l = -1 := by
      have := (not_congr (fstP_any p l)).2 (by rw [ha]; simp)
      omega
    rw [this] at H
    rw [ha] at HR
    clear this ha hge
    go_enter Try.func36, Try.ntmps36
    go_wp2_with (go_at_call 57; refine H.out.mono ?_; rintro e w' ⟨rfl, rfl⟩)
    exact HR.out _ _ ⟨rfl, rfl⟩
  · have h0 : 0 ≤ fstP p l := (fstP_any p l).2 ha
    rw [ha] at HR
    generalize fstP p l = z at H h0
    clear ha hge
    go_enter Try.func36, Try.ntmps36
    go_wp2_with (go_at_call 57; refine H.out.mono ?_; rintro e w' ⟨rfl, rfl⟩)
    exact HR.out _ _ ⟨rfl, rfl⟩
end Go.Proofs.Ytacfchepacfjnaa
