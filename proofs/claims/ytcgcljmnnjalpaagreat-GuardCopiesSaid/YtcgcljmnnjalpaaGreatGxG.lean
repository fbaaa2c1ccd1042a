/- slices.IndexFunc, DeleteFunc at elements of two numbers, the predicate turning the world: what stays, in its order; each element is asked once. slices.IndexFunc, DeleteFunc at hazard.waiting, epoch.retired (printed by wip/gen/delfunc.py). -/
import Derived.Test.YtcgcljmnnjalpaaGreatGxF
import Derived.Lib.SliceRun
import Derived.Laws.Rows
import Derived.Laws.Tables
import Derived.Laws.IdiomCopy
set_option linter.unusedVariables false
set_option linter.unusedSimpArgs false
namespace Go.Proofs.YtcgcljmnnjalpaaGreat
open Go.RowKit Go.Kx
open Go.ChangeMaps (setBlock)
abbrev P2 := Int × Int
def enc2 (x : P2) : List Value := [.int .i64 x.1, .int .i64 x.2]
theorem enc2_len (x : P2) : (enc2 x).length = 2 := rfl
/-- The first place of which p holds. -/
def fstA (p : P2 → Bool) : List P2 → Int
  | [] => -1
  | x :: l => if p x then 0 else if fstA p l < 0 then -1 else fstA p l + 1
theorem fstA_ge (p : P2 → Bool) : ∀ l, -1 ≤ fstA p l
  | [] => by simp [fstA]
  | x :: l => by
    have := fstA_ge p l
    unfold fstA
    split
    · omega
    · split <;> omega
theorem fstA_lt (p : P2 → Bool) : ∀ l : List P2, fstA p l < l.length
  | [] => by simp [fstA]
  | x :: l => by
    have := fstA_lt p l
    unfold fstA
    simp only [List.length_cons]
    split
    · omega
    · split <;> omega
theorem fstA_stop {p : P2 → Bool} {l : List P2} {k : Nat} (hk : k < l.length) (h : ∀ x ∈ l.take k, p x = false) (hp : p l[k] = true) : fstA p l = k := by
  induction l generalizing k with
  | nil => simp at hk
  | cons x l ih =>
    cases k with
    | zero => simp at hp; simp [fstA, hp]
    | succ k =>
      have h0 : p x = false := h x (by simp)
      have := ih (k := k) (by simpa using hk) (fun y hy => h y (by simp [hy])) (by simpa using hp)
      unfold fstA
      rw [if_neg (by simp [h0]), this, if_neg (by omega)]
      simp
theorem fstA_none {p : P2 → Bool} {l : List P2} (h : ∀ x ∈ l, p x = false) : fstA p l = -1 := by
  induction l with
  | nil => rfl
  | cons x l ih =>
    unfold fstA
    rw [if_neg (by simp [h x (by simp)]), ih fun y hy => h y (by simp [hy])]
    rfl
theorem takeA {p : P2 → Bool} {l : List P2} {k : Nat} (hk : k < l.length) (h : ∀ x ∈ l.take k, p x = false) (hp : p l[k] = false) : ∀ x ∈ l.take (k + 1), p x = false := by
  rw [List.take_succ_eq_append_getElem hk]
  intro x hx
  rcases List.mem_append.1 hx with h1 | h1
  · exact h x h1
  · rw [List.mem_singleton.1 h1]; exact hp
theorem fstA_any (p : P2 → Bool) (l : List P2) : decide (0 ≤ fstA p l) = l.any p := by
  induction l with
  | nil => rfl
  | cons x l ih =>
    have := fstA_ge p l
    rw [List.any_cons, ← ih, show fstA p (x :: l) = if p x then 0 else if fstA p l < 0 then -1 else fstA p l + 1 from rfl]
    by_cases h : p x
    · simp [h]
    · rw [if_neg h, show p x = false by simpa using h, Bool.false_or]
      by_cases h2 : fstA p l < 0
      · rw [if_pos h2, decide_eq_false (by omega), decide_eq_false (by omega)]
      · rw [if_neg h2, decide_eq_true (by omega), decide_eq_true (by omega)]
def keepA (p : P2 → Bool) (l : List P2) : List P2 := l.filter fun x => !p x
theorem keepA_succ {p : P2 → Bool} {l : List P2} {j : Nat} (hj : j < l.length) : keepA p (l.take (j + 1)) = if p l[j] then keepA p (l.take j) else keepA p (l.take j) ++ [l[j]] := by
  unfold keepA
  rw [List.take_succ_eq_append_getElem hj, List.filter_append]
  cases h : p l[j] <;> simp [h]
theorem keepA_le (p : P2 → Bool) (l : List P2) (j : Nat) : (keepA p (l.take j)).length ≤ j := Nat.le_trans (List.length_filter_le _ _) (List.length_take_le _ _)
theorem fstA_keep {p : P2 → Bool} : ∀ {l : List P2} {k : Nat}, fstA p l = k → keepA p (l.take (k + 1)) = l.take k ∧ k < l.length
  | [], k, h => by simp [fstA] at h
  | x :: l, k, h => by
    have hge := fstA_ge p l
    unfold fstA at h
    split at h
    · next hp => obtain rfl : k = 0 := by omega
                 exact ⟨by simp [keepA, hp], by simp⟩
    · next hp =>
      split at h
      · omega
      · obtain ⟨k, rfl⟩ : ∃ k', k = k' + 1 := ⟨k - 1, by omega⟩
        obtain ⟨h1, h2⟩ := fstA_keep (p := p) (l := l) (k := k) (by omega)
        refine ⟨?_, by simpa using h2⟩
        rw [List.take_succ_cons, List.take_succ_cons, ← h1]
        unfold keepA
        rw [List.filter_cons, if_pos (by simpa using hp)]
theorem keepA_none {p : P2 → Bool} {l : List P2} (h : fstA p l < 0) : keepA p l = l := by
  unfold keepA
  rw [List.filter_eq_self]
  intro x hx
  have h1 := fstA_any p l
  rw [decide_eq_false (by omega)] at h1
  have := List.any_eq_false.1 h1.symm x hx
  simpa using this
/-- What a predicate answers, which may turn the world; n: how many were asked ahead. -/
def PredJ (f : Nat) (lb : Array Value) (G : Nat → Prop) (p : P2 → Bool) (l : List P2) (J : Nat → World → Prop) : Prop :=
  ∀ n x W0 W, l[n]? = some x → J n W0 → Fr G W0 W → Calls Tryz.prog f (#[.agg #[.int .i64 x.1, .int .i64 x.2]] ++ lb) W fun e w' => e = .returned (.bool (p x)) ∧ J (n + 1) w' ∧ Fr (fun k => k < W0.heap.size ∧ ¬ G k) W w'
theorem fr_setCells {S : Nat → Prop} {g : Nat} (hg : S g) : ∀ (vs : List Value) (o : Nat) (a w : World), Fr S a w → Fr S a (w.setCells g o vs)
  | [], _, _, _, h => h
  | v :: r, o, a, w, h => fr_setCells hg r (o + 1) a _ (h.setCell ⟨g, o, none⟩ v (.inr hg))
theorem own_shrinkN {w : World} {base g n cap sz : Nat} {e : TypeId} {xs : List Value} (h : w.ownsRow base e sz (.slice (some ⟨g, 0, none⟩) n cap) n xs) {i : Nat} (hi : i ≤ n) : w.ownsRow base e sz (.slice (some ⟨g, 0, none⟩) i cap) i (xs.take (i * sz)) := by
  have hl := h.1
  have hm : i * sz ≤ n * sz := Nat.mul_le_mul_right sz hi
  rcases h.2 with ⟨e', _⟩ | ⟨g2, c3, cur, e', hb1, hb2, hb3, hb4, hb5, hb6⟩
  · cases e'
  · cases e'
    refine ⟨by rw [List.length_take]; omega, .inr ⟨g, cap, cur, rfl, hb1, hb2, by omega, hb4, hb5, ?_⟩⟩
    rw [← hb6, List.take_take]
    congr 1
    omega
theorem own_setCellsN {base g n cap sz : Nat} {e : TypeId} {xs : List Value} : ∀ (vs : List Value) (o : Nat) (w : World), xs.length ≤ o → w.ownsRow base e sz (.slice (some ⟨g, 0, none⟩) n cap) n xs → (w.setCells g o vs).ownsRow base e sz (.slice (some ⟨g, 0, none⟩) n cap) n xs
  | [], _, _, _, h => h
  | v :: r, o, w, ho, h => by
    have := (h.stored o v).1
    rw [List.set_eq_of_length_le ho] at this
    exact own_setCellsN r (o + 1) _ (by omega) this
theorem run_clear2 {P : Program} (w : World) (t e ty : TypeId) (ht : P.underlying t = some (.slice e)) (hv : ∀ w, (zeroValue e).run P w = .ok (.agg #[.int .i64 0, .int .i64 0]) w) (b o n c : Nat) (hn : 0 < n)
    (hc : ∀ j, j < n * 2 → (w.cell? ⟨b, o + j, none⟩).isSome = true) (hf : ∀ j, j < n * 2 → w.frozen? ⟨b, o + j, none⟩ = false) :
    (Builtin.clear_ #[t] ty #[.slice (some ⟨b, o, none⟩) n c]).run P w = .ok (.tuple #[]) (w.setCells b o (List.replicate (n * 2) (.int .i64 0))) := by
  have hzc : (Builtin.zeroCells (Value.agg #[.int .i64 0, .int .i64 0]).cells n).toList = List.replicate (n * 2) (.int .i64 0) := by
    simp only [Builtin.zeroCells, Value.cells]
    apply List.ext_getElem
    · simp
    · intro i h1 h2
      have : i % 2 = 0 ∨ i % 2 = 1 := by omega
      rcases this with h | h <;> simp [h]
  have hst := run_storeCells_cells (P := P) b o (List.replicate (n * 2) (.int .i64 0)) 0 w (by simpa using hc) (by simpa using hf) (by intro v hv'; rw [List.eq_of_mem_replicate hv']; rfl)
  simp only [Nat.add_zero] at hst
  obtain ⟨m, rfl⟩ : ∃ m, n = m + 1 := ⟨n - 1, by omega⟩
  simp [Builtin.clear_, run_underlying ht, hv, hzc, hst]
theorem own_sl_eq {g o n c k : Nat} (h : (Value.slice (some ⟨g, o, none⟩) n c).ownBlock = some k) : k = g := by
  have : g = k := by simpa [Value.ownBlock] using h
  exact this.symm
structure DelS2 (base : Nat) (E : TypeId) (g cap : Nat) (l : List P2) (p : P2 → Bool) (J : Nat → World → Prop) (i j : Nat) (wr : World) : Prop where
  row : ∃ xs : List P2, xs.length = l.length ∧ wr.ownsRow base E 2 (.slice (some ⟨g, 0, none⟩) l.length cap) l.length (xs.flatMap enc2) ∧ (∀ q, j ≤ q → xs[q]? = l[q]?) ∧ xs.take i = keepA p (l.take j)
  st : J j wr
  cnt : i = (keepA p (l.take j)).length
theorem DelS2.skip {base : Nat} {E : TypeId} {g cap : Nat} {l : List P2} {p : P2 → Bool} {J : Nat → World → Prop} {i j : Nat} {wr w' : World} (h : DelS2 base E g cap l p J i j wr) (hj : j < l.length) (hp : p l[j] = true) {S : Nat → Prop} (hf : Fr S wr w') (hg : ¬ S g) (hJ : J (j + 1) w') : DelS2 base E g cap l p J i (j + 1) w' := by
  obtain ⟨xs, h1, h2, h3, h4⟩ := h.row
  have e : keepA p (l.take (j + 1)) = keepA p (l.take j) := by rw [keepA_succ hj, hp]; rfl
  exact ⟨⟨xs, h1, owns_fr h2 hf (fun k hk e => hg (own_sl_eq hk ▸ e)), fun q hq => h3 q (by omega), by rw [e]; exact h4⟩, hJ, by rw [e]; exact h.cnt⟩
theorem DelS2.keep {base : Nat} {E : TypeId} {g cap : Nat} {l : List P2} {p : P2 → Bool} {J : Nat → World → Prop} {i j : Nat} {wr w' : World} (h : DelS2 base E g cap l p J i j wr) (hij : i ≤ j) (hj : j < l.length) {x : P2} (hx : x = l[j]) (hp : p x = false) {S : Nat → Prop} (hf : Fr S wr w') (hg : ¬ S g)
    (hJ : J (j + 1) ((w'.setCell ⟨g, i * 2, none⟩ (.int .i64 x.1)).setCell ⟨g, i * 2 + 1, none⟩ (.int .i64 x.2))) : DelS2 base E g cap l p J (i + 1) (j + 1) ((w'.setCell ⟨g, i * 2, none⟩ (.int .i64 x.1)).setCell ⟨g, i * 2 + 1, none⟩ (.int .i64 x.2)) := by
  obtain ⟨xs, h1, h2, h3, h4⟩ := h.row
  subst hx
  have e : keepA p (l.take (j + 1)) = keepA p (l.take j) ++ [l[j]] := by rw [keepA_succ hj, hp]; rfl
  have hil : i < xs.length := by omega
  have h2' := owns_fr h2 hf (fun k hk e => hg (own_sl_eq hk ▸ e))
  refine ⟨⟨xs.set i l[j], by simpa using h1, ?_, fun q hq => ?_, ?_⟩, hJ, by rw [e, List.length_append, h.cnt]; rfl⟩
  · have a1 := (h2'.stored (i * 2) (.int .i64 l[j].1)).1
    have e1 := flat_set enc2_len xs i xs[i] (l[j].1, xs[i].2) 0 (.int .i64 l[j].1) (by simp [hil]) (by omega) rfl
    rw [Nat.add_zero] at e1
    rw [e1] at a1
    have a2 := (a1.stored (i * 2 + 1) (.int .i64 l[j].2)).1
    rw [flat_set enc2_len (xs.set i (l[j].1, xs[i].2)) i (l[j].1, xs[i].2) l[j] 1 (.int .i64 l[j].2) (by simp [hil]) (by omega) rfl, List.set_set] at a2
    exact a2
  · rw [List.getElem?_set, if_neg (by omega)]; exact h3 q (by omega)
  · rw [e, ← h4, List.take_succ_eq_append_getElem (by simp; omega)]
    simp [List.take_set_of_le]
/-- What slices.DeleteFunc leaves. -/
def DelJ (base : Nat) (E : TypeId) (v : Value) (p : P2 → Bool) (l : List P2) (J : Nat → World → Prop) (e : Ending) (w' : World) : Prop :=
  ∃ v', e = .returned v' ∧ w'.ownsRow base E 2 v' (keepA p l).length ((keepA p l).flatMap enc2) ∧ J l.length w' ∧ ∀ k, v'.ownBlock = some k → v.ownBlock = some k
def IdxJ (base : Nat) (E : TypeId) (v : Value) (p : P2 → Bool) (l : List P2) (J : Nat → World → Prop) (w : World) (e : Ending) (w' : World) : Prop :=
  e = .returned (.int .i64 (fstA p l)) ∧ J (if fstA p l < 0 then l.length else (fstA p l).toNat + 1) w' ∧ w'.ownsRow base E 2 v l.length (l.flatMap enc2) ∧ w.heap.size ≤ w'.heap.size
end Go.Proofs.YtcgcljmnnjalpaaGreat
set_option linter.unusedVariables false
set_option linter.unusedSimpArgs false
namespace Go.Proofs.YtcgcljmnnjalpaaGreat
open Go.RowKit Go.Kx
open Go.ChangeMaps (setBlock)
theorem zero_E (w : World) : (zeroValue 144).run Tryz.prog w = .ok (.agg #[.int .i64 0, .int .i64 0]) w := by kernel_rfl
set_option maxRecDepth 100000 in
set_option maxHeartbeats 4000000 in
theorem index_E {w : World} {v : Value} {base : Nat} {l : List P2} {f : Nat} {lb : Array Value} {p : P2 → Bool} {J : Nat → World → Prop} (hown : w.ownsRow base 144 2 v l.length (l.flatMap enc2)) (hp : PredJ f lb (fun k => v.ownBlock = some k) p l J) (h0 : J 0 w)
    (eg : ∀ args w, (callFunc f args).run Tryz.prog w = .ok (.enter f args) w) (hl : l.length ≤ 200000) :
    Calls Tryz.prog 148 #[v, .func (.func f) #[] lb] w (IdxJ base 144 v p l J w) := by
  refine cph fun R HR => ?_
  have HP := Lib.hid hp
  have HW := Lib.hid (And.intro hown h0)
  have hsh : ∃ A cap, v = .slice A l.length cap ∧ (l ≠ [] → ∃ g, A = some ⟨g, 0, none⟩) := by
    rcases own_val hown with ⟨rfl, h0⟩ | ⟨g, cap, rfl, _⟩
    · have : l = [] := List.eq_nil_of_length_eq_zero h0
      exact ⟨none, 0, by rw [h0], fun h => absurd this h⟩
    · exact ⟨_, cap, rfl, fun _ => ⟨g, rfl⟩⟩
  obtain ⟨A, cap, rfl, hA⟩ := hsh
  have HA := Lib.hid hA
  clear hown hp h0 hA
  go_enter Tryz.func148, Tryz.ntmps148
  go_wp2_with fail
  go_loopw [8] (fun i wr => ∃ k : Nat, k ≤ l.length ∧ i = .int .i64 k ∧ Hid ((∀ x ∈ l.take k, p x = false) ∧ J k wr ∧ wr.ownsRow base 144 2 (.slice A l.length cap) l.length (l.flatMap enc2) ∧ w.heap.size ≤ wr.heap.size)) (fun i _ => l.length - (intOf i).toNat)
  case atStart => exact ⟨0, Nat.zero_le _, rfl, fun x hx => by simp at hx, HW.out.2, HW.out.1, Nat.le_refl _⟩
  case round =>
    obtain ⟨k, hk, rfl, HK⟩ := hrel
    by_cases hlt : k < l.length
    · obtain ⟨g, rfl⟩ := HA.out (by intro e; rw [e] at hlt; simp at hlt)
      have hki : (k : Int) < (l.length : Int) := by omega
      obtain ⟨x, hx⟩ : ∃ x, x = l[k] := ⟨_, rfl⟩
      have hx2 : l[k]? = some x := by rw [hx]; simp [hlt]
      have c0 := (own_at enc2_len HK.out.2.2.1 hx2 (o := 0) (by omega)).trans (rfl : _ = some (Value.int .i64 x.1))
      have c1 := (own_at enc2_len HK.out.2.2.1 hx2 (o := 1) (by omega)).trans (rfl : _ = some (Value.int .i64 x.2))
      rw [Nat.add_zero] at c0
      have hq := Lib.hid (HP.out k x wr wr hx2 HK.out.2.1 (Fr.refl _ _))
      have HX := Lib.hid hx
      clear hx hx2
      cases hpx : p x
      · rw [hpx] at hq
        have HF := Lib.hid hpx
        clear hpx
        go_wp2_with (go_at_fn f; refine hq.out.mono ?_; rintro e w' ⟨rfl, hj, hf⟩; have H7 : Hid (J (k + 1) w' ∧ w'.ownsRow base 144 2 (.slice (some ⟨g, 0, none⟩) l.length cap) l.length (l.flatMap enc2) ∧ w.heap.size ≤ w'.heap.size) := ⟨hj, owns_fr HK.out.2.2.1 hf (fun k hk e => e.2 hk), Nat.le_trans HK.out.2.2.2 hf.size⟩; clear hj hf)
        go_roundw
        case rel => exact ⟨k + 1, by omega, by go_num, takeA hlt HK.out.1 (by rw [← HX.out]; exact HF.out), H7.out.1, H7.out.2.1, H7.out.2.2⟩
        case measure => simp [intOf] <;> omega
      · rw [hpx] at hq
        have HF := Lib.hid hpx
        clear hpx
        have e := fstA_stop hlt HK.out.1 (by rw [← HX.out]; exact HF.out)
        unfold IdxJ at HR
        rw [e, if_neg (by omega)] at HR
        clear e
        go_wp2_with (go_at_fn f; refine hq.out.mono ?_; rintro e w' ⟨rfl, hj, hf⟩; have H7 : Hid (J (k + 1) w' ∧ w'.ownsRow base 144 2 (.slice (some ⟨g, 0, none⟩) l.length cap) l.length (l.flatMap enc2) ∧ w.heap.size ≤ w'.heap.size) := ⟨hj, owns_fr HK.out.2.2.1 hf (fun k hk e => e.2 hk), Nat.le_trans HK.out.2.2.2 hf.size⟩; clear hj hf)
        exact HR.out _ _ ⟨rfl, H7.out.1, H7.out.2.1, H7.out.2.2⟩
    · obtain rfl : k = l.length := by omega
      have hki : ¬ (l.length : Int) < (l.length : Int) := by omega
      have e := fstA_none (p := p) (l := l) fun x hx => HK.out.1 x (by rw [List.take_of_length_le (by omega)]; exact hx)
      unfold IdxJ at HR
      rw [e, if_pos (by omega)] at HR
      clear e
      go_wp2_with fail
      exact HR.out _ _ ⟨rfl, HK.out.2.1, HK.out.2.2.1, HK.out.2.2.2⟩
set_option maxRecDepth 100000 in
set_option maxHeartbeats 4000000 in
theorem delete_E {w : World} {v : Value} {base : Nat} {l : List P2} {f : Nat} {lb : Array Value} {p : P2 → Bool} {J : Nat → World → Prop} (hown : w.ownsRow base 144 2 v l.length (l.flatMap enc2)) (hp : PredJ f lb (fun k => v.ownBlock = some k) p l J) (h0 : J 0 w) (hJ : ∀ n W W', J n W → Fr (fun k => v.ownBlock = some k) W W' → J n W')
    (eg : ∀ args w, (callFunc f args).run Tryz.prog w = .ok (.enter f args) w) (hl : l.length ≤ 200000) :
    Calls Tryz.prog 138 #[v, .func (.func f) #[] lb] w (DelJ base 144 v p l J) := by
  refine cph fun R HR => ?_
  have HI := Lib.hid (index_E hown hp h0 eg hl)
  unfold IdxJ at HI
  have HP := Lib.hid hp
  have hge := fstA_ge p l
  by_cases hz : fstA p l < 0
  · have hz1 : fstA p l = -1 := by omega
    rw [if_pos hz, hz1] at HI
    have e := keepA_none hz
    unfold DelJ at HR
    rw [e] at HR
    obtain ⟨A, m, c, rfl⟩ := own_sl hown
    clear hz hz1 hge e hown
    go_enter Tryz.func138, Tryz.ntmps138
    go_wp2_with (go_at_call 148; refine HI.out.mono ?_; rintro e w' ⟨rfl, hj, hrow, hsz⟩; have H7 := Lib.hid (And.intro hj hrow); clear hj hrow)
    exact HR.out _ _ ⟨_, rfl, H7.out.2, H7.out.1, fun k h => h⟩
  · obtain ⟨k0, hk0⟩ := Int.eq_ofNat_of_zero_le (a := fstA p l) (by omega)
    rw [if_neg hz, hk0] at HI
    obtain ⟨hkk, hk⟩ := fstA_keep hk0
    have hgc : ∃ g cap, v = .slice (some ⟨g, 0, none⟩) l.length cap ∧ l.length ≤ cap := by
      rcases own_val hown with ⟨rfl, h0⟩ | ⟨g, cap, rfl, hc⟩
      · omega
      · exact ⟨g, cap, rfl, hc⟩
    obtain ⟨g, cap, rfl, hcap⟩ := hgc
    have HD : Hid (∀ w', J (k0 + 1) w' → w'.ownsRow base 144 2 (.slice (some ⟨g, 0, none⟩) l.length cap) l.length (l.flatMap enc2) → DelS2 base 144 g cap l p J k0 (k0 + 1) w') := by
      refine Lib.hid fun w' hj hrow => ⟨⟨l, rfl, hrow, fun _ _ => rfl, hkk.symm⟩, hj, ?_⟩
      rw [hkk, List.length_take]; omega
    have HJ := Lib.hid hJ
    have hto : (Int.toNat (k0 : Int)) = k0 := Int.toNat_natCast k0
    rw [hto] at HI
    clear hz hge hk0 hkk hown hp hJ h0 hto
    have hne1 : ((k0 : Int) == -1) = false := beq_eq_false_iff_ne.2 (by omega)
    go_enter Tryz.func138, Tryz.ntmps138
    go_wp2_with (go_at_call 148; refine HI.out.mono ?_; rintro e w1 ⟨rfl, hj, hrow, hsz⟩; have H7 := Lib.hid (HD.out w1 hj hrow); clear hj hrow)
    go_loopw [5, 6, 7] (fun a b _ wr => ∃ i j : Nat, a = .int .i64 i ∧ b = .int .i64 j ∧ j ≤ l.length ∧ i < j ∧ Hid (DelS2 base 144 g cap l p J i j wr)) (fun _ b _ _ => l.length - (intOf b).toNat)
    case atStart => exact ⟨k0, k0 + 1, rfl, by go_num, by omega, by omega, H7.out⟩
    case round =>
      obtain ⟨i, j, rfl, rfl, hj, hij, HS⟩ := hrel
      by_cases hjl : j < l.length
      · have hji : (j : Int) < (l.length : Int) := by omega
        have hii : (i : Int) < (l.length : Int) := by omega
        obtain ⟨xs, hxl, hrow, hxs, _⟩ := HS.out.row
        obtain ⟨x, hx⟩ : ∃ x, x = l[j] := ⟨_, rfl⟩
        have hx2 : l[j]? = some x := by rw [hx]; simp [hjl]
        have hx3 : xs[j]? = some x := by rw [hxs j (Nat.le_refl _)]; exact hx2
        have c0 := (own_at enc2_len hrow hx3 (o := 0) (by omega)).trans (rfl : _ = some (Value.int .i64 x.1))
        have c1 := (own_at enc2_len hrow hx3 (o := 1) (by omega)).trans (rfl : _ = some (Value.int .i64 x.2))
        rw [Nat.add_zero] at c0
        have hgs : g < wr.heap.size := by have := (hrow.lt g rfl).2; omega
        -- behind the element's own copy
        have hnA := blk_new wr (Obj.cells #[.int .i64 x.1, .int .i64 x.2] 144)
        have hfA : Fr (fun k => (Value.slice (some ⟨g, 0, none⟩) l.length cap).ownBlock = some k) wr (wr.alloc (Obj.cells #[.int .i64 x.1, .int .i64 x.2] 144)) := (Fr.refl _ wr).alloc _
        obtain ⟨wA, hwA⟩ : ∃ wA, wr.alloc (Obj.cells #[.int .i64 x.1, .int .i64 x.2] 144) = wA := ⟨_, rfl⟩
        rw [hwA] at hnA hfA
        have a0 := (blk_cell hnA 0).trans (rfl : _ = some (Value.int .i64 x.1))
        have a1 := (blk_cell hnA 1).trans (rfl : _ = some (Value.int .i64 x.2))
        have hq := HP.out j x wr wA hx2 HS.out.st hfA
        have hq2 := Lib.hid hq
        have hgrA : Grow wr wA := by rw [← hwA]; exact (Grow.refl wr).alloc _
        have HA := Lib.hid (And.intro hnA (And.intro hfA hgrA))
        have HX := Lib.hid hx
        clear hx hx2 hx3 hxl hrow hxs hq hnA hfA hgrA
        cases hpx : p x
        · rw [hpx] at hq2
          have HPX := Lib.hid hpx
          clear hpx
          go_upto_if 29 with (go_at_fn f; refine hq2.out.mono ?_; rintro e wB ⟨rfl, hjB, hfB⟩; have b0 : wB.cell? ⟨wr.heap.size, 0, none⟩ = some (.int .i64 x.1) := (blk_cell (hfB.at_ HA.out.1 (fun e => Nat.lt_irrefl _ e.1)) 0).trans rfl; have b1 : wB.cell? ⟨wr.heap.size, 1, none⟩ = some (.int .i64 x.2) := (blk_cell (hfB.at_ HA.out.1 (fun e => Nat.lt_irrefl _ e.1)) 1).trans rfl; have H8 := Lib.hid (And.intro hjB hfB); clear hjB hfB)
          obtain ⟨xs, hxl, hrow, hxs, hxt⟩ := HS.out.row
          have hrB := owns_fr (owns_grow hrow HA.out.2.2) H8.out.2 (fun k hk e => e.2 hk)
          have hco0 := own_at enc2_len hrB (j := i) (x := xs[i]'(by omega)) (by simp) (o := 0) (by omega)
          have hco1 := own_at enc2_len hrB (j := i) (x := xs[i]'(by omega)) (by simp) (o := 1) (by omega)
          have hfz0 := hrB.frozenAt (i * 2)
          have hfz1 := hrB.frozenAt (i * 2 + 1)
          rw [Nat.add_zero] at hco0
          have hF2 : Fr (fun k => (Value.slice (some ⟨g, 0, none⟩) l.length cap).ownBlock = some k) wB ((wB.setCell ⟨g, i * 2, none⟩ (.int .i64 x.1)).setCell ⟨g, i * 2 + 1, none⟩ (.int .i64 x.2)) := ((Fr.refl (fun k => (Value.slice (some ⟨g, 0, none⟩) l.length cap).ownBlock = some k) wB).setCell ⟨g, i * 2, none⟩ _ (.inr rfl)).setCell ⟨g, i * 2 + 1, none⟩ _ (.inr rfl)
          have HF : Hid (DelS2 base 144 g cap l p J (i + 1) (j + 1) ((wB.setCell ⟨g, i * 2, none⟩ (.int .i64 x.1)).setCell ⟨g, i * 2 + 1, none⟩ (.int .i64 x.2))) :=
            HS.out.keep (by omega) hjl HX.out HPX.out (S := fun k => k < wr.heap.size ∧ ¬ (Value.slice (some ⟨g, 0, none⟩) l.length cap).ownBlock = some k) (Fr.then (HA.out.2.2.mono (fun i _ h => h.elim)) H8.out.2 (fun i _ h => h)) (fun e => e.2 rfl) (HJ.out _ _ _ H8.out.1 hF2)
          have hco0' : wB.cell? ⟨g, i * 2, none⟩ = some (.int .i64 (xs[i]'(by omega)).1) := hco0
          have hco1' : wB.cell? ⟨g, i * 2 + 1, none⟩ = some (.int .i64 (xs[i]'(by omega)).2) := hco1
          generalize (xs[i]'(by omega)).1 = y1 at hco0'
          generalize (xs[i]'(by omega)).2 = y2 at hco1'
          clear hrow hxs hxt hrB hF2 hco0 hco1
          go_wp2_with fail
          go_roundw
          case rel => exact ⟨i + 1, j + 1, by go_num, by go_num, by omega, by omega, HF.out⟩
          case measure => simp [intOf] <;> omega
        · rw [hpx] at hq2
          have HPX := Lib.hid hpx
          clear hpx
          go_wp2_with (go_at_fn f; refine hq2.out.mono ?_; rintro e wB ⟨rfl, hjB, hfB⟩; have HF : Hid (DelS2 base 144 g cap l p J i (j + 1) wB) := HS.out.skip hjl (by rw [← HX.out]; exact HPX.out) (S := fun k => k < wr.heap.size ∧ ¬ (Value.slice (some ⟨g, 0, none⟩) l.length cap).ownBlock = some k) (Fr.then (HA.out.2.2.mono (fun i _ h => h.elim)) hfB (fun i _ h => h)) (fun e => e.2 rfl) hjB; clear hjB hfB)
          go_roundw
          case rel => exact ⟨i, j + 1, rfl, by go_num, by omega, by omega, HF.out⟩
          case measure => simp [intOf] <;> omega
      · obtain rfl : j = l.length := by omega
        have hji : ¬ (l.length : Int) < (l.length : Int) := by omega
        obtain ⟨xs, hxl, hrow, hxs, hxt⟩ := HS.out.row
        have hall : ∀ q, q < l.length * 2 → ∃ u, wr.cell? ⟨g, q, none⟩ = some u := by
          intro q hq
          have hd : q / 2 < xs.length := by omega
          have h1 := own_at enc2_len hrow (j := q / 2) (x := xs[q / 2]) (by simp) (o := q % 2) (by omega)
          rw [show q / 2 * 2 + q % 2 = q by omega] at h1
          rw [h1]
          have : q % 2 < (enc2 xs[q / 2]).length := by rw [enc2_len]; omega
          exact ⟨_, List.getElem?_eq_getElem this⟩
        have hcl : ∀ ty, (Builtin.clear_ #[121] ty #[.slice (some ⟨g, i * 2, none⟩) (l.length - i) (cap - i)]).run Tryz.prog wr = .ok (.tuple #[]) (wr.setCells g (i * 2) (List.replicate ((l.length - i) * 2) (.int .i64 0))) :=
          fun ty => run_clear2 wr _ _ ty Tryz.underlying121 zero_E g (i * 2) _ _ (by omega) (fun t ht => by obtain ⟨u, hu⟩ := hall (i * 2 + t) (by omega); rw [hu]; rfl) (fun t ht => hrow.frozenAt (i * 2 + t))
        have hcn := HS.out.cnt
        rw [List.take_of_length_le (Nat.le_refl _)] at hcn hxt
        have HF : Hid (DelJ base 144 (.slice (some ⟨g, 0, none⟩) l.length cap) p l J (.returned (.slice (some ⟨g, 0, none⟩) i cap)) (wr.setCells g (i * 2) (List.replicate ((l.length - i) * 2) (.int .i64 0)))) := by
          refine ⟨.slice (some ⟨g, 0, none⟩) i cap, rfl, ?_, HJ.out _ _ _ HS.out.st (fr_setCells (S := (fun k => (Value.slice (some ⟨g, 0, none⟩) l.length cap).ownBlock = some k)) (g := g) rfl _ _ _ _ (Fr.refl _ _)), fun k h => h⟩
          have h1 := own_shrinkN hrow (i := i) (by omega)
          have h2 : (xs.flatMap enc2).take (i * 2) = (keepA p l).flatMap enc2 := by
            rw [← hxt]
            have h3 : xs.flatMap enc2 = (xs.take i).flatMap enc2 ++ (xs.drop i).flatMap enc2 := by rw [← List.flatMap_append, List.take_append_drop]
            rw [h3, List.take_append_of_le_length (by rw [flat_len enc2_len, List.length_take]; omega), List.take_of_length_le (by rw [flat_len enc2_len, List.length_take]; omega)]
          rw [h2] at h1
          rw [← hcn]
          exact own_setCellsN _ (i * 2) wr (by rw [flat_len enc2_len, ← hcn]; exact Nat.le_refl _) h1
        have hii : (i : Int) ≤ (cap : Int) := by omega
        clear hcn hxs hrow hxl hxt hall
        go_wp2_with fail
        exact HR.out _ _ HF.out
theorem zero_Z (w : World) : (zeroValue 140).run Tryz.prog w = .ok (.agg #[.int .i64 0, .int .i64 0]) w := by kernel_rfl
set_option maxRecDepth 100000 in
set_option maxHeartbeats 4000000 in
theorem index_Z {w : World} {v : Value} {base : Nat} {l : List P2} {f : Nat} {lb : Array Value} {p : P2 → Bool} {J : Nat → World → Prop} (hown : w.ownsRow base 140 2 v l.length (l.flatMap enc2)) (hp : PredJ f lb (fun k => v.ownBlock = some k) p l J) (h0 : J 0 w)
    (eg : ∀ args w, (callFunc f args).run Tryz.prog w = .ok (.enter f args) w) (hl : l.length ≤ 200000) :
    Calls Tryz.prog 129 #[v, .func (.func f) #[] lb] w (IdxJ base 140 v p l J w) := by
  refine cph fun R HR => ?_
  have HP := Lib.hid hp
  have HW := Lib.hid (And.intro hown h0)
  have hsh : ∃ A cap, v = .slice A l.length cap ∧ (l ≠ [] → ∃ g, A = some ⟨g, 0, none⟩) := by
    rcases own_val hown with ⟨rfl, h0⟩ | ⟨g, cap, rfl, _⟩
    · have : l = [] := List.eq_nil_of_length_eq_zero h0
      exact ⟨none, 0, by rw [h0], fun h => absurd this h⟩
    · exact ⟨_, cap, rfl, fun _ => ⟨g, rfl⟩⟩
  obtain ⟨A, cap, rfl, hA⟩ := hsh
  have HA := Lib.hid hA
  clear hown hp h0 hA
  go_enter Tryz.func129, Tryz.ntmps129
  go_wp2_with fail
  go_loopw [8] (fun i wr => ∃ k : Nat, k ≤ l.length ∧ i = .int .i64 k ∧ Hid ((∀ x ∈ l.take k, p x = false) ∧ J k wr ∧ wr.ownsRow base 140 2 (.slice A l.length cap) l.length (l.flatMap enc2) ∧ w.heap.size ≤ wr.heap.size)) (fun i _ => l.length - (intOf i).toNat)
  case atStart => exact ⟨0, Nat.zero_le _, rfl, fun x hx => by simp at hx, HW.out.2, HW.out.1, Nat.le_refl _⟩
  case round =>
    obtain ⟨k, hk, rfl, HK⟩ := hrel
    by_cases hlt : k < l.length
    · obtain ⟨g, rfl⟩ := HA.out (by intro e; rw [e] at hlt; simp at hlt)
      have hki : (k : Int) < (l.length : Int) := by omega
      obtain ⟨x, hx⟩ : ∃ x, x = l[k] := ⟨_, rfl⟩
      have hx2 : l[k]? = some x := by rw [hx]; simp [hlt]
      have c0 := (own_at enc2_len HK.out.2.2.1 hx2 (o := 0) (by omega)).trans (rfl : _ = some (Value.int .i64 x.1))
      have c1 := (own_at enc2_len HK.out.2.2.1 hx2 (o := 1) (by omega)).trans (rfl : _ = some (Value.int .i64 x.2))
      rw [Nat.add_zero] at c0
      have hq := Lib.hid (HP.out k x wr wr hx2 HK.out.2.1 (Fr.refl _ _))
      have HX := Lib.hid hx
      clear hx hx2
      cases hpx : p x
      · rw [hpx] at hq
        have HF := Lib.hid hpx
        clear hpx
        go_wp2_with (go_at_fn f; refine hq.out.mono ?_; rintro e w' ⟨rfl, hj, hf⟩; have H7 : Hid (J (k + 1) w' ∧ w'.ownsRow base 140 2 (.slice (some ⟨g, 0, none⟩) l.length cap) l.length (l.flatMap enc2) ∧ w.heap.size ≤ w'.heap.size) := ⟨hj, owns_fr HK.out.2.2.1 hf (fun k hk e => e.2 hk), Nat.le_trans HK.out.2.2.2 hf.size⟩; clear hj hf)
        go_roundw
        case rel => exact ⟨k + 1, by omega, by go_num, takeA hlt HK.out.1 (by rw [← HX.out]; exact HF.out), H7.out.1, H7.out.2.1, H7.out.2.2⟩
        case measure => simp [intOf] <;> omega
      · rw [hpx] at hq
        have HF := Lib.hid hpx
        clear hpx
        have e := fstA_stop hlt HK.out.1 (by rw [← HX.out]; exact HF.out)
        unfold IdxJ at HR
        rw [e, if_neg (by omega)] at HR
        clear e
        go_wp2_with (go_at_fn f; refine hq.out.mono ?_; rintro e w' ⟨rfl, hj, hf⟩; have H7 : Hid (J (k + 1) w' ∧ w'.ownsRow base 140 2 (.slice (some ⟨g, 0, none⟩) l.length cap) l.length (l.flatMap enc2) ∧ w.heap.size ≤ w'.heap.size) := ⟨hj, owns_fr HK.out.2.2.1 hf (fun k hk e => e.2 hk), Nat.le_trans HK.out.2.2.2 hf.size⟩; clear hj hf)
        exact HR.out _ _ ⟨rfl, H7.out.1, H7.out.2.1, H7.out.2.2⟩
    · obtain rfl : k = l.length := by omega
      have hki : ¬ (l.length : Int) < (l.length : Int) := by omega
      have e := fstA_none (p := p) (l := l) fun x hx => HK.out.1 x (by rw [List.take_of_length_le (by omega)]; exact hx)
      unfold IdxJ at HR
      rw [e, if_pos (by omega)] at HR
      clear e
      go_wp2_with fail
      exact HR.out _ _ ⟨rfl, HK.out.2.1, HK.out.2.2.1, HK.out.2.2.2⟩
set_option maxRecDepth 100000 in
set_option maxHeartbeats 4000000 in
theorem delete_Z {w : World} {v : Value} {base : Nat} {l : List P2} {f : Nat} {lb : Array Value} {p : P2 → Bool} {J : Nat → World → Prop} (hown : w.ownsRow base 140 2 v l.length (l.flatMap enc2)) (hp : PredJ f lb (fun k => v.ownBlock = some k) p l J) (h0 : J 0 w) (hJ : ∀ n W W', J n W → Fr (fun k => v.ownBlock = some k) W W' → J n W')
    (eg : ∀ args w, (callFunc f args).run Tryz.prog w = .ok (.enter f args) w) (hl : l.length ≤ 200000) :
    Calls Tryz.prog 133 #[v, .func (.func f) #[] lb] w (DelJ base 140 v p l J) := by
  refine cph fun R HR => ?_
  have HI := Lib.hid (index_Z hown hp h0 eg hl)
  unfold IdxJ at HI
  have HP := Lib.hid hp
  have hge := fstA_ge p l
  by_cases hz : fstA p l < 0
  · have hz1 : fstA p l = -1 := by omega
    rw [if_pos hz, hz1] at HI
    have e := keepA_none hz
    unfold DelJ at HR
    rw [e] at HR
    obtain ⟨A, m, c, rfl⟩ := own_sl hown
    clear hz hz1 hge e hown
    go_enter Tryz.func133, Tryz.ntmps133
    go_wp2_with (go_at_call 129; refine HI.out.mono ?_; rintro e w' ⟨rfl, hj, hrow, hsz⟩; have H7 := Lib.hid (And.intro hj hrow); clear hj hrow)
    exact HR.out _ _ ⟨_, rfl, H7.out.2, H7.out.1, fun k h => h⟩
  · obtain ⟨k0, hk0⟩ := Int.eq_ofNat_of_zero_le (a := fstA p l) (by omega)
    rw [if_neg hz, hk0] at HI
    obtain ⟨hkk, hk⟩ := fstA_keep hk0
    have hgc : ∃ g cap, v = .slice (some ⟨g, 0, none⟩) l.length cap ∧ l.length ≤ cap := by
      rcases own_val hown with ⟨rfl, h0⟩ | ⟨g, cap, rfl, hc⟩
      · omega
      · exact ⟨g, cap, rfl, hc⟩
    obtain ⟨g, cap, rfl, hcap⟩ := hgc
    have HD : Hid (∀ w', J (k0 + 1) w' → w'.ownsRow base 140 2 (.slice (some ⟨g, 0, none⟩) l.length cap) l.length (l.flatMap enc2) → DelS2 base 140 g cap l p J k0 (k0 + 1) w') := by
      refine Lib.hid fun w' hj hrow => ⟨⟨l, rfl, hrow, fun _ _ => rfl, hkk.symm⟩, hj, ?_⟩
      rw [hkk, List.length_take]; omega
    have HJ := Lib.hid hJ
    have hto : (Int.toNat (k0 : Int)) = k0 := Int.toNat_natCast k0
    rw [hto] at HI
    clear hz hge hk0 hkk hown hp hJ h0 hto
    have hne1 : ((k0 : Int) == -1) = false := beq_eq_false_iff_ne.2 (by omega)
    go_enter Tryz.func133, Tryz.ntmps133
    go_wp2_with (go_at_call 129; refine HI.out.mono ?_; rintro e w1 ⟨rfl, hj, hrow, hsz⟩; have H7 := Lib.hid (HD.out w1 hj hrow); clear hj hrow)
    go_loopw [5, 6, 7] (fun a b _ wr => ∃ i j : Nat, a = .int .i64 i ∧ b = .int .i64 j ∧ j ≤ l.length ∧ i < j ∧ Hid (DelS2 base 140 g cap l p J i j wr)) (fun _ b _ _ => l.length - (intOf b).toNat)
    case atStart => exact ⟨k0, k0 + 1, rfl, by go_num, by omega, by omega, H7.out⟩
    case round =>
      obtain ⟨i, j, rfl, rfl, hj, hij, HS⟩ := hrel
      by_cases hjl : j < l.length
      · have hji : (j : Int) < (l.length : Int) := by omega
        have hii : (i : Int) < (l.length : Int) := by omega
        obtain ⟨xs, hxl, hrow, hxs, _⟩ := HS.out.row
        obtain ⟨x, hx⟩ : ∃ x, x = l[j] := ⟨_, rfl⟩
        have hx2 : l[j]? = some x := by rw [hx]; simp [hjl]
        have hx3 : xs[j]? = some x := by rw [hxs j (Nat.le_refl _)]; exact hx2
        have c0 := (own_at enc2_len hrow hx3 (o := 0) (by omega)).trans (rfl : _ = some (Value.int .i64 x.1))
        have c1 := (own_at enc2_len hrow hx3 (o := 1) (by omega)).trans (rfl : _ = some (Value.int .i64 x.2))
        rw [Nat.add_zero] at c0
        have hgs : g < wr.heap.size := by have := (hrow.lt g rfl).2; omega
        -- behind the element's own copy
        have hnA := blk_new wr (Obj.cells #[.int .i64 x.1, .int .i64 x.2] 140)
        have hfA : Fr (fun k => (Value.slice (some ⟨g, 0, none⟩) l.length cap).ownBlock = some k) wr (wr.alloc (Obj.cells #[.int .i64 x.1, .int .i64 x.2] 140)) := (Fr.refl _ wr).alloc _
        obtain ⟨wA, hwA⟩ : ∃ wA, wr.alloc (Obj.cells #[.int .i64 x.1, .int .i64 x.2] 140) = wA := ⟨_, rfl⟩
        rw [hwA] at hnA hfA
        have a0 := (blk_cell hnA 0).trans (rfl : _ = some (Value.int .i64 x.1))
        have a1 := (blk_cell hnA 1).trans (rfl : _ = some (Value.int .i64 x.2))
        have hq := HP.out j x wr wA hx2 HS.out.st hfA
        have hq2 := Lib.hid hq
        have hgrA : Grow wr wA := by rw [← hwA]; exact (Grow.refl wr).alloc _
        have HA := Lib.hid (And.intro hnA (And.intro hfA hgrA))
        have HX := Lib.hid hx
        clear hx hx2 hx3 hxl hrow hxs hq hnA hfA hgrA
        cases hpx : p x
        · rw [hpx] at hq2
          have HPX := Lib.hid hpx
          clear hpx
          go_upto_if 29 with (go_at_fn f; refine hq2.out.mono ?_; rintro e wB ⟨rfl, hjB, hfB⟩; have b0 : wB.cell? ⟨wr.heap.size, 0, none⟩ = some (.int .i64 x.1) := (blk_cell (hfB.at_ HA.out.1 (fun e => Nat.lt_irrefl _ e.1)) 0).trans rfl; have b1 : wB.cell? ⟨wr.heap.size, 1, none⟩ = some (.int .i64 x.2) := (blk_cell (hfB.at_ HA.out.1 (fun e => Nat.lt_irrefl _ e.1)) 1).trans rfl; have H8 := Lib.hid (And.intro hjB hfB); clear hjB hfB)
          obtain ⟨xs, hxl, hrow, hxs, hxt⟩ := HS.out.row
          have hrB := owns_fr (owns_grow hrow HA.out.2.2) H8.out.2 (fun k hk e => e.2 hk)
          have hco0 := own_at enc2_len hrB (j := i) (x := xs[i]'(by omega)) (by simp) (o := 0) (by omega)
          have hco1 := own_at enc2_len hrB (j := i) (x := xs[i]'(by omega)) (by simp) (o := 1) (by omega)
          have hfz0 := hrB.frozenAt (i * 2)
          have hfz1 := hrB.frozenAt (i * 2 + 1)
          rw [Nat.add_zero] at hco0
          have hF2 : Fr (fun k => (Value.slice (some ⟨g, 0, none⟩) l.length cap).ownBlock = some k) wB ((wB.setCell ⟨g, i * 2, none⟩ (.int .i64 x.1)).setCell ⟨g, i * 2 + 1, none⟩ (.int .i64 x.2)) := ((Fr.refl (fun k => (Value.slice (some ⟨g, 0, none⟩) l.length cap).ownBlock = some k) wB).setCell ⟨g, i * 2, none⟩ _ (.inr rfl)).setCell ⟨g, i * 2 + 1, none⟩ _ (.inr rfl)
          have HF : Hid (DelS2 base 140 g cap l p J (i + 1) (j + 1) ((wB.setCell ⟨g, i * 2, none⟩ (.int .i64 x.1)).setCell ⟨g, i * 2 + 1, none⟩ (.int .i64 x.2))) :=
            HS.out.keep (by omega) hjl HX.out HPX.out (S := fun k => k < wr.heap.size ∧ ¬ (Value.slice (some ⟨g, 0, none⟩) l.length cap).ownBlock = some k) (Fr.then (HA.out.2.2.mono (fun i _ h => h.elim)) H8.out.2 (fun i _ h => h)) (fun e => e.2 rfl) (HJ.out _ _ _ H8.out.1 hF2)
          have hco0' : wB.cell? ⟨g, i * 2, none⟩ = some (.int .i64 (xs[i]'(by omega)).1) := hco0
          have hco1' : wB.cell? ⟨g, i * 2 + 1, none⟩ = some (.int .i64 (xs[i]'(by omega)).2) := hco1
          generalize (xs[i]'(by omega)).1 = y1 at hco0'
          generalize (xs[i]'(by omega)).2 = y2 at hco1'
          clear hrow hxs hxt hrB hF2 hco0 hco1
          go_wp2_with fail
          go_roundw
          case rel => exact ⟨i + 1, j + 1, by go_num, by go_num, by omega, by omega, HF.out⟩
          case measure => simp [intOf] <;> omega
        · rw [hpx] at hq2
          have HPX := Lib.hid hpx
          clear hpx
          go_wp2_with (go_at_fn f; refine hq2.out.mono ?_; rintro e wB ⟨rfl, hjB, hfB⟩; have HF : Hid (DelS2 base 140 g cap l p J i (j + 1) wB) := HS.out.skip hjl (by rw [← HX.out]; exact HPX.out) (S := fun k => k < wr.heap.size ∧ ¬ (Value.slice (some ⟨g, 0, none⟩) l.length cap).ownBlock = some k) (Fr.then (HA.out.2.2.mono (fun i _ h => h.elim)) hfB (fun i _ h => h)) (fun e => e.2 rfl) hjB; clear hjB hfB)
          go_roundw
          case rel => exact ⟨i, j + 1, rfl, by go_num, by omega, by omega, HF.out⟩
          case measure => simp [intOf] <;> omega
      · obtain rfl : j = l.length := by omega
        have hji : ¬ (l.length : Int) < (l.length : Int) := by omega
        obtain ⟨xs, hxl, hrow, hxs, hxt⟩ := HS.out.row
        have hall : ∀ q, q < l.length * 2 → ∃ u, wr.cell? ⟨g, q, none⟩ = some u := by
          intro q hq
          have hd : q / 2 < xs.length := by omega
          have h1 := own_at enc2_len hrow (j := q / 2) (x := xs[q / 2]) (by simp) (o := q % 2) (by omega)
          rw [show q / 2 * 2 + q % 2 = q by omega] at h1
          rw [h1]
          have : q % 2 < (enc2 xs[q / 2]).length := by rw [enc2_len]; omega
          exact ⟨_, List.getElem?_eq_getElem this⟩
        have hcl : ∀ ty, (Builtin.clear_ #[117] ty #[.slice (some ⟨g, i * 2, none⟩) (l.length - i) (cap - i)]).run Tryz.prog wr = .ok (.tuple #[]) (wr.setCells g (i * 2) (List.replicate ((l.length - i) * 2) (.int .i64 0))) :=
          fun ty => run_clear2 wr _ _ ty Tryz.underlying117 zero_Z g (i * 2) _ _ (by omega) (fun t ht => by obtain ⟨u, hu⟩ := hall (i * 2 + t) (by omega); rw [hu]; rfl) (fun t ht => hrow.frozenAt (i * 2 + t))
        have hcn := HS.out.cnt
        rw [List.take_of_length_le (Nat.le_refl _)] at hcn hxt
        have HF : Hid (DelJ base 140 (.slice (some ⟨g, 0, none⟩) l.length cap) p l J (.returned (.slice (some ⟨g, 0, none⟩) i cap)) (wr.setCells g (i * 2) (List.replicate ((l.length - i) * 2) (.int .i64 0)))) := by
          refine ⟨.slice (some ⟨g, 0, none⟩) i cap, rfl, ?_, HJ.out _ _ _ HS.out.st (fr_setCells (S := (fun k => (Value.slice (some ⟨g, 0, none⟩) l.length cap).ownBlock = some k)) (g := g) rfl _ _ _ _ (Fr.refl _ _)), fun k h => h⟩
          have h1 := own_shrinkN hrow (i := i) (by omega)
          have h2 : (xs.flatMap enc2).take (i * 2) = (keepA p l).flatMap enc2 := by
            rw [← hxt]
            have h3 : xs.flatMap enc2 = (xs.take i).flatMap enc2 ++ (xs.drop i).flatMap enc2 := by rw [← List.flatMap_append, List.take_append_drop]
            rw [h3, List.take_append_of_le_length (by rw [flat_len enc2_len, List.length_take]; omega), List.take_of_length_le (by rw [flat_len enc2_len, List.length_take]; omega)]
          rw [h2] at h1
          rw [← hcn]
          exact own_setCellsN _ (i * 2) wr (by rw [flat_len enc2_len, ← hcn]; exact Nat.le_refl _) h1
        have hii : (i : Int) ≤ (cap : Int) := by omega
        clear hcn hxs hrow hxl hxt hall
        go_wp2_with fail
        exact HR.out _ _ HF.out
end Go.Proofs.YtcgcljmnnjalpaaGreat
