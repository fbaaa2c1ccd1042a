/- slices.IndexFunc, ContainsFunc of ints; the epoch manager: try's two closures. -/
import Derived.Test.YtcgcljmnnjalpaaGreatGfC
set_option linter.unusedVariables false
set_option linter.unusedSimpArgs false
namespace Go.Proofs.YtcgcljmnnjalpaaGreat
open Go.RowKit Go.Kx
open Go.ChangeMaps (setBlock)
/-- What a predicate answers, the world left alone. -/
def PredI (g : Nat) (lb : Array Value) (p : Int → Bool) (w : World) (l : List Int) : Prop :=
  ∀ x ∈ l, Calls Tryz.prog g (#[.int .i64 x] ++ lb) w fun e w' => e = .returned (.bool (p x)) ∧ w = w'
def fstI (p : Int → Bool) : List Int → Int
  | [] => -1
  | x :: l => if p x then 0 else if fstI p l < 0 then -1 else fstI p l + 1
theorem fstI_ge (p : Int → Bool) : ∀ l, -1 ≤ fstI p l
  | [] => by simp [fstI]
  | x :: l => by
    have := fstI_ge p l
    unfold fstI
    split
    · omega
    · split <;> omega
theorem fstI_stop {p : Int → Bool} {l : List Int} {k : Nat} (hk : k < l.length) (h : ∀ x ∈ l.take k, p x = false) (hp : p l[k] = true) : fstI p l = k := by
  induction l generalizing k with
  | nil => simp at hk
  | cons x l ih =>
    cases k with
    | zero => simp at hp; simp [fstI, hp]
    | succ k =>
      have h0 : p x = false := h x (by simp)
      have := ih (k := k) (by simpa using hk) (fun y hy => h y (by simp [hy])) (by simpa using hp)
      unfold fstI
      rw [if_neg (by simp [h0]), this, if_neg (by omega)]
      simp
theorem fstI_none {p : Int → Bool} {l : List Int} (h : ∀ x ∈ l, p x = false) : fstI p l = -1 := by
  induction l with
  | nil => rfl
  | cons x l ih =>
    unfold fstI
    rw [if_neg (by simp [h x (by simp)]), ih fun y hy => h y (by simp [hy])]
    rfl
theorem takeI {p : Int → Bool} {l : List Int} {k : Nat} (hk : k < l.length) (h : ∀ x ∈ l.take k, p x = false) (hp : p l[k] = false) : ∀ x ∈ l.take (k + 1), p x = false := by
  rw [List.take_succ_eq_append_getElem hk]
  intro x hx
  rcases List.mem_append.1 hx with h1 | h1
  · exact h x h1
  · rw [List.mem_singleton.1 h1]; exact hp
theorem fstI_any (p : Int → Bool) (l : List Int) : decide (0 ≤ fstI p l) = l.any p := by
  induction l with
  | nil => rfl
  | cons x l ih =>
    have := fstI_ge p l
    rw [List.any_cons, ← ih, show fstI p (x :: l) = if p x then 0 else if fstI p l < 0 then -1 else fstI p l + 1 from rfl]
    by_cases h : p x
    · simp [h]
    · rw [if_neg h, show p x = false by simpa using h, Bool.false_or]
      by_cases h2 : fstI p l < 0
      · rw [if_pos h2, decide_eq_false (by omega), decide_eq_false (by omega)]
      · rw [if_neg h2, decide_eq_true (by omega), decide_eq_true (by omega)]
theorem indexF_any {w : World} {A : Option Addr} {cap : Nat} {l : List Int} {g : Nat} {lb : Array Value} {p : Int → Bool} (h : IntsAt w A l) (hp : PredI g lb p w l) (eg : ∀ args w, (callFunc g args).run Tryz.prog w = .ok (.enter g args) w) (hl : l.length ≤ 20000000000000) :
    Calls Tryz.prog 147 #[.slice A l.length cap, .func (.func g) #[] lb] w fun e w' => e = .returned (.int .i64 (fstI p l)) ∧ w = w' := by
  refine cph fun R HR => ?_
  have H := Lib.hid h
  have HP := Lib.hid hp
  clear h hp
  go_enter Tryz.func147, Tryz.ntmps147
  go_wp2_with fail
  go_loop [8] (fun i => ∃ k : Nat, k ≤ l.length ∧ i = .int .i64 k ∧ Hid (∀ x ∈ l.take k, p x = false)) (fun i => l.length - (intOf i).toNat)
  case atStart => exact ⟨0, Nat.zero_le _, rfl, fun x hx => by simp at hx⟩
  case round =>
    obtain ⟨k, hk, rfl, HK⟩ := hrel
    by_cases hlt : k < l.length
    · obtain ⟨b, off, rfl, hc⟩ := H.out.at_ hlt
      have hki : (k : Int) < (l.length : Int) := by omega
      have hq := Lib.hid (HP.out l[k] (List.getElem_mem hlt))
      obtain ⟨x, hx⟩ : ∃ x, x = l[k] := ⟨_, rfl⟩
      rw [← hx] at hc hq
      have HX := Lib.hid hx
      clear hx
      cases hpx : p x
      · rw [hpx] at hq
        have HF := Lib.hid hpx
        clear hpx
        go_wp2_with (go_at_fn g; refine hq.out.mono ?_; rintro e w' ⟨rfl, rfl⟩)
        go_round
        case rel => exact ⟨k + 1, by omega, by go_num, takeI hlt HK.out (by rw [← HX.out]; exact HF.out)⟩
        case measure => simp [intOf]; omega
      · rw [hpx] at hq
        have HF := Lib.hid hpx
        clear hpx
        have e := fstI_stop hlt HK.out (by rw [← HX.out]; exact HF.out)
        rw [e] at HR
        clear e
        go_wp2_with (go_at_fn g; refine hq.out.mono ?_; rintro e w' ⟨rfl, rfl⟩)
        exact HR.out _ _ ⟨rfl, rfl⟩
    · have hki : ¬ (k : Int) < (l.length : Int) := by omega
      have e := fstI_none (p := p) (l := l) fun x hx => HK.out x (by rw [List.take_of_length_le (by omega)]; exact hx)
      rw [e] at HR
      clear e
      go_wp2_with fail
      exact HR.out _ _ ⟨rfl, rfl⟩
theorem containsF_any {w : World} {A : Option Addr} {cap : Nat} {l : List Int} {g : Nat} {lb : Array Value} {p : Int → Bool} (h : IntsAt w A l) (hp : PredI g lb p w l) (eg : ∀ args w, (callFunc g args).run Tryz.prog w = .ok (.enter g args) w) (hl : l.length ≤ 20000000000000) :
    Calls Tryz.prog 137 #[.slice A l.length cap, .func (.func g) #[] lb] w fun e w' => e = .returned (.bool (l.any p)) ∧ w = w' := by
  refine cph fun R HR => ?_
  have HI := Lib.hid (indexF_any (cap := cap) h hp eg hl)
  rw [← fstI_any] at HR
  generalize fstI p l = i at HI HR
  clear h hp
  go_enter Tryz.func137, Tryz.ntmps137
  go_wp2_with (go_at_call 147; refine HI.out.mono ?_; rintro e w' ⟨rfl, rfl⟩)
  exact HR.out _ _ ⟨rfl, rfl⟩
theorem eg136 (args : Array Value) (w : World) : (callFunc 136 args).run Tryz.prog w = .ok (.enter 136 args) w := by kernel_rfl
theorem eg139 (args : Array Value) (w : World) : (callFunc 139 args).run Tryz.prog w = .ok (.enter 139 args) w := by kernel_rfl
def behI (e0 x : Int) : Bool := decide (x ≠ -1) && decide (x ≠ e0)
theorem epTry1 {w : World} {b B now : Nat} {e0 : Int} {l : List Int} (h1 : w.cell? ⟨B, 0, none⟩ = some (.pointer (some ⟨b, 0, none⟩))) (h2 : w.cell? ⟨b, 0, none⟩ = some (.int .i64 e0)) :
    PredI 136 #[.pointer (some ⟨B, 0, none⟩)] (behI e0) w l := by
  intro x _
  refine cph fun R HR => ?_
  by_cases c1 : x = -1
  · subst c1
    rw [show behI e0 (-1) = false by simp [behI]] at HR
    go_enter Tryz.func136, Tryz.ntmps136
    go_wp2_with fail
    exact HR.out _ _ ⟨rfl, rfl⟩
  · have d1 : (x == -1) = false := by simpa using c1
    by_cases c2 : x = e0
    · subst c2
      rw [show behI x x = false by simp [behI]] at HR
      go_enter Tryz.func136, Tryz.ntmps136
      go_wp2_with fail
      exact HR.out _ _ ⟨rfl, rfl⟩
    · have dd : (x != -1 && x != e0) = true := by simp [c1, c2]
      have DD := Lib.hid dd
      rw [show behI e0 x = true by simp [behI, c1, c2]] at HR
      clear dd d1
      go_enter Tryz.func136, Tryz.ntmps136
      go_wp2_with fail
      exact HR.out _ _ ⟨by show Ending.returned (.bool (x != -1 && x != e0)) = _; rw [DD.out], rfl⟩
/-- What was given back of the first n. -/
def bkJ (p : P2 → Bool) (f : P2 → Int) (l : List P2) (n : Nat) : List Int := ((l.take n).filter p).map f
theorem bkJ_succ {p : P2 → Bool} {f : P2 → Int} {l : List P2} {n : Nat} {x : P2} (h : l[n]? = some x) : bkJ p f l (n + 1) = if p x then bkJ p f l n ++ [f x] else bkJ p f l n := by
  unfold bkJ
  rw [List.take_add_one, h, List.filter_append, List.map_append]
  cases hg : p x <;> simp [hg]
theorem bkJ_len (p : P2 → Bool) (f : P2 → Int) (l : List P2) (n : Nat) : (bkJ p f l n).length ≤ n := by
  unfold bkJ; rw [List.length_map]
  exact Nat.le_trans (List.length_filter_le _ _) (List.length_take_le _ _)
/-- The state between two questions: the box Bk holds what was given back. -/
def TJ (w0 : World) (Bk : Nat) (G : Nat → Prop) (p : P2 → Bool) (f : P2 → Int) (l : List P2) (n : Nat) (W : World) : Prop :=
  ∃ u, W.heap[Bk]? = some (.cells #[u] 34 (0, 0)) ∧ W.ownsRow w0.heap.size 3 1 u (bkJ p f l n).length ((bkJ p f l n).map (Value.int .i64)) ∧ Fr (fun k => k = Bk ∨ G k) w0 W
theorem TJ.fr {w0 : World} {Bk : Nat} {G : Nat → Prop} {p : P2 → Bool} {f : P2 → Int} {l : List P2} (hG : ∀ k, G k → k < w0.heap.size) (hB : ¬ G Bk) {n : Nat} {W W' : World} (h : TJ w0 Bk G p f l n W) (hf : Fr G W W') : TJ w0 Bk G p f l n W' := by
  obtain ⟨u, h1, h2, h3⟩ := h
  exact ⟨u, hf.at_ h1 hB, owns_fr h2 hf (fun k hk e => by have := (h2.lt k hk).1; have := hG k e; omega), Fr.then h3 hf (fun i _ h => .inr h)⟩
/-- One that is given back is put into the box: what is left behind. -/
theorem TJ.put {w0 : World} {Bk : Nat} {G : Nat → Prop} {p : P2 → Bool} {f : P2 → Int} {l : List P2} (hG : ∀ k, G k → k < w0.heap.size) (hB : ¬ G Bk) (hBl : Bk < w0.heap.size) {n : Nat} {W0 W Wx w3 : World} {u v' : Value} {x : P2} (hx : l[n]? = some x) (hp : p x = true)
    (h0 : W0.ownsRow w0.heap.size 3 1 u (bkJ p f l n).length ((bkJ p f l n).map (Value.int .i64))) (h3 : Fr (fun k => k = Bk ∨ G k) w0 W) (hWx : Grow W Wx) (hbW : W.heap[Bk]? = some (.cells #[u] 34 (0, 0))) (hs : w0.heap.size ≤ W0.heap.size)
    (hown : w3.ownsRow w0.heap.size 3 1 v' ((bkJ p f l n).length + 1) ((bkJ p f l n).map (Value.int .i64) ++ [Value.int .i64 (f x)])) (hgr : Wx.grownBy w3 u.ownBlock) :
    TJ w0 Bk G p f l (n + 1) (w3.setCell ⟨Bk, 0, none⟩ v') ∧ Fr (fun k => k < W0.heap.size ∧ ¬ G k) W (w3.setCell ⟨Bk, 0, none⟩ v') := by
  have hfg := fr_grown hgr
  have hfb : Fr (· = Bk) w3 (w3.setCell ⟨Bk, 0, none⟩ v') := (Fr.refl _ _).setCell _ _ (.inr rfl)
  have hu : ∀ j, u.ownBlock = some j → w0.heap.size ≤ j ∧ j < W0.heap.size := fun j hj => h0.lt j hj
  have hb3 : w3.heap[Bk]? = some (.cells #[u] 34 (0, 0)) := hfg.at_ (hWx.at_ hbW) (fun e => by have := hu Bk e; omega)
  have e : bkJ p f l (n + 1) = bkJ p f l n ++ [f x] := by rw [bkJ_succ hx, if_pos hp]
  refine ⟨⟨v', blk_set hb3 0 v', ?_, ?_⟩, ?_⟩
  · rw [e, List.map_append, List.length_append]
    exact owns_fr hown hfb (fun j hj e => by have := (hown.lt j hj).1; omega)
  · exact ((fr_grow h3 hWx).grown hgr (fun j hj => .inl (hu j hj).1)).then hfb (fun i _ h => .inl h)
  · refine Fr.then (Fr.grown (S := fun k => k < W0.heap.size ∧ ¬ G k) (hWx.mono fun i _ h => h.elim) hgr (fun j hj => .inr ⟨(hu j hj).2, fun h => by have := hG j h; have := (hu j hj).1; omega⟩)) hfb (fun i hi (h : i = Bk) => ?_)
    subst h
    exact ⟨by omega, hB⟩
def oldE (now : Int) (x : P2) : Bool := decide (x.2 ≤ now - 2)
set_option maxRecDepth 100000 in
set_option maxHeartbeats 4000000 in
theorem epTry2 {w0 : World} {b B Bk : Nat} {now : Int} {G : Nat → Prop} {l : List P2} (hG : ∀ k, G k → k < w0.heap.size) (hBk : ¬ G Bk) (hBl : Bk < w0.heap.size) (hB : ¬ G B ∧ B ≠ Bk) (hb : ¬ G b ∧ b ≠ Bk)
    (h1 : w0.cell? ⟨B, 0, none⟩ = some (.pointer (some ⟨b, 0, none⟩))) (h2 : w0.cell? ⟨b, 0, none⟩ = some (.int .i64 now)) (hn : 0 ≤ now ∧ now ≤ 2000000) (hl : l.length ≤ 200000) :
    PredJ 139 #[.pointer (some ⟨B, 0, none⟩), .pointer (some ⟨Bk, 0, none⟩)] G (oldE now) l (TJ w0 Bk G (oldE now) (·.1) l) := by
  intro n x W0 W hx hJ hfr
  refine cph fun R HR => ?_
  obtain ⟨u, j1, j2, j3⟩ := hJ
  have hnl : n < l.length := (List.getElem?_eq_some_iff.1 hx).1
  have hW : Fr (fun k => k = Bk ∨ G k) w0 W := Fr.then j3 hfr (fun i _ h => .inr h)
  have hcB : W.cell? ⟨B, 0, none⟩ = some (.pointer (some ⟨b, 0, none⟩)) := (World.cell?_of_block (w := w0) (hW.blk B (World.block_lt_of_cell? w0 _ h1) (fun h => h.elim hB.2 hB.1))).trans h1
  have hcb : W.cell? ⟨b, 0, none⟩ = some (.int .i64 now) := (World.cell?_of_block (w := w0) (hW.blk b (World.block_lt_of_cell? w0 _ h2) (fun h => h.elim hb.2 hb.1))).trans h2
  have hbk := hfr.at_ j1 hBk
  have hkk := (blk_cell hbk 0).trans (rfl : _ = some u)
  have hfk := blk_free hbk 0
  have hru := owns_fr j2 hfr (fun k hk e => by have := (j2.lt k hk).1; have := hG k e; omega)
  have hrl := bkJ_len (oldE now) (·.1) l n
  have HJ := Lib.hid (And.intro j2 (And.intro hW (And.intro hbk (And.intro hru (And.intro j1 (And.intro j3.size hfr))))))
  have HX := Lib.hid hx
  obtain ⟨i0, hi, hz0, hz1, hz2⟩ := info_parts info3x
  have HI := Lib.hid (And.intro hi (And.intro hz0 (And.intro hz1 hz2)))
  obtain ⟨A, m, c, rfl⟩ := own_sl j2
  have hBs := World.block_lt_of_cell? W _ hcB
  have hbs := World.block_lt_of_cell? W _ hcb
  have hks := World.block_lt_of_cell? W _ hkk
  have hgs := hfr.size
  have hw0 := j3.size
  have HG := Lib.hid (And.intro hG (And.intro hBk hBl))
  have hnA := blk_new W (Obj.cells #[.int .i64 x.1, .int .i64 x.2] 144)
  have hgA := (Grow.refl W).alloc (Obj.cells #[.int .i64 x.1, .int .i64 x.2] 144)
  obtain ⟨wA, hwA⟩ : ∃ wA, W.alloc (Obj.cells #[.int .i64 x.1, .int .i64 x.2] 144) = wA := ⟨_, rfl⟩
  rw [hwA] at hnA hgA
  have hsA : wA.heap.size = W.heap.size + 1 := by rw [← hwA]; exact size_alloc _ _
  have a0 := (blk_cell hnA 0).trans (rfl : _ = some (Value.int .i64 x.1))
  have a1 := (blk_cell hnA 1).trans (rfl : _ = some (Value.int .i64 x.2))
  have aB := hgA.cell hcB
  have ab := hgA.cell hcb
  have ak := hgA.cell hkk
  have afk := blk_free (hgA.at_ hbk) 0
  have HA := Lib.hid hgA
  clear hx j1 j2 j3 hW hbk hru hi hz0 hz1 hz2 hnA hgA hfr hG hBk hBl hB hb h1 h2
  by_cases hc : x.2 ≤ now - 2
  · have HC := Lib.hid hc
    have hpx : oldE now x = true := decide_eq_true hc
    have HPX := Lib.hid hpx
    rw [hpx] at HR
    clear hpx
    go_enter Tryz.func139, Tryz.ntmps139
    go_upto_region 1 with fail
    go_quiet (fail)
    have hgX : Grow W (wA.drewN nq) := HA.out.drewN nq
    have x0 : (wA.drewN nq).cell? ⟨W.heap.size, 0, none⟩ = some (.int .i64 x.1) := a0
    have xk : (wA.drewN nq).cell? ⟨Bk, 0, none⟩ = some (.slice A m c) := ak
    have hsX : (wA.drewN nq).heap.size = W.heap.size + 1 := hsA
    clear a0 a1 aB ab ak afk
    generalize wA.drewN nq = wX at hgX x0 xk hsX ⊢
    have HGX := Lib.hid hgX
    have hnw := cell_one_new wX (.int .i64 x.1) 3
    rw [hsX] at hnw
    have HNW := Lib.hid hnw
    clear hgX hnw
    go_wp2_with (at_builtin; refine wpList_append_own_at _ rfl (.tmp 15) (.tmp 18) 34 rfl w0.heap.size 3 i0 (.int .i64 0) 1 8 Tryz.underlying34 HI.out.1 HI.out.2.1 HI.out.2.2.1 HI.out.2.2.2 rfl (by decide) _ _ _ rfl ((owns_grow HJ.out.2.2.2.1 HGX.out).alloc _) ⟨W.heap.size + 1, 0, none⟩ 1 1 [.int .i64 x.1] rfl rfl HNW.out (by simp [Value.oneCell']) (by unfold maxLen; omega) (by omega) (by simp; omega) ?_; intro v1 w3 hown hgrow _ hat; obtain ⟨g, cap3, rfl⟩ := own_some hown; have hb3 : w3.heap[Bk]? = some (.cells #[.slice A m c] 34 (0, 0)) := (fr_grown hgrow).at_ (blk_alloc' _ (HGX.out.at_ HJ.out.2.2.1)) (fun e => by have := (HJ.out.2.2.2.1.lt Bk e).1; have := HG.out.2.2; omega); have k3 := (blk_cell hb3 0).trans (rfl : _ = some (Value.slice A m c)); have f3 := blk_free hb3 0; have H8 := Lib.hid (And.intro hown hgrow); clear hown hgrow hat hb3)
    obtain ⟨p1, p2⟩ := TJ.put (w0 := w0) (W0 := W0) (W := W) (Wx := wX.alloc (.cells #[.int .i64 x.1] 3)) (u := .slice A m c) (x := x) (f := (·.1)) HG.out.1 HG.out.2.1 HG.out.2.2 HX.out HPX.out HJ.out.1 HJ.out.2.1 (HGX.out.alloc _) HJ.out.2.2.1 HJ.out.2.2.2.2.2.1 H8.out.1 H8.out.2
    exact HR.out _ _ ⟨rfl, p1, p2⟩
  · have HC := Lib.hid hc
    have hpx : oldE now x = false := decide_eq_false hc
    have HPX := Lib.hid hpx
    rw [hpx] at HR
    clear hpx
    go_enter Tryz.func139, Tryz.ntmps139
    go_upto_region 1 with fail
    go_quiet (fail)
    go_wp2_with fail
    refine HR.out _ _ ⟨rfl, ⟨_, HA.out.at_ HJ.out.2.2.1, ?_, fr_grow HJ.out.2.1 (HA.out.drewN nq)⟩, (HA.out.drewN nq).mono fun i _ h => h.elim⟩
    rw [bkJ_succ HX.out, HPX.out]
    exact owns_grow HJ.out.2.2.2.1 (HA.out.drewN nq)
end Go.Proofs.YtcgcljmnnjalpaaGreat
