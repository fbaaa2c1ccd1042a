/- The iterator over all lists of moments: its contract. -/
import Derived.Test.YtacfchepacfjnaaOdP
set_option linter.unusedVariables false
set_option linter.unusedSimpArgs false
namespace Go.Proofs.Ytacfchepacfjnaa
open Go.RowKit Go.Kx Go.Maps Go.Sort Go.Shelf
attribute [local go_sem] Oper.semAt_some
/-- All lists of so many moments. -/
def lsts : Nat → Nat → List (List Int)
  | 0, _ => [[]]
  | n + 1, k => (List.range k).flatMap fun (i : Nat) => (lsts n k).map fun r => Int.ofNat i :: r
def lstsTo (n k i : Nat) : List (List Int) := (List.range i).flatMap fun (i : Nat) => (lsts n k).map fun r => Int.ofNat i :: r
theorem lstsTo_succ (n k i : Nat) : lstsTo n k (i + 1) = lstsTo n k i ++ (lsts n k).map fun r => (i : Int) :: r := by
  unfold lstsTo
  rw [List.range_succ, List.flatMap_append]
  simp
theorem lstsTo_all (n k : Nat) : lstsTo n k k = lsts (n + 1) k := rfl
theorem lstsTo_len (n k : Nat) {i j : Nat} (h : i ≤ j) : (lstsTo n k i).length ≤ (lstsTo n k j).length := by
  induction j with
  | zero => obtain rfl : i = 0 := by omega
            exact Nat.le_refl _
  | succ j ih =>
    by_cases e : i = j + 1
    · subst e; exact Nat.le_refl _
    · rw [lstsTo_succ, List.length_append]
      have := ih (by omega)
      omega
def ownL (Bc Bk : Nat) (k : Nat) : Prop := k = Bc ∨ k = Bk
theorem lists0_seq (d : Nat) (hd : 1 ≤ d) (Bc Bk : Nat) (kk : Nat) (W : World) (hB : Boxed W Bc 3 (.int .i64 0)) :
    SeqM Fence.wide d Try.prog 62 #[.pointer (some ⟨Bc, 0, none⟩), .pointer (some ⟨Bk, 0, none⟩)] (fun x : Elt => #[.slice x.1.1 x.1.2.1 x.1.2.2]) (RdM 0) (fun ys => ys.map Prod.snd = lsts 0 kk) (fun _ => True) 1 (ownL Bc Bk) W := by
  intro lr J Jx M0 hlr hJ hJx hJM hY hown h0
  refine callsIn_of_wp Try.func62 rfl trivial ?_ rfl
  simp only [Try.ntmps62, List.size_toArray, List.length_cons, List.length_nil, Nat.reduceAdd, Nat.reduceSub, Array.replicate_succ, Array.replicate_zero, List.push_toArray, List.append_toArray, List.nil_append, List.cons_append]
  have hc := (hB.alloc (.cells #[.func (.yield lr) #[] #[]] 27)).cell
  have h1 := hJ.alloc (.cells #[.func (.yield lr) #[] #[]] 27) h0
  obtain ⟨fn, tmps, assign, body, hy, hR⟩ := hY [] M0 ((none, 0, 0), []) _ h1 (rdM_nil _ _) (by simp)
  clear hB hY h1 h0 hJ hJM hJx hown
  gi_wp2
  refine hR.mono ?_
  rintro e W3 (⟨rfl, M', hJ3, hst⟩ | ⟨rfl, hJx3, _⟩)
  · have H := Lib.hid hJ3
    clear hJ3 hst
    gi_wp2
    refine bodyPost_ret (results_none rfl _ _ _) rfl ?_
    exact ⟨⟨_, rfl⟩, .inl ⟨_, M', rfl, H.out⟩⟩
  · have H := Lib.hid hJx3
    clear hJx3
    gi_wp2
    refine bodyPost_ret (results_none rfl _ _ _) rfl ?_
    exact ⟨⟨_, rfl⟩, .inr ⟨_, trivial, H.out⟩⟩
theorem lists_in (d : Nat) (a b : Int) (w : World) :
    CallsIn Fence.wide d Try.prog 53 #[.int .i64 a, .int .i64 b] w fun e w' => e = .returned (.func (.func 62) #[] #[.pointer (some ⟨w.heap.size, 0, none⟩), .pointer (some ⟨w.heap.size + 1, 0, none⟩)]) ∧ w' = (w.alloc (.cells #[.int .i64 a] 3)).alloc (.cells #[.int .i64 b] 3) := by
  refine callsIn_of_wp Try.func53 rfl trivial ?_ rfl
  simp only [Try.ntmps53, List.size_toArray, List.length_cons, List.length_nil, Nat.reduceAdd, Nat.reduceSub, Array.replicate_succ, Array.replicate_zero, List.push_toArray, List.append_toArray, List.nil_append, List.cons_append]
  gi_wp2
  go_ret
  exact ⟨rfl, rfl⟩
/-- The contract at lists of one length. -/
def LstsAt (n : Nat) : Prop := ∀ (kk : Nat), kk ≤ 24 → ∀ (d : Nat), 1 ≤ d → ∀ (Bc Bk : Nat) (W : World), Boxed W Bc 3 (.int .i64 (n : Int)) → Boxed W Bk 3 (.int .i64 (kk : Int)) →
  SeqM Fence.wide d Try.prog 62 #[.pointer (some ⟨Bc, 0, none⟩), .pointer (some ⟨Bk, 0, none⟩)] (fun x : Elt => #[.slice x.1.1 x.1.2.1 x.1.2.2]) (RdM n) (fun ys => ys.map Prod.snd = lsts n kk) (fun _ => True) (lsts n kk).length (ownL Bc Bk) W
/-- What the iterator knows between two of its own rounds. -/
structure LstSt (W0 : World) (Bc Bk n kk lr : Nat) (M : Nat → Prop) (ds : List Deferred) (wr : World) : Prop where
  box : Boxed wr Bc 3 (.int .i64 ((n : Int) + 1))
  bok : Boxed wr Bk 3 (.int .i64 (kk : Int))
  yb : Boxed wr W0.heap.size 27 (.func (.yield lr) #[] #[])
  own : ∀ k, ownL Bc Bk k → ¬ M k
  nb : ¬ M W0.heap.size
  lo : W0.heap.size ≤ wr.heap.size
  marks : Marks W0.heap.size ds M wr
section
variable {W0 : World} {Bc Bk n kk lr : Nat} {M M' : Nat → Prop} {ds : List Deferred} {w w' : World}
theorem LstSt.grow (h : LstSt W0 Bc Bk n kk lr M ds w) (hg : Grow w w') : LstSt W0 Bc Bk n kk lr M ds w' :=
  ⟨hg.at_ h.box, hg.at_ h.bok, hg.at_ h.yb, h.own, h.nb, Nat.le_trans h.lo hg.size, h.marks.grow hg⟩
theorem LstSt.step (h : LstSt W0 Bc Bk n kk lr M ds w) (hs : Step M w M' w') : LstSt W0 Bc Bk n kk lr M' ds w' := by
  have hno : ∀ k, k < w.heap.size → ¬ M k → ¬ M' k := fun k hk hm hm' => (hs.sub k hm').elim hm (fun q => by omega)
  refine ⟨hs.fr.at_ h.box (h.own _ (.inl rfl)), hs.fr.at_ h.bok (h.own _ (.inr rfl)), hs.fr.at_ h.yb h.nb, fun k hk => hno k ?_ (h.own k hk), hno _ h.yb.lt h.nb, Nat.le_trans h.lo hs.fr.size, h.marks.fr hs⟩
  rcases hk with rfl | rfl
  · exact h.box.lt
  · exact h.bok.lt
theorem LstSt.turn {U : Nat} {row : Option Nat} (h : LstSt W0 Bc Bk n kk lr M ds w) (hU : ∀ D, ({ target := .collected D, args := #[] } : Deferred) ∈ ds → D < U) (hg : w.grownBy w' row) (hr : ∀ r, row = some r → U ≤ r ∧ ∃ o : Obj, w.heap[r]? = some o ∧ o.isCells = false) : LstSt W0 Bc Bk n kk lr M ds w' := by
  have hr' : ∀ r, row = some r → ∃ o : Obj, w.heap[r]? = some o ∧ o.isCells = false := fun r e => (hr r e).2
  exact ⟨h.box.kept hg (box_noncell h.box hr'), h.bok.kept hg (box_noncell h.bok hr'), h.yb.kept hg (box_noncell h.yb hr'), h.own, h.nb, Nat.le_trans h.lo hg.size, h.marks.turn hU hg (fun r e => (hr r e).1)⟩
end
set_option maxRecDepth 100000 in
set_option maxHeartbeats 4000000 in
theorem lists_step (n : Nat) (hn4 : n + 1 ≤ 2) (ih : LstsAt n) : LstsAt (n + 1) := by
  intro kk hkk d hd Bc Bk W hB hBk lr J Jx M0 hlr hJ hJx hJM hY hown h0
  show CallsIn _ _ _ _ _ _ (SeqP (fun ys : List Elt => ys.map Prod.snd = lsts (n + 1) kk) (fun _ => True) J Jx)
  refine callsIn_wide.2 ((callsIn_wide (n := 20)).1 ?_)
  refine callsIn_of_wp_marks Try.func62 rfl trivial ?_ rfl
  simp only [Try.ntmps62, List.size_toArray, List.length_cons, List.length_nil, Nat.reduceAdd, Nat.reduceSub, Array.replicate_succ, Array.replicate_zero, List.push_toArray, List.append_toArray, List.nil_append, List.cons_append]
  rw [show ((n + 1 : Nat) : Int) = (n : Int) + 1 by omega] at hB
  have hc := (hB.alloc (.cells #[.func (.yield lr) #[] #[]] 27)).cell
  have hck := (hBk.alloc (.cells #[.func (.yield lr) #[] #[]] 27)).cell
  have h1 := hJ.alloc (.cells #[.func (.yield lr) #[] #[]] 27) h0
  have hM0 := hJM _ _ _ h0
  have hst : LstSt W Bc Bk n kk lr M0 [] (W.alloc (.cells #[.func (.yield lr) #[] #[]] 27)) := ⟨hB.alloc _, hBk.alloc _, Boxed.new W 27 _, hown, fun h => by have := hM0 _ h; omega, by rw [World.size_alloc]; omega, Marks.nil _ _ _⟩
  have HS := Lib.hid (And.intro hst h1)
  have HY := Lib.hid hY
  have HJ := Lib.hid (And.intro hJ (And.intro hJx hJM))
  clear hst h1 hB hBk hY hJ hJx hJM h0 hM0 hown
  gi_wp2
  refine wpIn_loop_ghost (fun r a wr => ∃ (i : Nat) (pre : List Elt) (M : Nat → Prop) (ds : List Deferred) (u4 u5 u12 u13 u14 u15 u16 u17 u18 u19 u20 u21 u22 u23 u24 u25 u26 : Value), i ≤ kk ∧ r = kk - i ∧
    Hid (LstSt W Bc Bk n kk lr M ds wr ∧ J pre M wr ∧ pre.map Prod.snd = lstsTo n kk i) ∧
    a = { tmps := #[.func (.yield lr) #[] #[], .pointer (some ⟨Bc, 0, none⟩), .pointer (some ⟨Bk, 0, none⟩), .pointer (some ⟨W.heap.size, 0, none⟩), u4, u5, .int .i64 ((n : Int) + 1), .bool false, undef, undef, .int .i64 (kk : Int), .int .i64 (i : Int), u12, u13, u14, u15, u16, u17, u18, u19, u20, u21, u22, u23, u24, u25, u26], defers := ds }) kk ?start ?round
  case start =>
    refine ⟨0, [], M0, [], _, _, _, _, _, _, _, _, _, _, _, _, _, _, _, _, _, Nat.zero_le _, rfl, ?_, rfl⟩
    exact ⟨HS.out.1, HS.out.2, rfl⟩
  case round =>
    rintro r a wr ⟨i, pre, M, ds, u4, u5, u12, u13, u14, u15, u16, u17, u18, u19, u20, u21, u22, u23, u24, u25, u26, hi, rfl, HX, rfl⟩
    by_cases hlt : i < kk
    · have hlti : (i : Int) < (kk : Int) := by omega
      have hcb := (HX.out.1.box.alloc (.cells #[.int .i64 (i : Int)] 3)).cell
      have hck2 := (HX.out.1.bok.alloc (.cells #[.int .i64 (i : Int)] 3)).cell
      have hf53 : Fence.wide.fn 53 := trivial
      have hMlt := HJ.out.2.2 _ _ _ HX.out.2.1
      have hlo := HX.out.1.lo
      have hU : ∀ D, ({ target := .collected D, args := #[] } : Deferred) ∈ ds → D < wr.heap.size := HX.out.1.marks.lt
      gi_wp2_with (gi_at_call 53; refine (lists_in _ _ _ _).mono ?_; rintro e w' ⟨rfl, rfl⟩)
      go_simp
      have hgA : Grow wr (((wr.alloc (.cells #[.int .i64 (i : Int)] 3)).alloc (.cells #[.int .i64 (n : Int)] 3)).alloc (.cells #[.int .i64 (kk : Int)] 3)) := (((Grow.refl wr).alloc _).alloc _).alloc _
      have hszA : (((wr.alloc (.cells #[.int .i64 (i : Int)] 3)).alloc (.cells #[.int .i64 (n : Int)] 3)).alloc (.cells #[.int .i64 (kk : Int)] 3)).heap.size = wr.heap.size + 3 := by simp
      have hbn : Boxed (((wr.alloc (.cells #[.int .i64 (i : Int)] 3)).alloc (.cells #[.int .i64 (n : Int)] 3)).alloc (.cells #[.int .i64 (kk : Int)] 3)) wr.heap.size 3 (.int .i64 (i : Int)) := ((Boxed.new wr 3 _).alloc _).alloc _
      have hb1 : Boxed (((wr.alloc (.cells #[.int .i64 (i : Int)] 3)).alloc (.cells #[.int .i64 (n : Int)] 3)).alloc (.cells #[.int .i64 (kk : Int)] 3)) (wr.heap.size + 1) 3 (.int .i64 (n : Int)) := by
        have := (Boxed.new (wr.alloc (.cells #[.int .i64 (i : Int)] 3)) 3 (.int .i64 (n : Int))).alloc (.cells #[.int .i64 (kk : Int)] 3)
        rwa [World.size_alloc] at this
      have hb2 : Boxed (((wr.alloc (.cells #[.int .i64 (i : Int)] 3)).alloc (.cells #[.int .i64 (n : Int)] 3)).alloc (.cells #[.int .i64 (kk : Int)] 3)) (wr.heap.size + 1 + 1) 3 (.int .i64 (kk : Int)) := by
        have := Boxed.new ((wr.alloc (.cells #[.int .i64 (i : Int)] 3)).alloc (.cells #[.int .i64 (n : Int)] 3)) 3 (.int .i64 (kk : Int))
        rwa [World.size_alloc, World.size_alloc] at this
      have HA2 := Lib.hid (And.intro hgA (And.intro hbn (And.intro hb1 (And.intro hb2 (And.intro hMlt hU)))))
      clear hgA hbn hb1 hb2 hMlt hU hcb hck2
      generalize (((wr.alloc (.cells #[.int .i64 (i : Int)] 3)).alloc (.cells #[.int .i64 (n : Int)] 3)).alloc (.cells #[.int .i64 (kk : Int)] 3)) = wA at HA2 hszA ⊢
      have e62 := enters_of Try.func62 (by kernel_rfl) rfl
      refine range_outer (α := Elt) (P := Try.prog) rfl (by omega) (gf := 62) (lb := #[.pointer (some ⟨wr.heap.size + 1, 0, none⟩), .pointer (some ⟨wr.heap.size + 1 + 1, 0, none⟩)]) rfl trivial e62
        (fun W' hg _ => ih kk hkk 19 (by omega) (wr.heap.size + 1) (wr.heap.size + 1 + 1) W' (hg.at_ HA2.out.2.2.1) (hg.at_ HA2.out.2.2.2.1)) (fun _ => rfl)
        (fun pre' M' W' => ∃ pre2 : List Elt, pre2.map Prod.snd = pre'.map (fun r => (i : Int) :: r.2) ∧ J (pre ++ pre2) M' W' ∧ LstSt W Bc Bk n kk lr M' ds W' ∧ Boxed W' wr.heap.size 3 (.int .i64 (i : Int)) ∧ ¬ M' wr.heap.size)
        (fun c pre' W' => c = .ret ∧ (∃ q, Jx q W') ∧ Marks W.heap.size ds (fun _ => False) W') ?hI ?hIx ?hIM (fun x' M' => rdM_keeps n x' M' _) M ?hM0 ?h0
        (fun x' a' _ => a' = { tmps := #[.func (.yield lr) #[] #[], .pointer (some ⟨Bc, 0, none⟩), .pointer (some ⟨Bk, 0, none⟩), .pointer (some ⟨W.heap.size, 0, none⟩), .pointer (some ⟨wr.heap.size, 0, none⟩), .slice x'.1.1 x'.1.2.1 x'.1.2.2, .int .i64 ((n : Int) + 1), .bool false, undef, undef, .int .i64 (kk : Int), .int .i64 (i : Int), .bool true, .int .i64 (i : Int), .int .i64 ((n : Int) + 1), .int .i64 (n : Int), .int .i64 (kk : Int), .func (.func 62) #[] #[.pointer (some ⟨wr.heap.size + 1, 0, none⟩), .pointer (some ⟨wr.heap.size + 1 + 1, 0, none⟩)], .slice x'.1.1 x'.1.2.1 x'.1.2.2, u19, u20, u21, u22, u23, u24, u25, u26], defers := [] }) (fun _ _ _ _ _ _ h _ _ => h) ?assign ?body ?done ?stop
      case hI =>
        rintro pre' M' X X' row ⟨pre2, h1, h2, h3, h4, h5⟩ hg hr
        have hr' : ∀ r, row = some r → ∃ o : Obj, X.heap[r]? = some o ∧ o.isCells = false := fun r e => (hr r e).2
        exact ⟨pre2, h1, HJ.out.1.later (by omega) _ _ _ _ _ h2 hg hr, h3.turn (fun D hD => by have := HA2.out.2.2.2.2.2 D hD; omega : ∀ D, ({ target := .collected D, args := #[] } : Deferred) ∈ ds → D < wA.heap.size) hg hr, h4.kept hg (box_noncell h4 hr'), h5⟩
      case hIx =>
        rintro c pre' X X' row ⟨h1, ⟨q, h2⟩, h3⟩ hg hr
        exact ⟨h1, ⟨q, own_later HJ.out.2.1 (by omega) q X X' row h2 hg hr⟩, h3.turn (fun D hD => by have := HA2.out.2.2.2.2.2 D hD; omega : ∀ D, ({ target := .collected D, args := #[] } : Deferred) ∈ ds → D < wA.heap.size) hg (fun r e => (hr r e).1)⟩
      case hIM =>
        rintro pre' M' X ⟨pre2, _, h2, _⟩
        exact HJ.out.2.2 _ _ _ h2
      case hM0 =>
        rintro k (rfl | rfl) hM
        · have := HA2.out.2.2.2.2.1 _ hM; omega
        · have := HA2.out.2.2.2.2.1 _ hM; omega
      case h0 => exact ⟨[], rfl, by rw [List.append_nil]; exact keeps_grow HJ.out.1 HX.out.2.1 HA2.out.1, HX.out.1.grow HA2.out.1, HA2.out.2.1, fun h => by have := HA2.out.2.2.2.2.1 _ h; omega⟩
      case assign =>
        intro lq pre' M' x' X K hi' hrd' hK
        have HK := Lib.hid (hK _ M' X (Step.refl _ _) hi' hrd' rfl)
        clear hK hi' hrd'
        gi_wp2
        exact HK.out
      case body =>
        rintro l' pre' M' x' a' X hMl hl ⟨pre2, h1, h2, h3, h4, h5⟩ hrd rfl hlen
        have hcy := h3.yb.cell
        have hcn := h4.cell
        have hxn : x'.2.length = n := hrd.1.2
        have hxl : x'.2.length ≤ 100 := by omega
        obtain ⟨g, cp, w', hr, hown, hgr⟩ := app_run X.drew (i : Int) x' hrd.1.1 hxl
        have hgr' : Grow X w' := ((Grow.refl X).drew).trans hgr
        have hcy2 := (h3.yb.alloc (.cells #[.int .i64 (i : Int)] 3)).cell
        have hcy3 := hgr'.cell hcy
        have hj2 := keeps_grow HJ.out.1 h2 hgr'
        have hXM := HJ.out.2.2 _ _ _ h2
        obtain ⟨y, hy0⟩ : ∃ y : Elt, y = ((some ⟨g, 0, none⟩, x'.2.length + 1, cp), (i : Int) :: x'.2) := ⟨_, rfl⟩
        have hry : RdM (n + 1) y M' w' := by
          rw [hy0]
          refine ⟨⟨own_base_le hown (Nat.zero_le _), by simp [hxn]⟩, fun k hk => ?_⟩
          have := hown.lt k hk
          have hd : X.drew.heap.size = X.heap.size := rfl
          exact ⟨this.2, fun hM => by have := hXM k hM; omega⟩
        have hlen2 : (pre ++ pre2).length < (lsts (n + 1) kk).length := by
          have e1 : pre.length = (lstsTo n kk i).length := by rw [← HX.out.2.2, List.length_map]
          have e2 : pre2.length = pre'.length := by have := congrArg List.length h1; simpa using this
          have e3 := lstsTo_len n kk (i := i + 1) (j := kk) (by omega)
          rw [lstsTo_succ, List.length_append, List.length_map, lstsTo_all] at e3
          rw [List.length_append]
          omega
        have hyy := yield_any 17 (HY.out _ M' y w' hj2 hry hlen2)
        rw [hy0] at hyy
        obtain ⟨fn, tmps, assign, body, hy, hR⟩ := hyy
        rw [← hy0] at hR
        have hmix2 : Try.prog.follows .mixedOrders = true := by kernel_rfl
        have HB := Lib.hid (And.intro h1 (And.intro h3 (And.intro h4 (And.intro h5 (And.intro hgr' hy0)))))
        have HR8 := Lib.hid hR
        clear h1 h2 h3 h4 h5 hrd hlen hgr hgr' hj2 hXM hry hlen2 hown hy0 hR hxn hxl
        gi_wp2
        refine wpIn_mono (Q := Post8 (fun r W3 => Hid (Out8 J Jx ((pre ++ pre2) ++ [y]) M' lr w' r W3)) (fun r => { tmps := #[.func (.yield lr) #[] #[], .pointer (some ⟨Bc, 0, none⟩), .pointer (some ⟨Bk, 0, none⟩), .pointer (some ⟨W.heap.size, 0, none⟩), .pointer (some ⟨wr.heap.size, 0, none⟩), .slice x'.1.1 x'.1.2.1 x'.1.2.2, .int .i64 ((n : Int) + 1), .bool false, undef, undef, .int .i64 (kk : Int), .int .i64 (i : Int), .bool true, .int .i64 (i : Int), .int .i64 ((n : Int) + 1), .int .i64 (n : Int), .int .i64 (kk : Int), .func (.func 62) #[] #[.pointer (some ⟨wr.heap.size + 1, 0, none⟩), .pointer (some ⟨wr.heap.size + 1 + 1, 0, none⟩)], .slice x'.1.1 x'.1.2.1 x'.1.2.2, .func (.yield lr) #[] #[], .int .i64 (i : Int), .slice (some ⟨X.heap.size, 0, none⟩) 1 1, .slice x'.1.1 x'.1.2.1 x'.1.2.2, .slice (some ⟨g, 0, none⟩) (x'.2.length + 1) cp, .bool r, .bool (!r), u26], defers := [] })) ?reg8 ?cont8
        case reg8 =>
          refine wpIn_region_any hmix2 ?_
          try (change wpAnyIn _ _ _ _ _ _ _ _ _ (World.drew _))
          refine wpAnyIn_ready (rs := [0, 1, 3]) (by kernel_rfl) (by simp) ?_
          refine AllReadyIn.cons rfl (fun K hK => ?_) ?_
          · go_simp
            refine hK _ _ ?_; clear hK K
            refine wpAnyIn_ready (rs := [1, 3]) (by kernel_rfl) (by simp) ?_
            refine AllReadyIn.cons rfl (fun K hK => ?_) ?_
            · go_simp
              refine hK _ _ ?_; clear hK K
              refine wpAnyIn_ready (rs := [2, 3]) (by kernel_rfl) (by simp) ?_
              refine AllReadyIn.cons rfl (fun K hK => ?_) ?_
              · go_simp
                refine hK _ _ ?_; clear hK K
                refine wpAnyIn_ready (rs := [3]) (by kernel_rfl) (by simp) ?_
                refine AllReadyIn.cons rfl (fun K hK => ?_) ?_
                · go_simp
                  refine hK _ _ ?_; clear hK K
                  refine wpAnyIn_ready (rs := [4]) (by kernel_rfl) (by simp) ?_
                  refine AllReadyIn.cons rfl (fun K hK => ?_) ?_
                  · refine step_append_in rfl (.tmp 21) (.tmp 22) 22 rfl _ _ rfl rfl hr ?_
                    refine hK _ _ ?_; clear hK K
                    refine wpAnyIn_ready (rs := [5]) (by kernel_rfl) (by simp) ?_
                    refine AllReadyIn.cons rfl (fun K hK => ?_) ?_
                    · go_simp
                      first | (refine HR8.out.mono ?_; skip) | skip
                      rintro e W3 hj
                      obtain ⟨r, rfl, HJ3⟩ : ∃ r : Bool, e = .returned (.bool r) ∧ Hid (Out8 J Jx ((pre ++ pre2) ++ [y]) M' lr w' r W3) := by
                        rcases hj with ⟨rfl, hj⟩ | ⟨rfl, hj⟩
                        · exact ⟨true, rfl, hj⟩
                        · exact ⟨false, rfl, hj⟩
                      clear hj
                      go_simp
                      refine hK _ _ ?_; clear hK K
                      refine wpAnyIn_ready (rs := [6]) (by kernel_rfl) (by simp) ?_
                      refine AllReadyIn.cons rfl (fun K hK => ?_) ?_
                      · go_simp
                        refine hK _ _ ?_; clear hK K
                        refine wpAnyIn_done (by kernel_rfl) ?_ _
                        exact Post8.mk HJ3 rfl
                      exact AllReadyIn.nil
                    exact AllReadyIn.nil
                  exact AllReadyIn.nil
                exact AllReadyIn.nil
              refine AllReadyIn.cons rfl (fun K hK => ?_) ?_
              · go_simp
                refine hK _ _ ?_; clear hK K
                refine wpAnyIn_ready (rs := [2]) (by kernel_rfl) (by simp) ?_
                refine AllReadyIn.cons rfl (fun K hK => ?_) ?_
                · go_simp
                  refine hK _ _ ?_; clear hK K
                  refine wpAnyIn_ready (rs := [4]) (by kernel_rfl) (by simp) ?_
                  refine AllReadyIn.cons rfl (fun K hK => ?_) ?_
                  · refine step_append_in rfl (.tmp 21) (.tmp 22) 22 rfl _ _ rfl rfl hr ?_
                    refine hK _ _ ?_; clear hK K
                    refine wpAnyIn_ready (rs := [5]) (by kernel_rfl) (by simp) ?_
                    refine AllReadyIn.cons rfl (fun K hK => ?_) ?_
                    · go_simp
                      first | (refine HR8.out.mono ?_; skip) | skip
                      rintro e W3 hj
                      obtain ⟨r, rfl, HJ3⟩ : ∃ r : Bool, e = .returned (.bool r) ∧ Hid (Out8 J Jx ((pre ++ pre2) ++ [y]) M' lr w' r W3) := by
                        rcases hj with ⟨rfl, hj⟩ | ⟨rfl, hj⟩
                        · exact ⟨true, rfl, hj⟩
                        · exact ⟨false, rfl, hj⟩
                      clear hj
                      go_simp
                      refine hK _ _ ?_; clear hK K
                      refine wpAnyIn_ready (rs := [6]) (by kernel_rfl) (by simp) ?_
                      refine AllReadyIn.cons rfl (fun K hK => ?_) ?_
                      · go_simp
                        refine hK _ _ ?_; clear hK K
                        refine wpAnyIn_done (by kernel_rfl) ?_ _
                        exact Post8.mk HJ3 rfl
                      exact AllReadyIn.nil
                    exact AllReadyIn.nil
                  exact AllReadyIn.nil
                exact AllReadyIn.nil
              exact AllReadyIn.nil
            refine AllReadyIn.cons rfl (fun K hK => ?_) ?_
            · go_simp
              refine hK _ _ ?_; clear hK K
              refine wpAnyIn_ready (rs := [1]) (by kernel_rfl) (by simp) ?_
              refine AllReadyIn.cons rfl (fun K hK => ?_) ?_
              · go_simp
                refine hK _ _ ?_; clear hK K
                refine wpAnyIn_ready (rs := [2]) (by kernel_rfl) (by simp) ?_
                refine AllReadyIn.cons rfl (fun K hK => ?_) ?_
                · go_simp
                  refine hK _ _ ?_; clear hK K
                  refine wpAnyIn_ready (rs := [4]) (by kernel_rfl) (by simp) ?_
                  refine AllReadyIn.cons rfl (fun K hK => ?_) ?_
                  · refine step_append_in rfl (.tmp 21) (.tmp 22) 22 rfl _ _ rfl rfl hr ?_
                    refine hK _ _ ?_; clear hK K
                    refine wpAnyIn_ready (rs := [5]) (by kernel_rfl) (by simp) ?_
                    refine AllReadyIn.cons rfl (fun K hK => ?_) ?_
                    · go_simp
                      first | (refine HR8.out.mono ?_; skip) | skip
                      rintro e W3 hj
                      obtain ⟨r, rfl, HJ3⟩ : ∃ r : Bool, e = .returned (.bool r) ∧ Hid (Out8 J Jx ((pre ++ pre2) ++ [y]) M' lr w' r W3) := by
                        rcases hj with ⟨rfl, hj⟩ | ⟨rfl, hj⟩
                        · exact ⟨true, rfl, hj⟩
                        · exact ⟨false, rfl, hj⟩
                      clear hj
                      go_simp
                      refine hK _ _ ?_; clear hK K
                      refine wpAnyIn_ready (rs := [6]) (by kernel_rfl) (by simp) ?_
                      refine AllReadyIn.cons rfl (fun K hK => ?_) ?_
                      · go_simp
                        refine hK _ _ ?_; clear hK K
                        refine wpAnyIn_done (by kernel_rfl) ?_ _
                        exact Post8.mk HJ3 rfl
                      exact AllReadyIn.nil
                    exact AllReadyIn.nil
                  exact AllReadyIn.nil
                exact AllReadyIn.nil
              exact AllReadyIn.nil
            exact AllReadyIn.nil
          refine AllReadyIn.cons rfl (fun K hK => ?_) ?_
          · go_simp
            refine hK _ _ ?_; clear hK K
            refine wpAnyIn_ready (rs := [0, 2, 3]) (by kernel_rfl) (by simp) ?_
            refine AllReadyIn.cons rfl (fun K hK => ?_) ?_
            · go_simp
              refine hK _ _ ?_; clear hK K
              refine wpAnyIn_ready (rs := [2, 3]) (by kernel_rfl) (by simp) ?_
              refine AllReadyIn.cons rfl (fun K hK => ?_) ?_
              · go_simp
                refine hK _ _ ?_; clear hK K
                refine wpAnyIn_ready (rs := [3]) (by kernel_rfl) (by simp) ?_
                refine AllReadyIn.cons rfl (fun K hK => ?_) ?_
                · go_simp
                  refine hK _ _ ?_; clear hK K
                  refine wpAnyIn_ready (rs := [4]) (by kernel_rfl) (by simp) ?_
                  refine AllReadyIn.cons rfl (fun K hK => ?_) ?_
                  · refine step_append_in rfl (.tmp 21) (.tmp 22) 22 rfl _ _ rfl rfl hr ?_
                    refine hK _ _ ?_; clear hK K
                    refine wpAnyIn_ready (rs := [5]) (by kernel_rfl) (by simp) ?_
                    refine AllReadyIn.cons rfl (fun K hK => ?_) ?_
                    · go_simp
                      first | (refine HR8.out.mono ?_; skip) | skip
                      rintro e W3 hj
                      obtain ⟨r, rfl, HJ3⟩ : ∃ r : Bool, e = .returned (.bool r) ∧ Hid (Out8 J Jx ((pre ++ pre2) ++ [y]) M' lr w' r W3) := by
                        rcases hj with ⟨rfl, hj⟩ | ⟨rfl, hj⟩
                        · exact ⟨true, rfl, hj⟩
                        · exact ⟨false, rfl, hj⟩
                      clear hj
                      go_simp
                      refine hK _ _ ?_; clear hK K
                      refine wpAnyIn_ready (rs := [6]) (by kernel_rfl) (by simp) ?_
                      refine AllReadyIn.cons rfl (fun K hK => ?_) ?_
                      · go_simp
                        refine hK _ _ ?_; clear hK K
                        refine wpAnyIn_done (by kernel_rfl) ?_ _
                        exact Post8.mk HJ3 rfl
                      exact AllReadyIn.nil
                    exact AllReadyIn.nil
                  exact AllReadyIn.nil
                exact AllReadyIn.nil
              refine AllReadyIn.cons rfl (fun K hK => ?_) ?_
              · go_simp
                refine hK _ _ ?_; clear hK K
                refine wpAnyIn_ready (rs := [2]) (by kernel_rfl) (by simp) ?_
                refine AllReadyIn.cons rfl (fun K hK => ?_) ?_
                · go_simp
                  refine hK _ _ ?_; clear hK K
                  refine wpAnyIn_ready (rs := [4]) (by kernel_rfl) (by simp) ?_
                  refine AllReadyIn.cons rfl (fun K hK => ?_) ?_
                  · refine step_append_in rfl (.tmp 21) (.tmp 22) 22 rfl _ _ rfl rfl hr ?_
                    refine hK _ _ ?_; clear hK K
                    refine wpAnyIn_ready (rs := [5]) (by kernel_rfl) (by simp) ?_
                    refine AllReadyIn.cons rfl (fun K hK => ?_) ?_
                    · go_simp
                      first | (refine HR8.out.mono ?_; skip) | skip
                      rintro e W3 hj
                      obtain ⟨r, rfl, HJ3⟩ : ∃ r : Bool, e = .returned (.bool r) ∧ Hid (Out8 J Jx ((pre ++ pre2) ++ [y]) M' lr w' r W3) := by
                        rcases hj with ⟨rfl, hj⟩ | ⟨rfl, hj⟩
                        · exact ⟨true, rfl, hj⟩
                        · exact ⟨false, rfl, hj⟩
                      clear hj
                      go_simp
                      refine hK _ _ ?_; clear hK K
                      refine wpAnyIn_ready (rs := [6]) (by kernel_rfl) (by simp) ?_
                      refine AllReadyIn.cons rfl (fun K hK => ?_) ?_
                      · go_simp
                        refine hK _ _ ?_; clear hK K
                        refine wpAnyIn_done (by kernel_rfl) ?_ _
                        exact Post8.mk HJ3 rfl
                      exact AllReadyIn.nil
                    exact AllReadyIn.nil
                  exact AllReadyIn.nil
                exact AllReadyIn.nil
              exact AllReadyIn.nil
            refine AllReadyIn.cons rfl (fun K hK => ?_) ?_
            · go_simp
              refine hK _ _ ?_; clear hK K
              refine wpAnyIn_ready (rs := [0, 3]) (by kernel_rfl) (by simp) ?_
              refine AllReadyIn.cons rfl (fun K hK => ?_) ?_
              · go_simp
                refine hK _ _ ?_; clear hK K
                refine wpAnyIn_ready (rs := [3]) (by kernel_rfl) (by simp) ?_
                refine AllReadyIn.cons rfl (fun K hK => ?_) ?_
                · go_simp
                  refine hK _ _ ?_; clear hK K
                  refine wpAnyIn_ready (rs := [4]) (by kernel_rfl) (by simp) ?_
                  refine AllReadyIn.cons rfl (fun K hK => ?_) ?_
                  · refine step_append_in rfl (.tmp 21) (.tmp 22) 22 rfl _ _ rfl rfl hr ?_
                    refine hK _ _ ?_; clear hK K
                    refine wpAnyIn_ready (rs := [5]) (by kernel_rfl) (by simp) ?_
                    refine AllReadyIn.cons rfl (fun K hK => ?_) ?_
                    · go_simp
                      first | (refine HR8.out.mono ?_; skip) | skip
                      rintro e W3 hj
                      obtain ⟨r, rfl, HJ3⟩ : ∃ r : Bool, e = .returned (.bool r) ∧ Hid (Out8 J Jx ((pre ++ pre2) ++ [y]) M' lr w' r W3) := by
                        rcases hj with ⟨rfl, hj⟩ | ⟨rfl, hj⟩
                        · exact ⟨true, rfl, hj⟩
                        · exact ⟨false, rfl, hj⟩
                      clear hj
                      go_simp
                      refine hK _ _ ?_; clear hK K
                      refine wpAnyIn_ready (rs := [6]) (by kernel_rfl) (by simp) ?_
                      refine AllReadyIn.cons rfl (fun K hK => ?_) ?_
                      · go_simp
                        refine hK _ _ ?_; clear hK K
                        refine wpAnyIn_done (by kernel_rfl) ?_ _
                        exact Post8.mk HJ3 rfl
                      exact AllReadyIn.nil
                    exact AllReadyIn.nil
                  exact AllReadyIn.nil
                exact AllReadyIn.nil
              refine AllReadyIn.cons rfl (fun K hK => ?_) ?_
              · go_simp
                refine hK _ _ ?_; clear hK K
                refine wpAnyIn_ready (rs := [0, 4]) (by kernel_rfl) (by simp) ?_
                refine AllReadyIn.cons rfl (fun K hK => ?_) ?_
                · go_simp
                  refine hK _ _ ?_; clear hK K
                  refine wpAnyIn_ready (rs := [4]) (by kernel_rfl) (by simp) ?_
                  refine AllReadyIn.cons rfl (fun K hK => ?_) ?_
                  · refine step_append_in rfl (.tmp 21) (.tmp 22) 22 rfl _ _ rfl rfl hr ?_
                    refine hK _ _ ?_; clear hK K
                    refine wpAnyIn_ready (rs := [5]) (by kernel_rfl) (by simp) ?_
                    refine AllReadyIn.cons rfl (fun K hK => ?_) ?_
                    · go_simp
                      first | (refine HR8.out.mono ?_; skip) | skip
                      rintro e W3 hj
                      obtain ⟨r, rfl, HJ3⟩ : ∃ r : Bool, e = .returned (.bool r) ∧ Hid (Out8 J Jx ((pre ++ pre2) ++ [y]) M' lr w' r W3) := by
                        rcases hj with ⟨rfl, hj⟩ | ⟨rfl, hj⟩
                        · exact ⟨true, rfl, hj⟩
                        · exact ⟨false, rfl, hj⟩
                      clear hj
                      go_simp
                      refine hK _ _ ?_; clear hK K
                      refine wpAnyIn_ready (rs := [6]) (by kernel_rfl) (by simp) ?_
                      refine AllReadyIn.cons rfl (fun K hK => ?_) ?_
                      · go_simp
                        refine hK _ _ ?_; clear hK K
                        refine wpAnyIn_done (by kernel_rfl) ?_ _
                        exact Post8.mk HJ3 rfl
                      exact AllReadyIn.nil
                    exact AllReadyIn.nil
                  exact AllReadyIn.nil
                refine AllReadyIn.cons rfl (fun K hK => ?_) ?_
                · refine step_append_in rfl (.tmp 21) (.tmp 22) 22 rfl _ _ rfl rfl hr ?_
                  refine hK _ _ ?_; clear hK K
                  refine wpAnyIn_ready (rs := [0]) (by kernel_rfl) (by simp) ?_
                  refine AllReadyIn.cons rfl (fun K hK => ?_) ?_
                  · go_simp
                    refine hK _ _ ?_; clear hK K
                    refine wpAnyIn_ready (rs := [5]) (by kernel_rfl) (by simp) ?_
                    refine AllReadyIn.cons rfl (fun K hK => ?_) ?_
                    · go_simp
                      first | (refine HR8.out.mono ?_; skip) | skip
                      rintro e W3 hj
                      obtain ⟨r, rfl, HJ3⟩ : ∃ r : Bool, e = .returned (.bool r) ∧ Hid (Out8 J Jx ((pre ++ pre2) ++ [y]) M' lr w' r W3) := by
                        rcases hj with ⟨rfl, hj⟩ | ⟨rfl, hj⟩
                        · exact ⟨true, rfl, hj⟩
                        · exact ⟨false, rfl, hj⟩
                      clear hj
                      go_simp
                      refine hK _ _ ?_; clear hK K
                      refine wpAnyIn_ready (rs := [6]) (by kernel_rfl) (by simp) ?_
                      refine AllReadyIn.cons rfl (fun K hK => ?_) ?_
                      · go_simp
                        refine hK _ _ ?_; clear hK K
                        refine wpAnyIn_done (by kernel_rfl) ?_ _
                        exact Post8.mk HJ3 rfl
                      exact AllReadyIn.nil
                    exact AllReadyIn.nil
                  exact AllReadyIn.nil
                exact AllReadyIn.nil
              exact AllReadyIn.nil
            refine AllReadyIn.cons rfl (fun K hK => ?_) ?_
            · go_simp
              refine hK _ _ ?_; clear hK K
              refine wpAnyIn_ready (rs := [0, 2]) (by kernel_rfl) (by simp) ?_
              refine AllReadyIn.cons rfl (fun K hK => ?_) ?_
              · go_simp
                refine hK _ _ ?_; clear hK K
                refine wpAnyIn_ready (rs := [2]) (by kernel_rfl) (by simp) ?_
                refine AllReadyIn.cons rfl (fun K hK => ?_) ?_
                · go_simp
                  refine hK _ _ ?_; clear hK K
                  refine wpAnyIn_ready (rs := [4]) (by kernel_rfl) (by simp) ?_
                  refine AllReadyIn.cons rfl (fun K hK => ?_) ?_
                  · refine step_append_in rfl (.tmp 21) (.tmp 22) 22 rfl _ _ rfl rfl hr ?_
                    refine hK _ _ ?_; clear hK K
                    refine wpAnyIn_ready (rs := [5]) (by kernel_rfl) (by simp) ?_
                    refine AllReadyIn.cons rfl (fun K hK => ?_) ?_
                    · go_simp
                      first | (refine HR8.out.mono ?_; skip) | skip
                      rintro e W3 hj
                      obtain ⟨r, rfl, HJ3⟩ : ∃ r : Bool, e = .returned (.bool r) ∧ Hid (Out8 J Jx ((pre ++ pre2) ++ [y]) M' lr w' r W3) := by
                        rcases hj with ⟨rfl, hj⟩ | ⟨rfl, hj⟩
                        · exact ⟨true, rfl, hj⟩
                        · exact ⟨false, rfl, hj⟩
                      clear hj
                      go_simp
                      refine hK _ _ ?_; clear hK K
                      refine wpAnyIn_ready (rs := [6]) (by kernel_rfl) (by simp) ?_
                      refine AllReadyIn.cons rfl (fun K hK => ?_) ?_
                      · go_simp
                        refine hK _ _ ?_; clear hK K
                        refine wpAnyIn_done (by kernel_rfl) ?_ _
                        exact Post8.mk HJ3 rfl
                      exact AllReadyIn.nil
                    exact AllReadyIn.nil
                  exact AllReadyIn.nil
                exact AllReadyIn.nil
              refine AllReadyIn.cons rfl (fun K hK => ?_) ?_
              · go_simp
                refine hK _ _ ?_; clear hK K
                refine wpAnyIn_ready (rs := [0, 4]) (by kernel_rfl) (by simp) ?_
                refine AllReadyIn.cons rfl (fun K hK => ?_) ?_
                · go_simp
                  refine hK _ _ ?_; clear hK K
                  refine wpAnyIn_ready (rs := [4]) (by kernel_rfl) (by simp) ?_
                  refine AllReadyIn.cons rfl (fun K hK => ?_) ?_
                  · refine step_append_in rfl (.tmp 21) (.tmp 22) 22 rfl _ _ rfl rfl hr ?_
                    refine hK _ _ ?_; clear hK K
                    refine wpAnyIn_ready (rs := [5]) (by kernel_rfl) (by simp) ?_
                    refine AllReadyIn.cons rfl (fun K hK => ?_) ?_
                    · go_simp
                      first | (refine HR8.out.mono ?_; skip) | skip
                      rintro e W3 hj
                      obtain ⟨r, rfl, HJ3⟩ : ∃ r : Bool, e = .returned (.bool r) ∧ Hid (Out8 J Jx ((pre ++ pre2) ++ [y]) M' lr w' r W3) := by
                        rcases hj with ⟨rfl, hj⟩ | ⟨rfl, hj⟩
                        · exact ⟨true, rfl, hj⟩
                        · exact ⟨false, rfl, hj⟩
                      clear hj
                      go_simp
                      refine hK _ _ ?_; clear hK K
                      refine wpAnyIn_ready (rs := [6]) (by kernel_rfl) (by simp) ?_
                      refine AllReadyIn.cons rfl (fun K hK => ?_) ?_
                      · go_simp
                        refine hK _ _ ?_; clear hK K
                        refine wpAnyIn_done (by kernel_rfl) ?_ _
                        exact Post8.mk HJ3 rfl
                      exact AllReadyIn.nil
                    exact AllReadyIn.nil
                  exact AllReadyIn.nil
                refine AllReadyIn.cons rfl (fun K hK => ?_) ?_
                · refine step_append_in rfl (.tmp 21) (.tmp 22) 22 rfl _ _ rfl rfl hr ?_
                  refine hK _ _ ?_; clear hK K
                  refine wpAnyIn_ready (rs := [0]) (by kernel_rfl) (by simp) ?_
                  refine AllReadyIn.cons rfl (fun K hK => ?_) ?_
                  · go_simp
                    refine hK _ _ ?_; clear hK K
                    refine wpAnyIn_ready (rs := [5]) (by kernel_rfl) (by simp) ?_
                    refine AllReadyIn.cons rfl (fun K hK => ?_) ?_
                    · go_simp
                      first | (refine HR8.out.mono ?_; skip) | skip
                      rintro e W3 hj
                      obtain ⟨r, rfl, HJ3⟩ : ∃ r : Bool, e = .returned (.bool r) ∧ Hid (Out8 J Jx ((pre ++ pre2) ++ [y]) M' lr w' r W3) := by
                        rcases hj with ⟨rfl, hj⟩ | ⟨rfl, hj⟩
                        · exact ⟨true, rfl, hj⟩
                        · exact ⟨false, rfl, hj⟩
                      clear hj
                      go_simp
                      refine hK _ _ ?_; clear hK K
                      refine wpAnyIn_ready (rs := [6]) (by kernel_rfl) (by simp) ?_
                      refine AllReadyIn.cons rfl (fun K hK => ?_) ?_
                      · go_simp
                        refine hK _ _ ?_; clear hK K
                        refine wpAnyIn_done (by kernel_rfl) ?_ _
                        exact Post8.mk HJ3 rfl
                      exact AllReadyIn.nil
                    exact AllReadyIn.nil
                  exact AllReadyIn.nil
                exact AllReadyIn.nil
              exact AllReadyIn.nil
            exact AllReadyIn.nil
          refine AllReadyIn.cons rfl (fun K hK => ?_) ?_
          · go_simp
            refine hK _ _ ?_; clear hK K
            refine wpAnyIn_ready (rs := [0, 1]) (by kernel_rfl) (by simp) ?_
            refine AllReadyIn.cons rfl (fun K hK => ?_) ?_
            · go_simp
              refine hK _ _ ?_; clear hK K
              refine wpAnyIn_ready (rs := [1]) (by kernel_rfl) (by simp) ?_
              refine AllReadyIn.cons rfl (fun K hK => ?_) ?_
              · go_simp
                refine hK _ _ ?_; clear hK K
                refine wpAnyIn_ready (rs := [2]) (by kernel_rfl) (by simp) ?_
                refine AllReadyIn.cons rfl (fun K hK => ?_) ?_
                · go_simp
                  refine hK _ _ ?_; clear hK K
                  refine wpAnyIn_ready (rs := [4]) (by kernel_rfl) (by simp) ?_
                  refine AllReadyIn.cons rfl (fun K hK => ?_) ?_
                  · refine step_append_in rfl (.tmp 21) (.tmp 22) 22 rfl _ _ rfl rfl hr ?_
                    refine hK _ _ ?_; clear hK K
                    refine wpAnyIn_ready (rs := [5]) (by kernel_rfl) (by simp) ?_
                    refine AllReadyIn.cons rfl (fun K hK => ?_) ?_
                    · go_simp
                      first | (refine HR8.out.mono ?_; skip) | skip
                      rintro e W3 hj
                      obtain ⟨r, rfl, HJ3⟩ : ∃ r : Bool, e = .returned (.bool r) ∧ Hid (Out8 J Jx ((pre ++ pre2) ++ [y]) M' lr w' r W3) := by
                        rcases hj with ⟨rfl, hj⟩ | ⟨rfl, hj⟩
                        · exact ⟨true, rfl, hj⟩
                        · exact ⟨false, rfl, hj⟩
                      clear hj
                      go_simp
                      refine hK _ _ ?_; clear hK K
                      refine wpAnyIn_ready (rs := [6]) (by kernel_rfl) (by simp) ?_
                      refine AllReadyIn.cons rfl (fun K hK => ?_) ?_
                      · go_simp
                        refine hK _ _ ?_; clear hK K
                        refine wpAnyIn_done (by kernel_rfl) ?_ _
                        exact Post8.mk HJ3 rfl
                      exact AllReadyIn.nil
                    exact AllReadyIn.nil
                  exact AllReadyIn.nil
                exact AllReadyIn.nil
              exact AllReadyIn.nil
            refine AllReadyIn.cons rfl (fun K hK => ?_) ?_
            · go_simp
              refine hK _ _ ?_; clear hK K
              refine wpAnyIn_ready (rs := [0, 2]) (by kernel_rfl) (by simp) ?_
              refine AllReadyIn.cons rfl (fun K hK => ?_) ?_
              · go_simp
                refine hK _ _ ?_; clear hK K
                refine wpAnyIn_ready (rs := [2]) (by kernel_rfl) (by simp) ?_
                refine AllReadyIn.cons rfl (fun K hK => ?_) ?_
                · go_simp
                  refine hK _ _ ?_; clear hK K
                  refine wpAnyIn_ready (rs := [4]) (by kernel_rfl) (by simp) ?_
                  refine AllReadyIn.cons rfl (fun K hK => ?_) ?_
                  · refine step_append_in rfl (.tmp 21) (.tmp 22) 22 rfl _ _ rfl rfl hr ?_
                    refine hK _ _ ?_; clear hK K
                    refine wpAnyIn_ready (rs := [5]) (by kernel_rfl) (by simp) ?_
                    refine AllReadyIn.cons rfl (fun K hK => ?_) ?_
                    · go_simp
                      first | (refine HR8.out.mono ?_; skip) | skip
                      rintro e W3 hj
                      obtain ⟨r, rfl, HJ3⟩ : ∃ r : Bool, e = .returned (.bool r) ∧ Hid (Out8 J Jx ((pre ++ pre2) ++ [y]) M' lr w' r W3) := by
                        rcases hj with ⟨rfl, hj⟩ | ⟨rfl, hj⟩
                        · exact ⟨true, rfl, hj⟩
                        · exact ⟨false, rfl, hj⟩
                      clear hj
                      go_simp
                      refine hK _ _ ?_; clear hK K
                      refine wpAnyIn_ready (rs := [6]) (by kernel_rfl) (by simp) ?_
                      refine AllReadyIn.cons rfl (fun K hK => ?_) ?_
                      · go_simp
                        refine hK _ _ ?_; clear hK K
                        refine wpAnyIn_done (by kernel_rfl) ?_ _
                        exact Post8.mk HJ3 rfl
                      exact AllReadyIn.nil
                    exact AllReadyIn.nil
                  exact AllReadyIn.nil
                exact AllReadyIn.nil
              refine AllReadyIn.cons rfl (fun K hK => ?_) ?_
              · go_simp
                refine hK _ _ ?_; clear hK K
                refine wpAnyIn_ready (rs := [0, 4]) (by kernel_rfl) (by simp) ?_
                refine AllReadyIn.cons rfl (fun K hK => ?_) ?_
                · go_simp
                  refine hK _ _ ?_; clear hK K
                  refine wpAnyIn_ready (rs := [4]) (by kernel_rfl) (by simp) ?_
                  refine AllReadyIn.cons rfl (fun K hK => ?_) ?_
                  · refine step_append_in rfl (.tmp 21) (.tmp 22) 22 rfl _ _ rfl rfl hr ?_
                    refine hK _ _ ?_; clear hK K
                    refine wpAnyIn_ready (rs := [5]) (by kernel_rfl) (by simp) ?_
                    refine AllReadyIn.cons rfl (fun K hK => ?_) ?_
                    · go_simp
                      first | (refine HR8.out.mono ?_; skip) | skip
                      rintro e W3 hj
                      obtain ⟨r, rfl, HJ3⟩ : ∃ r : Bool, e = .returned (.bool r) ∧ Hid (Out8 J Jx ((pre ++ pre2) ++ [y]) M' lr w' r W3) := by
                        rcases hj with ⟨rfl, hj⟩ | ⟨rfl, hj⟩
                        · exact ⟨true, rfl, hj⟩
                        · exact ⟨false, rfl, hj⟩
                      clear hj
                      go_simp
                      refine hK _ _ ?_; clear hK K
                      refine wpAnyIn_ready (rs := [6]) (by kernel_rfl) (by simp) ?_
                      refine AllReadyIn.cons rfl (fun K hK => ?_) ?_
                      · go_simp
                        refine hK _ _ ?_; clear hK K
                        refine wpAnyIn_done (by kernel_rfl) ?_ _
                        exact Post8.mk HJ3 rfl
                      exact AllReadyIn.nil
                    exact AllReadyIn.nil
                  exact AllReadyIn.nil
                refine AllReadyIn.cons rfl (fun K hK => ?_) ?_
                · refine step_append_in rfl (.tmp 21) (.tmp 22) 22 rfl _ _ rfl rfl hr ?_
                  refine hK _ _ ?_; clear hK K
                  refine wpAnyIn_ready (rs := [0]) (by kernel_rfl) (by simp) ?_
                  refine AllReadyIn.cons rfl (fun K hK => ?_) ?_
                  · go_simp
                    refine hK _ _ ?_; clear hK K
                    refine wpAnyIn_ready (rs := [5]) (by kernel_rfl) (by simp) ?_
                    refine AllReadyIn.cons rfl (fun K hK => ?_) ?_
                    · go_simp
                      first | (refine HR8.out.mono ?_; skip) | skip
                      rintro e W3 hj
                      obtain ⟨r, rfl, HJ3⟩ : ∃ r : Bool, e = .returned (.bool r) ∧ Hid (Out8 J Jx ((pre ++ pre2) ++ [y]) M' lr w' r W3) := by
                        rcases hj with ⟨rfl, hj⟩ | ⟨rfl, hj⟩
                        · exact ⟨true, rfl, hj⟩
                        · exact ⟨false, rfl, hj⟩
                      clear hj
                      go_simp
                      refine hK _ _ ?_; clear hK K
                      refine wpAnyIn_ready (rs := [6]) (by kernel_rfl) (by simp) ?_
                      refine AllReadyIn.cons rfl (fun K hK => ?_) ?_
                      · go_simp
                        refine hK _ _ ?_; clear hK K
                        refine wpAnyIn_done (by kernel_rfl) ?_ _
                        exact Post8.mk HJ3 rfl
                      exact AllReadyIn.nil
                    exact AllReadyIn.nil
                  exact AllReadyIn.nil
                exact AllReadyIn.nil
              exact AllReadyIn.nil
            exact AllReadyIn.nil
          exact AllReadyIn.nil
        case cont8 =>
          rintro e a'' W3 hp
          cases e with
          | normal =>
            obtain ⟨r, HJ3, rfl⟩ := hp
            obtain ⟨h1, h3, h4, h5, hgr', hy0⟩ := HB.out
            cases r with
            | true =>
              obtain ⟨M'', hj3, hst3⟩ : ∃ M'', J ((pre ++ pre2) ++ [y]) M'' W3 ∧ Step M' w' M'' W3 := HJ3.out
              have hstep : Step M' X M'' W3 := (Step.trans ⟨Fr.mono hgr' (fun _ _ h => h.elim), fun k h => .inl h⟩ hst3)
              have hsnd : (pre2 ++ [y]).map Prod.snd = (pre' ++ [x']).map (fun r => (i : Int) :: r.2) := by rw [List.map_append, List.map_append, h1, hy0]; rfl
              have h5' : ¬ M'' wr.heap.size := fun h => (hstep.sub _ h).elim h5 (fun q => by have := h4.lt; omega)
              have HZ := Lib.hid (And.intro hstep (And.intro hsnd (And.intro (by rw [← List.append_assoc]; exact hj3 : J (pre ++ (pre2 ++ [y])) M'' W3) (And.intro (h3.step hstep) (And.intro (hstep.fr.at_ h4 h5 : Boxed W3 wr.heap.size 3 (.int .i64 (i : Int))) h5')))))
              clear h1 h3 h4 h5 hgr' hy0 hj3 hst3 hstep hsnd h5' HJ3
              gi_wp2
              exact ⟨M'', HZ.out.1, pre2 ++ [y], HZ.out.2⟩
            | false =>
              obtain ⟨hq3, hfr3⟩ : Jx ((pre ++ pre2) ++ [y]) W3 ∧ Fr (fun k => M' k ∨ k ≤ lr) w' W3 := HJ3.out
              have hfr : Fr (fun k => M' k ∨ k ≤ lr) X W3 := (Fr.mono hgr' (fun _ _ h => h.elim)).trans hfr3
              have hmk : Marks W.heap.size ds (fun _ => False) W3 := ⟨fun dd hd => by
                obtain ⟨D, e, hb1, hb2, hb3⟩ := h3.marks.1 dd hd
                exact ⟨D, e, hb1, fun h => h, hfr.at_ hb3 (fun h => h.elim hb2 (fun q => by omega))⟩, h3.marks.2⟩
              have hfr2 : Fr (fun k => M' k ∨ k < wA.heap.size) X W3 := hfr.mono (fun k _ h => h.imp id (fun q => by omega))
              have HZ := Lib.hid (And.intro hfr2 (And.intro hq3 hmk))
              clear h1 h3 h4 h5 hgr' hy0 hq3 hfr3 hfr hmk hfr2 HJ3
              gi_wp2
              exact ⟨HZ.out.1, rfl, ⟨_, HZ.out.2.1⟩, HZ.out.2.2⟩
          | _ => exact hp.elim
      case done =>
        rintro D xs M' W' hD hS ⟨pre2, h1, h2, h3, h4, h5⟩ hMD hK
        have hm := Marks.cons h3.marks HA2.out.2.2.2.2.2 (by omega) (by omega) hMD hK
        have hpre : (pre ++ pre2).map Prod.snd = lstsTo n kk (i + 1) := by
          rw [List.map_append, HX.out.2.2, h1, lstsTo_succ, ← hS, List.map_map]
          rfl
        have HF : Hid (LstSt W Bc Bk n kk lr M' ({ target := .collected D, args := #[] } :: ds) W' ∧ J (pre ++ pre2) M' W' ∧ (pre ++ pre2).map Prod.snd = lstsTo n kk (i + 1)) := ⟨⟨h3.box, h3.bok, h3.yb, h3.own, h3.nb, h3.lo, hm⟩, h2, hpre⟩
        clear h1 h2 h3 h4 h5 hm hpre hK hMD hS
        gi_wp2
        exact ⟨kk - (i + 1), by omega, i + 1, pre ++ pre2, M', _, _, _, _, _, _, _, _, _, _, _, _, _, _, _, _, _, _, by omega, rfl, HF, rfl⟩
      case stop =>
        rintro D c pre' W' hD _ ⟨rfl, ⟨q, hq⟩, hm0⟩ hK
        have hm := Marks.cons hm0 HA2.out.2.2.2.2.2 (by omega) (by omega) (fun h => h) hK
        have HF := Lib.hid (And.intro hq hm)
        clear hq hm0 hm hK
        gi_wp2
        exact leaves_marks (B := W.heap.size) (M := fun _ => False) (fun w => Jx q w) (fun w l o o' h hB hlo ho => HJ.out.2.1.putObj o' h hB hlo ho) (fun w hg => ⟨_, results_none rfl _ _ _, ⟨_, rfl⟩, .inr ⟨q, trivial, hg⟩⟩) _ W' HF.out.2 HF.out.1
    · have hlti : ¬ (i : Int) < (kk : Int) := by omega
      have hie : i = kk := by omega
      have HX1 := HX.out
      rw [hie, lstsTo_all] at HX1
      have HX2 := Lib.hid HX1
      clear HX HX1 hie
      gi_wp2
      refine leaves_marks (B := W.heap.size) (M := M) (fun w => ∃ M', J pre M' w) ?_ (fun w hg => ⟨_, results_none rfl _ _ _, ⟨_, rfl⟩, .inl ?_⟩) ds wr HX2.out.1.marks ⟨M, HX2.out.2.1⟩
      · rintro w l o o' ⟨M', hj⟩ hB hlo ho
        exact ⟨M', HJ.out.1.putObj o' hj hB hlo ho⟩
      · obtain ⟨M', hj⟩ := hg
        exact ⟨pre, M', HX2.out.2.2, hj⟩
theorem lists_at : ∀ n : Nat, n ≤ 2 → LstsAt n
  | 0, _ => fun kk _ d hd Bc Bk W hB _ => lists0_seq d hd Bc Bk kk W hB
  | n + 1, h => lists_step n h (lists_at n (by omega))
end Go.Proofs.Ytacfchepacfjnaa
