/- The iterator over a slice of ints; collecting what an iterator gives. -/
import Derived.Test.YtacfchepacfjnaaOdA
import Derived.Test.YtacfchepacfjnaaKxE
import Derived.RangeFuncBox
import Derived.RangeFuncCalls
import Derived.RangeFuncLeaves
import Derived.Shelf.Abstract
import Derived.Shelf.RegionOpen
import Derived.WalkKit
import Derived.OwnWalkIn
import Derived.TacticsInMore
import Derived.LoopNIn
import Derived.LoopIn
import Derived.Maps.AppendAt
import Derived.Maps.OwnIn
set_option linter.unusedVariables false
set_option linter.unusedSimpArgs false
namespace Go.Proofs.Ytacfchepacfjnaa
open Go.RowKit Go.Shelf Go.Kx
attribute [local go_sem] Oper.semAt_some
/-- The blocks of a slice. -/
def blkOf (A : Option Addr) (k : Nat) : Prop := ∃ a, A = some a ∧ a.block = k
theorem IntsAt.fr {M : Nat → Prop} {w w' : World} {A : Option Addr} {l : List Int} (h : IntsAt w A l) (hg : Fr M w w') (hn : ∀ k, blkOf A k → ¬ M k) : IntsAt w' A l :=
  h.imp (fun e => e) fun ⟨b, off, h1, h2⟩ => ⟨b, off, h1, fun j x hx =>
    (World.cell?_of_block (w := w) (hg.blk b (World.block_lt_of_cell? w ⟨b, off + j, none⟩ (h2 j x hx)) (hn b ⟨_, h1, rfl⟩))).trans (h2 j x hx)⟩
set_option maxRecDepth 100000 in
set_option maxHeartbeats 2000000 in
theorem values_seq (n : Nat) (hn : 1 ≤ n) (Bs : Nat) (A : Option Addr) (cap : Nat) (l : List Int) (hlen : l.length ≤ 10000000000000) (W : World) (hB : Boxed W Bs 22 (.slice A l.length cap)) (hI : IntsAt W A l) :
    SeqM Fence.wide n Try.prog 65 #[.pointer (some ⟨Bs, 0, none⟩)] (fun x : Int => #[Value.int .i64 x]) (fun _ _ _ => True) (fun ys => ys = l) (fun _ => True) l.length (fun k => k = Bs ∨ (l ≠ [] ∧ blkOf A k)) W := by
  intro lr J Jx M0 hlr hJ hJx hJM hY hown h0
  have HY := Lib.hid hY
  have H1 := Lib.hid hB
  have H2 := Lib.hid hI
  have H3 := Lib.hid (And.intro hJ (And.intro hJM hown))
  clear hY hI hJ hJM hown hJx
  refine callsIn_of_wp Try.func65 rfl trivial ?_ rfl
  simp only [Try.ntmps65, List.size_toArray, List.length_cons, List.length_nil, Nat.reduceAdd, Nat.reduceSub, Array.replicate_succ, Array.replicate_zero, List.push_toArray, List.append_toArray, List.nil_append, List.cons_append]
  have hc := hB.cell
  clear hB
  gi_wp2
  gi_loopw [7] (fun i wr => ∃ (k : Nat) (M : Nat → Prop), k ≤ l.length ∧ i = .int .i64 k ∧ J (l.take k) M wr ∧ (∀ j, (j = Bs ∨ (l ≠ [] ∧ blkOf A j)) → ¬ M j) ∧ IntsAt wr A l ∧ Bs < wr.heap.size)
    (fun i _ => l.length - (intOf i).toNat)
  case atStart => exact ⟨0, M0, Nat.zero_le _, rfl, h0, H3.out.2.2, H2.out, H1.out.lt⟩
  case round =>
    obtain ⟨k, M, hk, rfl, hJs, hM, hIs, hBl⟩ := hrel
    by_cases hlt : k < l.length
    · have hne : l ≠ [] := by rintro rfl; simp at hlt
      obtain ⟨b, off, rfl, hcell⟩ := hIs.at_ hlt
      obtain ⟨fn, tmps, assign, body, hy, hR⟩ := HY.out _ M l[k] wr hJs trivial (by rw [List.length_take]; omega)
      have htk := List.take_succ_eq_append_getElem hlt
      try dsimp only at hy
      have HH := Lib.hid (And.intro hJs (And.intro hM (And.intro hIs (And.intro hBl htk))))
      have hki : (k : Int) < (l.length : Int) := by omega
      generalize l[k] = x at hcell hy hR HH
      clear hJs hM hIs hBl htk
      gi_wp2
      refine hR.mono ?_
      rintro e W3 (⟨rfl, M', hJ3, hst⟩ | ⟨rfl, hJx3, _⟩)
      · have H4 := Lib.hid (And.intro hJ3 hst)
        clear hJ3 hst
        gi_wp2
        go_roundw
        case rel =>
          have hbl : b < wr.heap.size := World.block_lt_of_cell? wr ⟨b, off + k, none⟩ hcell
          refine ⟨k + 1, M', by omega, by simp, by rw [HH.out.2.2.2.2]; exact H4.out.1, ?_, HH.out.2.2.1.fr H4.out.2.fr (fun j hj => HH.out.2.1 j (.inr ⟨hne, hj⟩)), Nat.lt_of_lt_of_le HH.out.2.2.2.1 H4.out.2.fr.size⟩
          intro j hj hM'
          rcases H4.out.2.sub j hM' with h | h
          · exact HH.out.2.1 j hj h
          · rcases hj with rfl | ⟨_, a, ha, rfl⟩
            · have := HH.out.2.2.2.1; omega
            · cases ha; exact absurd h (by show ¬ wr.heap.size ≤ b; omega)
        case measure => simp [intOf]; omega
      · gi_wp2
        refine bodyPost_ret (results_none rfl _ _ _) rfl ?_
        exact ⟨⟨_, rfl⟩, .inr ⟨_, trivial, hJx3⟩⟩
    · have e : l.take k = l := List.take_of_length_le (by omega)
      rw [e] at hJs
      have HJ := Lib.hid hJs
      have hki : ¬ (k : Int) < (l.length : Int) := by omega
      clear hJs hM hIs hBl e
      gi_wp2
      go_end0
      first | exact ⟨⟨_, rfl⟩, .inl ⟨_, M, rfl, HJ.out⟩⟩ | exact ⟨⟨_, rfl⟩, .inl ⟨M, HJ.out⟩⟩

theorem values_in (n : Nat) (A : Option Addr) (len cap : Nat) (w : World) :
    CallsIn Fence.wide n Try.prog 56 #[.slice A len cap] w fun e w' => e = .returned (.func (.func 65) #[] #[.pointer (some ⟨w.heap.size, 0, none⟩)]) ∧ w' = w.alloc (.cells #[.slice A len cap] 22) := by
  refine callsIn_of_wp Try.func56 rfl trivial ?_ rfl
  simp only [Try.ntmps56, List.size_toArray, List.length_cons, List.length_nil, Nat.reduceAdd, Nat.reduceSub, Array.replicate_succ, Array.replicate_zero, List.push_toArray, List.append_toArray, List.nil_append, List.cons_append]
  gi_wp2
  go_ret
  exact ⟨rfl, rfl⟩
/-- What slices.Collect leaves. -/
def CollI {α : Type} (w : World) (enc : α → Value) (RdP : α → World → Prop) (S : List α → Prop) (e : Ending) (w' : World) : Prop :=
  ∃ v xs, S xs ∧ e = .returned v ∧ w'.ownsRow w.heap.size 3 1 v xs.length (xs.map enc) ∧ (∀ x ∈ xs, RdP x w') ∧ Grow w w'
/-- Between two rounds. -/
def ApI {α : Type} (w : World) (enc : α → Value) (RdP : α → World → Prop) (bk : α → Nat → Prop) (Bs : Nat) (pre : List α) (M : Nat → Prop) (W : World) : Prop :=
  ∃ v, Boxed W Bs 22 v ∧ W.ownsRow w.heap.size 3 1 v pre.length (pre.map enc) ∧ (∀ k, M k ↔ (k = Bs ∨ v.ownBlock = some k)) ∧ Grow w W ∧ w.heap.size ≤ Bs ∧ (∀ x ∈ pre, RdP x W ∧ ∀ k, bk x k → k < W.heap.size ∧ ¬ M k)
theorem own_noncell {W W' : World} {row : Option Nat} {base size n : Nat} {e : TypeId} {v : Value} {xs : List Value} (h : W.ownsRow base e size v n xs) (hr : ∀ r, row = some r → ∃ o : Obj, W.heap[r]? = some o ∧ o.isCells = false) : v.ownBlock = none ∨ v.ownBlock ≠ row := by
  rcases h.2 with ⟨rfl, _⟩ | ⟨g, cap, cur, rfl, _, hgb, _⟩
  · exact .inl rfl
  · refine .inr fun e' => ?_
    obtain ⟨o, ho, hc⟩ := hr g e'.symm
    rw [hgb] at ho; cases ho; cases hc
theorem box_noncell {W : World} {row : Option Nat} {B : Nat} {t : TypeId} {v : Value} (h : Boxed W B t v) (hr : ∀ r, row = some r → ∃ o : Obj, W.heap[r]? = some o ∧ o.isCells = false) : some B ≠ row := by
  intro e'
  obtain ⟨o, ho, hc⟩ := hr B e'.symm
  rw [show W.heap[B]? = _ from h] at ho; cases ho; cases hc
theorem apI_keeps {α : Type} (w : World) (enc : α → Value) (RdP : α → World → Prop) (bk : α → Nat → Prop) (Bs B : Nat) (hB : w.heap.size ≤ B) (hRd : ∀ x, Own (fun (_ : Unit) W => RdP x W)) : Keeps B (ApI w enc RdP bk Bs) := by
  rintro pre M W W' row ⟨v, hv, hr, hM, hg, hb, hx⟩ hgr hrow
  have hrow' : ∀ r, row = some r → ∃ o : Obj, W.heap[r]? = some o ∧ o.isCells = false := fun r e => (hrow r e).2
  exact ⟨v, hv.kept hgr (box_noncell hv hrow'), hr.kept hgr (own_noncell (W' := W') hr hrow'), hM, hg.grown hgr (fun k e => Nat.le_trans hB (hrow k e).1), hb,
    fun x hxm => ⟨hRd x () W W' row (hx x hxm).1 hgr hrow', fun k hk => ⟨Nat.lt_of_lt_of_le ((hx x hxm).2 k hk).1 hgr.size, ((hx x hxm).2 k hk).2⟩⟩⟩
theorem apI_step {α : Type} {w W w1 : World} {enc : α → Value} {RdP : α → World → Prop} {bk : α → Nat → Prop} {Bs : Nat} {pre : List α} {M : Nat → Prop} {x : α} {v v' : Value} {tmp : Obj} (hte : 22 ≠ 3)
    (hfr : ∀ x M W W', RdP x W → (∀ k, bk x k → k < W.heap.size ∧ ¬ M k) → Fr M W W' → RdP x W')
    (hv : Boxed W Bs 22 v) (hrow : W.ownsRow w.heap.size 3 1 v pre.length (pre.map enc)) (hM : ∀ k, M k ↔ (k = Bs ∨ v.ownBlock = some k)) (hg : Grow w W) (hb : w.heap.size ≤ Bs) (hx : ∀ x ∈ pre, RdP x W ∧ ∀ k, bk x k → k < W.heap.size ∧ ¬ M k)
    (hrd : RdP x W ∧ ∀ k, bk x k → k < W.heap.size ∧ ¬ M k) (hown' : w1.ownsRow w.heap.size 3 1 v' (pre.length + 1) (pre.map enc ++ [enc x])) (hgrow : (W.alloc tmp).grownBy w1 v.ownBlock) (hat : v'.ownBlock = v.ownBlock ∨ v'.ownBlock = some (W.alloc tmp).heap.size) :
    ∃ M', Step M W M' (w1.setCell ⟨Bs, 0, none⟩ v') ∧ ApI w enc RdP bk Bs (pre ++ [x]) M' (w1.setCell ⟨Bs, 0, none⟩ v') := by
  obtain ⟨hv1, hv2, hr2, hk2, hb2⟩ := hv.appended hte hrow hg.size hb hown' hgrow
  have hfr2 : Fr M W (w1.setCell ⟨Bs, 0, none⟩ v') :=
    (((Fr.refl M W).alloc tmp).grown hgrow (fun k e => .inr ((hM k).2 (.inr e)))).setCell ⟨Bs, 0, none⟩ v' (.inr ((hM Bs).2 (.inl rfl)))
  have hsub : ∀ k, (k = Bs ∨ v'.ownBlock = some k) → M k ∨ W.heap.size ≤ k := by
    rintro k (rfl | h)
    · exact .inl ((hM _).2 (.inl rfl))
    · rcases hat with e | e
      · exact .inl ((hM k).2 (.inr (e ▸ h)))
      · rw [e] at h; cases h; exact .inr (by simp)
  have hrest : ∀ y, (RdP y W ∧ ∀ k, bk y k → k < W.heap.size ∧ ¬ M k) → RdP y (w1.setCell ⟨Bs, 0, none⟩ v') ∧ ∀ k, bk y k → k < (w1.setCell ⟨Bs, 0, none⟩ v').heap.size ∧ ¬ (k = Bs ∨ v'.ownBlock = some k) := fun y hy =>
    ⟨hfr y M W _ hy.1 hy.2 hfr2, fun k hk => ⟨Nat.lt_of_lt_of_le (hy.2 k hk).1 hfr2.size, fun h => (hsub k h).elim (hy.2 k hk).2 (fun q => by have := (hy.2 k hk).1; omega)⟩⟩
  refine ⟨fun k => k = Bs ∨ v'.ownBlock = some k, ⟨hfr2, hsub⟩, v', hv2, by simpa using hr2, fun k => Iff.rfl, ?_, hb, ?_⟩
  · exact ((hg.alloc tmp).grown hgrow (fun k e => (hrow.lt k e).1)).setCell ⟨Bs, 0, none⟩ v' hb
  · intro y hy
    rcases List.mem_append.1 hy with h | h
    · exact hrest y (hx y h)
    · rw [List.mem_singleton.1 h]; exact hrest x hrd
theorem info3x : (Try.prog.info? 3).map (fun i => (i.zero, i.size, i.bytes)) = some (some (.int .i64 0), 1, 8) := by kernel_rfl
set_option maxRecDepth 100000 in
set_option maxHeartbeats 2000000 in
theorem appendI_in {α : Type} (n : Nat) (hn : 3 ≤ n) {gf : Nat} {lb : Array Value} (eg : ∀ args w, (callFunc gf args).run Try.prog w = .ok (.enter gf args) w) (w : World) (f : α → Int) (RdP : α → World → Prop) (bk : α → Nat → Prop)
    (hRd : ∀ x, Own (fun (_ : Unit) W => RdP x W)) (hfr : ∀ x M W W', RdP x W → (∀ k, bk x k → k < W.heap.size ∧ ¬ M k) → Fr M W W' → RdP x W') {S : List α → Prop} {N : Nat} (hN : N ≤ 1000000) {own : Nat → Prop} (hown : ∀ k, own k → k < w.heap.size)
    (hseq : ∀ W n, 1 ≤ n → Grow w W → SeqM Fence.wide n Try.prog gf lb (fun x => #[Value.int .i64 (f x)]) (fun x M W => RdP x W ∧ ∀ k, bk x k → k < W.heap.size ∧ ¬ M k) S (fun _ => True) N own W) :
    CallsIn Fence.wide n Try.prog 67 #[.slice none 0 0, .func (.func gf) #[] lb] w (CollI w (fun x => Value.int .i64 (f x)) RdP S) := by
  have h1 : 1 ≤ n := by omega
  have HS := Lib.hid hseq
  have H1 := Lib.hid (And.intro hRd (And.intro hfr hown))
  clear hseq hRd hfr hown
  obtain ⟨i0, hi, hz0, hz1, hz2⟩ := info_parts info3x
  refine callsIn_of_wp_marks Try.func67 rfl trivial ?_ rfl
  simp only [Try.ntmps67, List.size_toArray, List.length_cons, List.length_nil, Nat.reduceAdd, Nat.reduceSub, Array.replicate_succ, Array.replicate_zero, List.push_toArray, List.append_toArray, List.nil_append, List.cons_append]
  gi_wp2
  refine range_outer (P := Try.prog) rfl h1 (gf := gf) (lb := lb) rfl trivial eg (fun W hg _ => HS.out W (n - 1) (by omega) (((Grow.refl w).alloc _).trans hg)) (fun _ => rfl)
    (ApI w (fun x => Value.int .i64 (f x)) RdP bk w.heap.size) (fun _ _ _ => False) (apI_keeps w (fun x => Value.int .i64 (f x)) RdP bk _ _ (by simp) H1.out.1) (fun _ _ _ _ _ h _ _ => h) ?hIM ?hRd (fun k => k = w.heap.size) (fun k hk => fun e => by have := H1.out.2.2 k hk; omega)
    ⟨_, Boxed.new w 22 _, World.ownsRow_nil _ _ _ _, fun k => by simp [Value.ownBlock], (Grow.refl w).alloc _, Nat.le_refl _, by simp⟩
    (fun x a' _ => a' = { tmps := #[.slice none 0 0, .func (.func gf) #[] lb, .pointer (some ⟨w.heap.size, 0, none⟩), undef, .slice none 0 0, Value.int .i64 (f x), .func (.func gf) #[] lb, Value.int .i64 (f x), undef, undef, undef, undef, undef], defers := [] }) (fun _ _ _ _ _ _ h _ _ => h) ?assign ?body ?done ?stop
  case hIM =>
    rintro pre M W ⟨v, hv, hr, hM, _⟩ k hk
    rcases (hM k).1 hk with rfl | h
    · exact hv.lt
    · exact (hr.lt k h).2
  case hRd =>
    rintro x M _ W W' row ⟨h, hk⟩ hg hrow
    exact ⟨H1.out.1 x () W W' row h hg (fun r e => (hrow r e).2), fun k hbk => ⟨Nat.lt_of_lt_of_le (hk k hbk).1 hg.size, (hk k hbk).2⟩⟩
  case assign =>
    intro l pre M x W K hi hrd hK
    gi_wp2
    exact hK _ M W (Step.refl _ _) hi hrd rfl
  case body =>
    rintro l pre M x a' W hMl hl ⟨v, hv, hrow, hM, hg, hb, hx⟩ hrd rfl hlen
    have hc := hv.cell
    have HX := Lib.hid (And.intro hM (And.intro hg (And.intro hb (And.intro hx (And.intro hrd H1.out.2.1)))))
    have hgs := hg.size
    clear hM hg hb hx hrd hMl hl
    gi_wp2_with (gi_at_builtin; refine wpListIn_append_own_at _ rfl _ _ 22 rfl w.heap.size 3 i0 (.int .i64 0) 1 8 Try.underlying22 hi hz0 hz1 hz2 rfl (by decide) _ _ _ rfl (hrow.alloc _) ⟨W.heap.size, 0, none⟩ 1 1 [Value.int .i64 (f x)] rfl rfl (cell_one_new _ _ _) (by simp [Value.oneCell']) (by unfold maxLen; omega) (by omega) (by simp; omega) ?_; intro v' w1 hown' hgrow _ hat; obtain ⟨g', cap', rfl⟩ := ownsRow_succ hown'; have H7 := Lib.hid (apI_step (by decide) HX.out.2.2.2.2.2 hv hrow HX.out.1 HX.out.2.1 HX.out.2.2.1 HX.out.2.2.2.1 HX.out.2.2.2.2.1 hown' hgrow hat); have hv1 := (hv.appended (by decide) hrow HX.out.2.1.size HX.out.2.2.1 hown' hgrow).1; have hc1 := hv1.cell; have hf1 := hv1.frozen; clear hat hgrow hown' hv1)
    exact H7.out
  case done =>
    rintro D xs M W hD hS ⟨v, hv, hrow, hM, hg, hb, hx⟩ hMD hK
    have hc := hv.cell
    have HX := Lib.hid (And.intro hg hx)
    clear hM hg hx hb hMD
    gi_wp2
    refine ⟨by simp, .inl ⟨_, _, rfl, run_takeDeferred hK, ?_⟩⟩
    refine ⟨_, results_tmp rfl _ _ _, v, xs, hS, rfl, ownsRow_putObj hrow _ hK rfl, ?_, ?_⟩
    · intro y hy
      exact H1.out.1 y () W _ (some D) (HX.out.2 y hy).1 (grownBy_putObj' W D _) (fun r e => by cases e; exact ⟨_, hK, rfl⟩)
    · exact HX.out.1.grown (grownBy_putObj' W D _) (fun k e => by cases e; simp at hD; omega)
  case stop =>
    intro D c pre W _ _ h _
    exact h.elim
set_option maxHeartbeats 1000000 in
theorem collectI_in {α : Type} (n : Nat) (hn : 4 ≤ n) {gf : Nat} {lb : Array Value} (eg : ∀ args w, (callFunc gf args).run Try.prog w = .ok (.enter gf args) w) (w : World) (f : α → Int) (RdP : α → World → Prop) (bk : α → Nat → Prop)
    (hRd : ∀ x, Own (fun (_ : Unit) W => RdP x W)) (hfr : ∀ x M W W', RdP x W → (∀ k, bk x k → k < W.heap.size ∧ ¬ M k) → Fr M W W' → RdP x W') {S : List α → Prop} {N : Nat} (hN : N ≤ 1000000) {own : Nat → Prop} (hown : ∀ k, own k → k < w.heap.size)
    (hseq : ∀ W n, 1 ≤ n → Grow w W → SeqM Fence.wide n Try.prog gf lb (fun x => #[Value.int .i64 (f x)]) (fun x M W => RdP x W ∧ ∀ k, bk x k → k < W.heap.size ∧ ¬ M k) S (fun _ => True) N own W) :
    CallsIn Fence.wide n Try.prog 63 #[.func (.func gf) #[] lb] w (CollI w (fun x => Value.int .i64 (f x)) RdP S) := by
  have ca := Lib.hid (appendI_in (n - 1) (by omega) eg w f RdP bk hRd hfr hN hown hseq)
  clear hseq hRd hfr hown
  have hfF : Fence.wide.fn 67 := trivial
  have h1n : 1 ≤ n := by omega
  refine callsIn_of_wp Try.func63 rfl trivial ?_ rfl
  simp only [Try.ntmps63, List.size_toArray, List.length_cons, List.length_nil, Nat.reduceAdd, Nat.reduceSub, Array.replicate_succ, Array.replicate_zero, List.push_toArray, List.append_toArray, List.nil_append, List.cons_append]
  gi_wp2_with (gi_at_call 67; refine ca.out.mono ?_; rintro e w' ⟨v, xs, hS, rfl, hrow, hx, hg⟩; have HC : Hid (CollI w (fun x => Value.int .i64 (f x)) RdP S (.returned v) w') := ⟨v, xs, hS, rfl, hrow, hx, hg⟩; clear hS hrow hx hg)
  go_ret
  exact HC.out
/-- What slices.Collect leaves. -/
def CollL {α : Type} (w : World) (enc : α → Value) (RdP : α → World → Prop) (S : List α → Prop) (e : Ending) (w' : World) : Prop :=
  ∃ v xs, S xs ∧ e = .returned v ∧ w'.ownsRow w.heap.size 22 1 v xs.length (xs.map enc) ∧ (∀ x ∈ xs, RdP x w') ∧ Grow w w'
/-- Between two rounds. -/
def ApL {α : Type} (w : World) (enc : α → Value) (RdP : α → World → Prop) (bk : α → Nat → Prop) (Bs : Nat) (pre : List α) (M : Nat → Prop) (W : World) : Prop :=
  ∃ v, Boxed W Bs 40 v ∧ W.ownsRow w.heap.size 22 1 v pre.length (pre.map enc) ∧ (∀ k, M k ↔ (k = Bs ∨ v.ownBlock = some k)) ∧ Grow w W ∧ w.heap.size ≤ Bs ∧ (∀ x ∈ pre, RdP x W ∧ ∀ k, bk x k → k < W.heap.size ∧ ¬ M k)
theorem apL_keeps {α : Type} (w : World) (enc : α → Value) (RdP : α → World → Prop) (bk : α → Nat → Prop) (Bs B : Nat) (hB : w.heap.size ≤ B) (hRd : ∀ x, Own (fun (_ : Unit) W => RdP x W)) : Keeps B (ApL w enc RdP bk Bs) := by
  rintro pre M W W' row ⟨v, hv, hr, hM, hg, hb, hx⟩ hgr hrow
  have hrow' : ∀ r, row = some r → ∃ o : Obj, W.heap[r]? = some o ∧ o.isCells = false := fun r e => (hrow r e).2
  exact ⟨v, hv.kept hgr (box_noncell hv hrow'), hr.kept hgr (own_noncell (W' := W') hr hrow'), hM, hg.grown hgr (fun k e => Nat.le_trans hB (hrow k e).1), hb,
    fun x hxm => ⟨hRd x () W W' row (hx x hxm).1 hgr hrow', fun k hk => ⟨Nat.lt_of_lt_of_le ((hx x hxm).2 k hk).1 hgr.size, ((hx x hxm).2 k hk).2⟩⟩⟩
theorem apL_step {α : Type} {w W w1 : World} {enc : α → Value} {RdP : α → World → Prop} {bk : α → Nat → Prop} {Bs : Nat} {pre : List α} {M : Nat → Prop} {x : α} {v v' : Value} {tmp : Obj} (hte : 40 ≠ 22)
    (hfr : ∀ x M W W', RdP x W → (∀ k, bk x k → k < W.heap.size ∧ ¬ M k) → Fr M W W' → RdP x W')
    (hv : Boxed W Bs 40 v) (hrow : W.ownsRow w.heap.size 22 1 v pre.length (pre.map enc)) (hM : ∀ k, M k ↔ (k = Bs ∨ v.ownBlock = some k)) (hg : Grow w W) (hb : w.heap.size ≤ Bs) (hx : ∀ x ∈ pre, RdP x W ∧ ∀ k, bk x k → k < W.heap.size ∧ ¬ M k)
    (hrd : RdP x W ∧ ∀ k, bk x k → k < W.heap.size ∧ ¬ M k) (hown' : w1.ownsRow w.heap.size 22 1 v' (pre.length + 1) (pre.map enc ++ [enc x])) (hgrow : (W.alloc tmp).grownBy w1 v.ownBlock) (hat : v'.ownBlock = v.ownBlock ∨ v'.ownBlock = some (W.alloc tmp).heap.size) :
    ∃ M', Step M W M' (w1.setCell ⟨Bs, 0, none⟩ v') ∧ ApL w enc RdP bk Bs (pre ++ [x]) M' (w1.setCell ⟨Bs, 0, none⟩ v') := by
  obtain ⟨hv1, hv2, hr2, hk2, hb2⟩ := hv.appended hte hrow hg.size hb hown' hgrow
  have hfr2 : Fr M W (w1.setCell ⟨Bs, 0, none⟩ v') :=
    (((Fr.refl M W).alloc tmp).grown hgrow (fun k e => .inr ((hM k).2 (.inr e)))).setCell ⟨Bs, 0, none⟩ v' (.inr ((hM Bs).2 (.inl rfl)))
  have hsub : ∀ k, (k = Bs ∨ v'.ownBlock = some k) → M k ∨ W.heap.size ≤ k := by
    rintro k (rfl | h)
    · exact .inl ((hM _).2 (.inl rfl))
    · rcases hat with e | e
      · exact .inl ((hM k).2 (.inr (e ▸ h)))
      · rw [e] at h; cases h; exact .inr (by simp)
  have hrest : ∀ y, (RdP y W ∧ ∀ k, bk y k → k < W.heap.size ∧ ¬ M k) → RdP y (w1.setCell ⟨Bs, 0, none⟩ v') ∧ ∀ k, bk y k → k < (w1.setCell ⟨Bs, 0, none⟩ v').heap.size ∧ ¬ (k = Bs ∨ v'.ownBlock = some k) := fun y hy =>
    ⟨hfr y M W _ hy.1 hy.2 hfr2, fun k hk => ⟨Nat.lt_of_lt_of_le (hy.2 k hk).1 hfr2.size, fun h => (hsub k h).elim (hy.2 k hk).2 (fun q => by have := (hy.2 k hk).1; omega)⟩⟩
  refine ⟨fun k => k = Bs ∨ v'.ownBlock = some k, ⟨hfr2, hsub⟩, v', hv2, by simpa using hr2, fun k => Iff.rfl, ?_, hb, ?_⟩
  · exact ((hg.alloc tmp).grown hgrow (fun k e => (hrow.lt k e).1)).setCell ⟨Bs, 0, none⟩ v' hb
  · intro y hy
    rcases List.mem_append.1 hy with h | h
    · exact hrest y (hx y h)
    · rw [List.mem_singleton.1 h]; exact hrest x hrd
theorem info22x : (Try.prog.info? 22).map (fun i => (i.zero, i.size, i.bytes)) = some (some (.slice none 0 0), 1, 24) := by kernel_rfl
set_option maxRecDepth 100000 in
set_option maxHeartbeats 2000000 in
theorem appendL_in {α : Type} (n : Nat) (hn : 3 ≤ n) {gf : Nat} {lb : Array Value} (eg : ∀ args w, (callFunc gf args).run Try.prog w = .ok (.enter gf args) w) (w : World) (f : α → Option Addr × Nat × Nat) (RdP : α → World → Prop) (bk : α → Nat → Prop)
    (hRd : ∀ x, Own (fun (_ : Unit) W => RdP x W)) (hfr : ∀ x M W W', RdP x W → (∀ k, bk x k → k < W.heap.size ∧ ¬ M k) → Fr M W W' → RdP x W') {S : List α → Prop} {N : Nat} (hN : N ≤ 1000000) {own : Nat → Prop} (hown : ∀ k, own k → k < w.heap.size)
    (hseq : ∀ W n, 1 ≤ n → Grow w W → SeqM Fence.wide n Try.prog gf lb (fun x => #[Value.slice (f x).1 (f x).2.1 (f x).2.2]) (fun x M W => RdP x W ∧ ∀ k, bk x k → k < W.heap.size ∧ ¬ M k) S (fun _ => True) N own W) :
    CallsIn Fence.wide n Try.prog 59 #[.slice none 0 0, .func (.func gf) #[] lb] w (CollL w (fun x => Value.slice (f x).1 (f x).2.1 (f x).2.2) RdP S) := by
  have h1 : 1 ≤ n := by omega
  have HS := Lib.hid hseq
  have H1 := Lib.hid (And.intro hRd (And.intro hfr hown))
  clear hseq hRd hfr hown
  obtain ⟨i0, hi, hz0, hz1, hz2⟩ := info_parts info22x
  refine callsIn_of_wp_marks Try.func59 rfl trivial ?_ rfl
  simp only [Try.ntmps59, List.size_toArray, List.length_cons, List.length_nil, Nat.reduceAdd, Nat.reduceSub, Array.replicate_succ, Array.replicate_zero, List.push_toArray, List.append_toArray, List.nil_append, List.cons_append]
  gi_wp2
  refine range_outer (P := Try.prog) rfl h1 (gf := gf) (lb := lb) rfl trivial eg (fun W hg _ => HS.out W (n - 1) (by omega) (((Grow.refl w).alloc _).trans hg)) (fun _ => rfl)
    (ApL w (fun x => Value.slice (f x).1 (f x).2.1 (f x).2.2) RdP bk w.heap.size) (fun _ _ _ => False) (apL_keeps w (fun x => Value.slice (f x).1 (f x).2.1 (f x).2.2) RdP bk _ _ (by simp) H1.out.1) (fun _ _ _ _ _ h _ _ => h) ?hIM ?hRd (fun k => k = w.heap.size) (fun k hk => fun e => by have := H1.out.2.2 k hk; omega)
    ⟨_, Boxed.new w 40 _, World.ownsRow_nil _ _ _ _, fun k => by simp [Value.ownBlock], (Grow.refl w).alloc _, Nat.le_refl _, by simp⟩
    (fun x a' _ => a' = { tmps := #[.slice none 0 0, .func (.func gf) #[] lb, .pointer (some ⟨w.heap.size, 0, none⟩), undef, .slice none 0 0, Value.slice (f x).1 (f x).2.1 (f x).2.2, .func (.func gf) #[] lb, Value.slice (f x).1 (f x).2.1 (f x).2.2, undef, undef, undef, undef, undef], defers := [] }) (fun _ _ _ _ _ _ h _ _ => h) ?assign ?body ?done ?stop
  case hIM =>
    rintro pre M W ⟨v, hv, hr, hM, _⟩ k hk
    rcases (hM k).1 hk with rfl | h
    · exact hv.lt
    · exact (hr.lt k h).2
  case hRd =>
    rintro x M _ W W' row ⟨h, hk⟩ hg hrow
    exact ⟨H1.out.1 x () W W' row h hg (fun r e => (hrow r e).2), fun k hbk => ⟨Nat.lt_of_lt_of_le (hk k hbk).1 hg.size, (hk k hbk).2⟩⟩
  case assign =>
    intro l pre M x W K hi hrd hK
    gi_wp2
    exact hK _ M W (Step.refl _ _) hi hrd rfl
  case body =>
    rintro l pre M x a' W hMl hl ⟨v, hv, hrow, hM, hg, hb, hx⟩ hrd rfl hlen
    have hc := hv.cell
    have HX := Lib.hid (And.intro hM (And.intro hg (And.intro hb (And.intro hx (And.intro hrd H1.out.2.1)))))
    have hgs := hg.size
    clear hM hg hb hx hrd hMl hl
    gi_wp2_with (gi_at_builtin; refine wpListIn_append_own_at _ rfl _ _ 40 rfl w.heap.size 22 i0 (.slice none 0 0) 1 24 Try.underlying40 hi hz0 hz1 hz2 rfl (by decide) _ _ _ rfl (hrow.alloc _) ⟨W.heap.size, 0, none⟩ 1 1 [Value.slice (f x).1 (f x).2.1 (f x).2.2] rfl rfl (cell_one_new _ _ _) (by simp [Value.oneCell']) (by unfold maxLen; omega) (by omega) (by simp; omega) ?_; intro v' w1 hown' hgrow _ hat; obtain ⟨g', cap', rfl⟩ := ownsRow_succ hown'; have H7 := Lib.hid (apL_step (by decide) HX.out.2.2.2.2.2 hv hrow HX.out.1 HX.out.2.1 HX.out.2.2.1 HX.out.2.2.2.1 HX.out.2.2.2.2.1 hown' hgrow hat); have hv1 := (hv.appended (by decide) hrow HX.out.2.1.size HX.out.2.2.1 hown' hgrow).1; have hc1 := hv1.cell; have hf1 := hv1.frozen; clear hat hgrow hown' hv1)
    exact H7.out
  case done =>
    rintro D xs M W hD hS ⟨v, hv, hrow, hM, hg, hb, hx⟩ hMD hK
    have hc := hv.cell
    have HX := Lib.hid (And.intro hg hx)
    clear hM hg hx hb hMD
    gi_wp2
    refine ⟨by simp, .inl ⟨_, _, rfl, run_takeDeferred hK, ?_⟩⟩
    refine ⟨_, results_tmp rfl _ _ _, v, xs, hS, rfl, ownsRow_putObj hrow _ hK rfl, ?_, ?_⟩
    · intro y hy
      exact H1.out.1 y () W _ (some D) (HX.out.2 y hy).1 (grownBy_putObj' W D _) (fun r e => by cases e; exact ⟨_, hK, rfl⟩)
    · exact HX.out.1.grown (grownBy_putObj' W D _) (fun k e => by cases e; simp at hD; omega)
  case stop =>
    intro D c pre W _ _ h _
    exact h.elim
set_option maxHeartbeats 1000000 in
theorem collectL_in {α : Type} (n : Nat) (hn : 4 ≤ n) {gf : Nat} {lb : Array Value} (eg : ∀ args w, (callFunc gf args).run Try.prog w = .ok (.enter gf args) w) (w : World) (f : α → Option Addr × Nat × Nat) (RdP : α → World → Prop) (bk : α → Nat → Prop)
    (hRd : ∀ x, Own (fun (_ : Unit) W => RdP x W)) (hfr : ∀ x M W W', RdP x W → (∀ k, bk x k → k < W.heap.size ∧ ¬ M k) → Fr M W W' → RdP x W') {S : List α → Prop} {N : Nat} (hN : N ≤ 1000000) {own : Nat → Prop} (hown : ∀ k, own k → k < w.heap.size)
    (hseq : ∀ W n, 1 ≤ n → Grow w W → SeqM Fence.wide n Try.prog gf lb (fun x => #[Value.slice (f x).1 (f x).2.1 (f x).2.2]) (fun x M W => RdP x W ∧ ∀ k, bk x k → k < W.heap.size ∧ ¬ M k) S (fun _ => True) N own W) :
    CallsIn Fence.wide n Try.prog 49 #[.func (.func gf) #[] lb] w (CollL w (fun x => Value.slice (f x).1 (f x).2.1 (f x).2.2) RdP S) := by
  have ca := Lib.hid (appendL_in (n - 1) (by omega) eg w f RdP bk hRd hfr hN hown hseq)
  clear hseq hRd hfr hown
  have hfF : Fence.wide.fn 59 := trivial
  have h1n : 1 ≤ n := by omega
  refine callsIn_of_wp Try.func49 rfl trivial ?_ rfl
  simp only [Try.ntmps49, List.size_toArray, List.length_cons, List.length_nil, Nat.reduceAdd, Nat.reduceSub, Array.replicate_succ, Array.replicate_zero, List.push_toArray, List.append_toArray, List.nil_append, List.cons_append]
  gi_wp2_with (gi_at_call 59; refine ca.out.mono ?_; rintro e w' ⟨v, xs, hS, rfl, hrow, hx, hg⟩; have HC : Hid (CollL w (fun x => Value.slice (f x).1 (f x).2.1 (f x).2.2) RdP S (.returned v) w') := ⟨v, xs, hS, rfl, hrow, hx, hg⟩; clear hS hrow hx hg)
  go_ret
  exact HC.out

end Go.Proofs.Ytacfchepacfjnaa
