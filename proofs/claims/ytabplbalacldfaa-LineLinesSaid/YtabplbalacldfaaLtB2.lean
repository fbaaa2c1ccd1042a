/- slices.AppendSeq and slices.Collect at accesses. -/
import Derived.Test.YtabplbalacldfaaLtB
import Derived.Maps.OwnIn
set_option linter.unusedVariables false
set_option linter.unusedSimpArgs false
namespace Go.Proofs.Ytabplbalacldfaa
open Go.RowKit Go.Shelf Go.Kx
attribute [local go_sem] Oper.semAt_some
/-- What slices.Collect leaves. -/
def Coll3 (w : World) (S : List A3 → Prop) (e : Ending) (w' : World) : Prop :=
  ∃ v xs, S xs ∧ e = .returned v ∧ w'.ownsRow w.heap.size 24 3 v xs.length (accCells xs) ∧ Grow w w'
/-- Between two rounds. -/
def Ap3 (w : World) (Bs : Nat) (pre : List A3) (M : Nat → Prop) (W : World) : Prop :=
  ∃ v, Boxed W Bs 22 v ∧ W.ownsRow w.heap.size 24 3 v pre.length (accCells pre) ∧ (∀ k, M k ↔ (k = Bs ∨ v.ownBlock = some k)) ∧ Grow w W ∧ w.heap.size ≤ Bs
theorem own_noncell {W W' : World} {row : Option Nat} {base size n : Nat} {e : TypeId} {v : Value} {xs : List Value} (h : W.ownsRow base e size v n xs) (hr : ∀ r, row = some r → ∃ o : Obj, W.heap[r]? = some o ∧ o.isCells = false) : v.ownBlock = none ∨ v.ownBlock ≠ row := by
  rcases h.2 with ⟨rfl, _⟩ | ⟨g, cap, cur, rfl, _, hgb, _⟩
  · exact .inl rfl
  · refine .inr fun e' => ?_
    obtain ⟨o, ho, hc⟩ := hr g e'.symm
    rw [hgb] at ho; cases ho; cases hc
theorem box_noncell {W : World} {row : Option Nat} {B : Nat} {t : TypeId} {v : Value} (h : Boxed W B t v) (hr : ∀ r, row = some r → ∃ o : Obj, W.heap[r]? = some o ∧ o.isCells = false) : some B ≠ row := by
  intro e'
  obtain ⟨o, ho, hc⟩ := hr B e'.symm
  rw [show W.heap[B]? = _ from h] at ho; cases ho; cases hc
theorem ap3_keeps (w : World) (Bs B : Nat) (hB : w.heap.size ≤ B) : Keeps B (Ap3 w Bs) := by
  rintro pre M W W' row ⟨v, hv, hr, hM, hg, hb⟩ hgr hrow
  have hrow' : ∀ r, row = some r → ∃ o : Obj, W.heap[r]? = some o ∧ o.isCells = false := fun r e => (hrow r e).2
  exact ⟨v, hv.kept hgr (box_noncell hv hrow'), hr.kept hgr (own_noncell (W' := W') hr hrow'), hM, hg.grown hgr (fun k e => Nat.le_trans hB (hrow k e).1), hb⟩
theorem ap3_step {w W w1 : World} {Bs : Nat} {pre : List A3} {M : Nat → Prop} {x : A3} {v v' : Value} {tmp : Obj} {xs : List Value} (hx : xs = accCells (pre ++ [x]))
    (hv : Boxed W Bs 22 v) (hrow : W.ownsRow w.heap.size 24 3 v pre.length (accCells pre)) (hM : ∀ k, M k ↔ (k = Bs ∨ v.ownBlock = some k)) (hg : Grow w W) (hb : w.heap.size ≤ Bs)
    (hown' : w1.ownsRow w.heap.size 24 3 v' (pre.length + 1) xs) (hgrow : (W.alloc tmp).grownBy w1 v.ownBlock) (hat : v'.ownBlock = v.ownBlock ∨ v'.ownBlock = some (W.alloc tmp).heap.size) :
    ∃ M', Step M W M' (w1.setCell ⟨Bs, 0, none⟩ v') ∧ Ap3 w Bs (pre ++ [x]) M' (w1.setCell ⟨Bs, 0, none⟩ v') := by
  subst hx
  obtain ⟨hv1, hv2, hr2, hk2, hb2⟩ := hv.appended (by decide) hrow hg.size hb hown' hgrow
  have hfr2 : Fr M W (w1.setCell ⟨Bs, 0, none⟩ v') :=
    (((Fr.refl M W).alloc tmp).grown hgrow (fun k e => .inr ((hM k).2 (.inr e)))).setCell ⟨Bs, 0, none⟩ v' (.inr ((hM Bs).2 (.inl rfl)))
  have hsub : ∀ k, (k = Bs ∨ v'.ownBlock = some k) → M k ∨ W.heap.size ≤ k := by
    rintro k (rfl | h)
    · exact .inl ((hM _).2 (.inl rfl))
    · rcases hat with e | e
      · exact .inl ((hM k).2 (.inr (e ▸ h)))
      · rw [e] at h; cases h; exact .inr (by simp)
  refine ⟨fun k => k = Bs ∨ v'.ownBlock = some k, ⟨hfr2, hsub⟩, v', hv2, by simpa using hr2, fun k => Iff.rfl, ?_, hb⟩
  exact ((hg.alloc tmp).grown hgrow (fun k e => (hrow.lt k e).1)).setCell ⟨Bs, 0, none⟩ v' hb
/-- A block of the round's own, with one access in it. -/
def Box3 (W : World) (B : Nat) (x : A3) : Prop := W.heap[B]? = some (.cells #[.int .i64 x.1, .int .i64 x.2.1, .int .i64 x.2.2] 24 (0, 0))
theorem box3_own (f : Nat → Act → Prop) (x : A3) (a' : Act) : Own (fun (_ : Unit) W => ∃ B, f B a' ∧ Box3 W B x) := by
  rintro _ W W' row ⟨B, hf, hb⟩ hg hr
  exact ⟨B, hf, (hg.block B (Array.getElem?_eq_some_iff.1 hb).1 (fun e => by obtain ⟨o, ho, hc⟩ := hr B e.symm; rw [show W.heap[B]? = _ from hb] at ho; cases ho; cases hc)).trans hb⟩
abbrev agA (x : A3) : Value := .agg #[.int .i64 x.1, .int .i64 x.2.1, .int .i64 x.2.2]
/-- A round's temporaries: the block with the round's access is B. -/
def At3 (gf : Nat) (lb : Array Value) (bs : Nat) (x : A3) (B : Nat) (a' : Act) : Prop :=
  a' = { tmps := #[.slice none 0 0, .func (.func gf) #[] lb, .pointer (some ⟨bs, 0, none⟩), undef, .slice none 0 0, .pointer (some ⟨B, 0, none⟩), .func (.func gf) #[] lb, agA x, undef, undef, undef, undef, undef], defers := [] }
set_option maxRecDepth 100000 in
set_option maxHeartbeats 2000000 in
theorem append3_in (n : Nat) (hn : 3 ≤ n) {gf : Nat} {lb : Array Value} (eg : ∀ args w, (callFunc gf args).run Try.prog w = .ok (.enter gf args) w) (w : World) {S : List A3 → Prop} {N : Nat} (hN : N ≤ 10000) {own : Nat → Prop} (hown : ∀ k, own k → k < w.heap.size)
    (hseq : ∀ W n, 1 ≤ n → Grow w W → SeqM Fence.wide n Try.prog gf lb (fun x : A3 => #[agA x]) (fun _ _ _ => True) S (fun _ => True) N own W) :
    CallsIn Fence.wide n Try.prog 81 #[.slice none 0 0, .func (.func gf) #[] lb] w (Coll3 w S) := by
  have h1 : 1 ≤ n := by omega
  have HS := Lib.hid hseq
  have H1 := Lib.hid hown
  clear hseq hown
  obtain ⟨i0, hi, hz0, hz1, hz2⟩ := info_parts info24
  refine callsIn_of_wp_marks Try.func81 rfl trivial ?_ rfl
  simp only [Try.ntmps81, List.size_toArray, List.length_cons, List.length_nil, Nat.reduceAdd, Nat.reduceSub, Array.replicate_succ, Array.replicate_zero, List.push_toArray, List.append_toArray, List.nil_append, List.cons_append]
  gi_wp2
  refine range_outer (P := Try.prog) rfl h1 (gf := gf) (lb := lb) rfl trivial eg (fun W hg _ => HS.out W (n - 1) (by omega) (((Grow.refl w).alloc _).trans hg)) (fun _ => rfl)
    (Ap3 w w.heap.size) (fun _ _ _ => False) (ap3_keeps w _ _ (by simp)) (fun _ _ _ _ _ h _ _ => h) ?hIM (fun _ _ _ _ _ _ _ _ _ => trivial) (fun k => k = w.heap.size) (fun k hk => fun e => by have := H1.out k hk; omega)
    ⟨_, Boxed.new w 22 _, World.ownsRow_nil _ _ _ _, fun k => by simp [Value.ownBlock], (Grow.refl w).alloc _, Nat.le_refl _⟩
    (fun x a' W => ∃ B, At3 gf lb w.heap.size x B a' ∧ Box3 W B x) (fun x a' => (box3_own (At3 gf lb w.heap.size x) x a').from _) ?assign ?body ?done ?stop
  case hIM =>
    rintro pre M W ⟨v, hv, hr, hM, _⟩ k hk
    rcases (hM k).1 hk with rfl | h
    · exact hv.lt
    · exact (hr.lt k h).2
  case assign =>
    intro l pre M x W K hi hrd hK
    gi_wp2
    exact hK _ M _ ⟨(Fr.refl M W).alloc _, fun k h => .inl h⟩ ((ap3_keeps w _ w.heap.size (Nat.le_refl _)).alloc _ hi) trivial ⟨W.heap.size, rfl, blk_new W _⟩
  case body =>
    rintro l pre M x a' W hMl hl ⟨v, hv, hrow, hM, hg, hb⟩ hrd ⟨B, rfl, hBx⟩ hlen
    have hc := hv.cell
    obtain ⟨x0, x1, x2⟩ := x
    have hB0 : W.cell? ⟨B, 0, none⟩ = some (.int .i64 x0) := blk_cell hBx 0
    have hB1 : W.cell? ⟨B, 1, none⟩ = some (.int .i64 x1) := blk_cell hBx 1
    have hB2 : W.cell? ⟨B, 2, none⟩ = some (.int .i64 x2) := blk_cell hBx 2
    have HX := Lib.hid (And.intro hM (And.intro hg hb))
    have hgs := hg.size
    have hx3 : Hid (accCells pre ++ [Value.int .i64 x0, .int .i64 x1, .int .i64 x2] = accCells (pre ++ [(x0, x1, x2)])) := by show _ = _; simp [accCells]
    clear hM hg hb hMl hl hBx
    gi_wp2_with (gi_at_builtin; refine wpListIn_append_own_at _ rfl _ _ 22 rfl w.heap.size 24 i0 (.agg #[.int .i64 0, .int .i64 0, .int .i64 0]) 3 24 Try.underlying22 hi hz0 hz1 hz2 rfl (by decide) _ _ _ rfl (hrow.alloc _) ⟨W.heap.size, 0, none⟩ 1 1 [.int .i64 x0, .int .i64 x1, .int .i64 x2] rfl rfl (cells_new _ _ _) (by simp [Value.oneCell']) (by unfold maxLen; omega) (by omega) (by simp; omega) ?_; intro v' w1 hown' hgrow _ hat; obtain ⟨g', cap', rfl⟩ := ownsRow_succ hown'; have H7 := Lib.hid (ap3_step hx3.out hv hrow HX.out.1 HX.out.2.1 HX.out.2.2 hown' hgrow hat); have hv1 := (hv.appended (by decide) hrow HX.out.2.1.size HX.out.2.2 hown' hgrow).1; have hc1 := hv1.cell; have hf1 := hv1.frozen; clear hat hgrow hown' hv1)
    exact H7.out
  case done =>
    rintro D xs M W hD hS ⟨v, hv, hrow, hM, hg, hb⟩ hMD hK
    have hc := hv.cell
    have HX := Lib.hid hg
    clear hM hg hb hMD
    gi_wp2
    refine ⟨by simp, .inl ⟨_, _, rfl, run_takeDeferred hK, ?_⟩⟩
    refine ⟨_, results_tmp rfl _ _ _, v, xs, hS, rfl, ownsRow_putObj hrow _ hK rfl, ?_⟩
    exact HX.out.grown (grownBy_putObj' W D _) (fun k e => by cases e; simp at hD; omega)
  case stop =>
    intro D c pre W _ _ h _
    exact h.elim
set_option maxHeartbeats 1000000 in
theorem collect3_in (n : Nat) (hn : 4 ≤ n) {gf : Nat} {lb : Array Value} (eg : ∀ args w, (callFunc gf args).run Try.prog w = .ok (.enter gf args) w) (w : World) {S : List A3 → Prop} {N : Nat} (hN : N ≤ 10000) {own : Nat → Prop} (hown : ∀ k, own k → k < w.heap.size)
    (hseq : ∀ W n, 1 ≤ n → Grow w W → SeqM Fence.wide n Try.prog gf lb (fun x : A3 => #[agA x]) (fun _ _ _ => True) S (fun _ => True) N own W) :
    CallsIn Fence.wide n Try.prog 61 #[.func (.func gf) #[] lb] w (Coll3 w S) := by
  have ca := Lib.hid (append3_in (n - 1) (by omega) eg w hN hown hseq)
  clear hseq hown
  have hfF : Fence.wide.fn 81 := trivial
  have h1n : 1 ≤ n := by omega
  refine callsIn_of_wp Try.func61 rfl trivial ?_ rfl
  simp only [Try.ntmps61, List.size_toArray, List.length_cons, List.length_nil, Nat.reduceAdd, Nat.reduceSub, Array.replicate_succ, Array.replicate_zero, List.push_toArray, List.append_toArray, List.nil_append, List.cons_append]
  gi_wp2_with (gi_at_call 81; refine ca.out.mono ?_; rintro e w' ⟨v, xs, hS, rfl, hrow, hg⟩; have HC : Hid (Coll3 w S (.returned v) w') := ⟨v, xs, hS, rfl, hrow, hg⟩; clear hS hrow hg)
  go_ret
  exact HC.out
/-- Collecting a slice's values. -/
theorem collectV {w : World} {Bs : Nat} {A : Option Addr} {cap : Nat} {l : List A3} (hlen : l.length ≤ 10000) (hB : Boxed w Bs 22 (.slice A l.length cap)) (hI : Acc w A l) :
    Calls Try.prog 61 #[.func (.func 63) #[] #[.pointer (some ⟨Bs, 0, none⟩)]] w (Coll3 w (fun ys => ys = l)) := by
  refine (callsIn_wide (n := 8)).1 (collect3_in 8 (by omega) (enters_of Try.func63 (by kernel_rfl) rfl) w hlen (own := fun k => k = Bs ∨ (l ≠ [] ∧ blkOf A k)) ?_ ?_)
  · rintro k (rfl | ⟨hne, a, rfl, rfl⟩)
    · exact hB.lt
    · rcases hI with h | ⟨b, off, h1, h2⟩
      · exact absurd h hne
      · cases h1
        cases l with
        | nil => exact absurd rfl hne
        | cons x l => exact World.block_lt_of_cell? w ⟨b, off + 0 * 3, none⟩ (h2 0 x rfl).1
  · intro W n hn hg
    exact values3_seq n hn Bs A cap l hlen W (hg.at_ hB) (hI.grow hg)
end Go.Proofs.Ytabplbalacldfaa
