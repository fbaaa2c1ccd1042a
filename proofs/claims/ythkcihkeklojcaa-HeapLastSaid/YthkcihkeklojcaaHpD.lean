/- Which free place of a size became free last: the contract of lastOf, and of the iterator that it ranges over. -/
import Derived.Test.YthkcihkeklojcaaHpC
import Derived.RangeFuncNested
import Derived.RangeFuncBound
import Derived.RangeFuncBox
import Derived.RangeFuncCalls
import Derived.RangeFuncLeaves
import Derived.Shelf.Abstract
import Derived.Shelf.RegionOpen
import Derived.WalkKit
import Derived.OwnWalkIn
import Derived.TacticsInMore
import Derived.LoopNIn
import Derived.LoopIn
set_option linter.unusedVariables false
set_option linter.unusedSimpArgs false
namespace Go.Proofs.Ythkcihkeklojcaa
open Go.RowKit Go.Shelf Go.Kx
attribute [local go_sem] Oper.semAt_some
def upto {α : Type} (f : Nat → α) (k : Nat) : List α := (List.range k).map f
theorem upto_succ {α : Type} (f : Nat → α) (k : Nat) : upto f (k + 1) = upto f k ++ [f k] := by simp [upto, List.range_succ]
theorem upto_length {α : Type} (f : Nat → α) (k : Nat) : (upto f k).length = k := by simp [upto]
/-- What comes at round j. -/
def bw (zs : List (Int × Int)) (len j : Nat) : Nat × Int × Int := (len - 1 - j, zs[len - 1 - j]?.getD (0, 0))
def PlacesAt (n₀ : Nat) (W : World) (sv : Value) (zs : List (Int × Int)) : Prop :=
  (sv = .slice none 0 0 ∧ zs = []) ∨ ∃ b cap, sv = .slice (some ⟨b, 0, none⟩) zs.length cap ∧ b < n₀ ∧ ∀ j, j < zs.length → W.cell? ⟨b, j * 2, none⟩ = some (.int .i64 (zs[j]?.getD (0, 0)).1) ∧ W.cell? ⟨b, j * 2 + 1, none⟩ = some (.int .i64 (zs[j]?.getD (0, 0)).2)
theorem PlacesAt.below {n₀ : Nat} {A B : World} (h : Below n₀ A B) {sv : Value} {zs : List (Int × Int)} : PlacesAt n₀ A sv zs → PlacesAt n₀ B sv zs
  | .inl e => .inl e
  | .inr ⟨b, cap, e, hb, hc⟩ => .inr ⟨b, cap, e, hb, fun j hj => ⟨(h.cell (p := ⟨b, j * 2, none⟩) hb).trans (hc j hj).1, (h.cell (p := ⟨b, j * 2 + 1, none⟩) hb).trans (hc j hj).2⟩⟩
set_option maxRecDepth 100000 in
set_option maxHeartbeats 2000000 in
theorem back1_in (F : Fence) (n : Nat) (h8 : F.fn 44) (hro : F.round = none) (hn : 1 ≤ n) (l Bs n₀ b len cap : Nat) (zs : List (Int × Int)) (hreach : len ≤ 1000000) (hb : b < n₀) (J Jx : List (Nat × Int × Int) → World → Prop)
    (hY : ∀ pre x W, J pre W → pre.length < len → YieldAt F (n - 1) Try.prog l #[.int .i64 (x.1 : Int), .agg #[.int .i64 x.2.1, .int .i64 x.2.2]] W fun e W' =>
      (e = .returned (.bool true) ∧ J (pre ++ [x]) W' ∧ Below n₀ W W') ∨ (e = .returned (.bool false) ∧ Jx (pre ++ [x]) W'))
    (W : World) (hBs0 : Bs < n₀) (hBs : W.cell? ⟨Bs, 0, none⟩ = some (.slice (some ⟨b, 0, none⟩) len cap)) (hc : ∀ j, j < len → W.cell? ⟨b, j * 2, none⟩ = some (.int .i64 (zs[j]?.getD (0, 0)).1) ∧ W.cell? ⟨b, j * 2 + 1, none⟩ = some (.int .i64 (zs[j]?.getD (0, 0)).2)) (h0 : J [] W) :
    CallsIn F n Try.prog 44 #[.func (.yield l) #[] #[], .pointer (some ⟨Bs, 0, none⟩)] W fun e W' => (∃ v, e = .returned v) ∧
      ((∃ ys, ys = upto (bw zs len) len ∧ J ys W') ∨ (∃ pre, (∃ k, k ≤ len ∧ pre = upto (bw zs len) k) ∧ Jx pre W')) := by
  refine callsIn_of_wp Try.func44 rfl h8 ?_ hro
  simp only [Try.ntmps44, List.size_toArray, List.length_cons, List.length_nil, Nat.reduceAdd, Nat.reduceSub, Array.replicate_succ, Array.replicate_zero, List.push_toArray, List.append_toArray, List.nil_append, List.cons_append]
  gi_wp2
  gi_loopw [3] (fun i wr => ∃ m : Nat, m ≤ len ∧ i = .int .i64 ((m : Int) - 1) ∧ J (upto (bw zs len) (len - m)) wr ∧ Below n₀ W wr)
    (fun i _ => (intOf i + 1).toNat)
  case atStart => exact ⟨len, Nat.le_refl _, rfl, by rw [Nat.sub_self]; exact h0, Below.refl _ _⟩
  case round =>
    obtain ⟨m, hm, rfl, hJs, hnx⟩ := hrel
    cases m with
    | zero =>
      gi_wp2
      go_end0
      exact ⟨⟨_, rfl⟩, .inl ⟨_, rfl, hJs⟩⟩
    | succ m =>
      have e1 : (((m + 1 : Nat) : Int) - 1) = (m : Int) := by omega
      rw [e1]
      have hcx := hc m (by omega)
      have hb' := (hnx.cell (p := ⟨Bs, 0, none⟩) hBs0).trans hBs
      have c0 := (hnx.cell (p := ⟨b, m * 2, none⟩) hb).trans hcx.1
      have c1 := (hnx.cell (p := ⟨b, m * 2 + 1, none⟩) hb).trans hcx.2
      have hbw : bw zs len (len - (m + 1)) = (m, zs[m]?.getD (0, 0)) := by unfold bw; rw [show len - 1 - (len - (m + 1)) = m by omega]
      obtain ⟨fn, tmps, assign, body, hy, hR⟩ := hY _ (m, zs[m]?.getD (0, 0)) wr hJs (by rw [upto_length]; omega)
      dsimp only at hy
      have hup : upto (bw zs len) (len - (m + 1)) ++ [(m, zs[m]?.getD (0, 0))] = upto (bw zs len) (len - m) := by
        rw [← hbw, ← upto_succ, show len - (m + 1) + 1 = len - m by omega]
      have hm1 : m < len := by omega
      have hm2 : (m : Int) < (len : Int) := by omega
      clear hcx hbw
      gi_wp2
      refine hR.mono ?_
      rintro e W3 (⟨rfl, hJ3, hk3⟩ | ⟨rfl, hJx3⟩)
      · gi_wp2
        go_roundw
        case rel => exact ⟨m, by omega, by first | rfl | go_num, by rw [← hup]; exact hJ3, hnx.trans hk3⟩
        case measure => simp [intOf] <;> omega
      · gi_wp2
        refine bodyPost_ret (results_none rfl _ _ _) rfl ?_
        exact ⟨⟨_, rfl⟩, .inr ⟨_, ⟨len - m, by omega, hup⟩, hJx3⟩⟩
set_option maxRecDepth 100000 in
set_option maxHeartbeats 1000000 in
theorem back1_nil_in (F : Fence) (n : Nat) (h8 : F.fn 44) (hro : F.round = none) (l Bs : Nat) (J : List (Nat × Int × Int) → World → Prop) (W : World) (hBs : W.cell? ⟨Bs, 0, none⟩ = some (.slice none 0 0)) (h0 : J [] W) :
    CallsIn F n Try.prog 44 #[.func (.yield l) #[] #[], .pointer (some ⟨Bs, 0, none⟩)] W fun e W' => (∃ v, e = .returned v) ∧ J [] W' := by
  refine callsIn_of_wp Try.func44 rfl h8 ?_ hro
  simp only [Try.ntmps44, List.size_toArray, List.length_cons, List.length_nil, Nat.reduceAdd, Nat.reduceSub, Array.replicate_succ, Array.replicate_zero, List.push_toArray, List.append_toArray, List.nil_append, List.cons_append]
  gi_wp2
  gi_loopw [3] (fun i wr => i = .int .i64 (-1) ∧ J [] wr) (fun _ _ => 0)
  case atStart => exact ⟨rfl, h0⟩
  case round =>
    obtain ⟨rfl, hJs⟩ := hrel
    gi_wp2
    go_end0
    exact ⟨⟨_, rfl⟩, hJs⟩
theorem back_in (F : Fence) (n : Nat) (h6 : F.fn 39) (hro : F.round = none) (a : Option Addr) (len cap : Nat) (w : World) :
    CallsIn F n Try.prog 39 #[.slice a len cap] w fun e w' => e = .returned (.func (.func 44) #[] #[.pointer (some ⟨w.heap.size, 0, none⟩)]) ∧ w' = w.alloc (.cells #[.slice a len cap] 44) := by
  refine callsIn_of_wp Try.func39 rfl h6 ?_ hro
  simp only [Try.ntmps39, List.size_toArray, List.length_cons, List.length_nil, Nat.reduceAdd, Nat.reduceSub, Array.replicate_succ, Array.replicate_zero, List.push_toArray, List.append_toArray, List.nil_append, List.cons_append]
  gi_wp2
  go_ret
  exact ⟨rfl, rfl⟩
theorem back_stops (F : Fence) (n : Nat) (h8 : F.fn 44) (hro : F.round = none) (hn : 1 ≤ n) (Bs n₀ : Nat) (sv : Value) (zs : List (Int × Int)) (hreach : zs.length ≤ 1000000) (w : World) (hBs : Bs < n₀) (hn₀ : n₀ ≤ w.heap.size)
    (hc : w.cell? ⟨Bs, 0, none⟩ = some sv) (hI : PlacesAt n₀ w sv zs) :
    SeqStopsK F n Try.prog 44 #[.pointer (some ⟨Bs, 0, none⟩)] (fun x : Nat × Int × Int => #[Value.int .i64 (x.1 : Int), Value.agg #[.int .i64 x.2.1, .int .i64 x.2.2]]) (Below n₀) (fun ys => ys = upto (bw zs zs.length) zs.length)
      (fun pre => ∃ k, k ≤ zs.length ∧ pre = upto (bw zs zs.length) k) zs.length w := fun l J Jx W hW _ _ hY h0 => by
  have hc' := (hW.cell (p := ⟨Bs, 0, none⟩) (Nat.lt_of_lt_of_le hBs hn₀)).trans hc
  rcases hI.below (hW.mono hn₀) with ⟨rfl, rfl⟩ | ⟨b, cap, rfl, hb, hcs⟩
  · exact (back1_nil_in F n h8 hro l Bs J W hc' h0).mono fun e W' ⟨he, hj⟩ => ⟨he, .inl ⟨_, rfl, hj⟩⟩
  · exact back1_in F n h8 hro hn l Bs n₀ b zs.length cap zs hreach hb J Jx hY W hBs hc' hcs h0
/-- The index of the last place of a size, of the first k; -1: there is none. -/
def lastFrom (l : List (Int × Int)) (n : Int) : Nat → Int
  | 0 => -1
  | k + 1 => if (l[k]?.getD (0, 0)).2 = n then (k : Int) else lastFrom l n k
def lastOf (l : List (Int × Int)) (n : Int) : Int := lastFrom l n l.length
theorem lastFrom_bw (l : List (Int × Int)) (n : Int) : ∀ k, k ≤ l.length → (∀ p ∈ upto (bw l l.length) k, p.2.2 ≠ n) → lastOf l n = lastFrom l n (l.length - k) := by
  intro k
  induction k with
  | zero => intro _ _; rfl
  | succ k ih =>
    intro hk h
    rw [upto_succ] at h
    rw [ih (by omega) (fun p hp => h p (List.mem_append.2 (.inl hp)))]
    have hx := h (bw l l.length k) (List.mem_append.2 (.inr (by simp)))
    obtain ⟨m, hm⟩ : ∃ m, l.length - k = m + 1 := ⟨l.length - k - 1, by omega⟩
    have e1 : l.length - (k + 1) = m := by omega
    have e2 : l.length - 1 - k = m := by omega
    rw [hm, e1]
    unfold bw at hx
    rw [e2] at hx
    show (if _ then _ else _) = _
    rw [if_neg hx]
set_option maxRecDepth 100000 in
set_option maxHeartbeats 2000000 in
theorem last_in (F : Fence) (n : Nat) (h3 : F.fn 27) (h6 : F.fn 39) (h8 : F.fn 44) (hro : F.round = none) (hn : 3 ≤ n)
    (a : Option Addr) (len cap : Nat) (zs : List (Int × Int)) (hreach : zs.length ≤ 1000000) (z : Int) (w : World) (hI : PlacesAt w.heap.size w (.slice a len cap) zs) :
    CallsIn F n Try.prog 27 #[.slice a len cap, .int .i64 z] w fun e W' => e = .returned (.int .i64 (lastOf zs z)) ∧ Below w.heap.size w W' := by
  have h1 : 1 ≤ n := by omega
  refine callsIn_of_wp_marks Try.func27 rfl h3 ?_ hro
  simp only [Try.ntmps27, List.size_toArray, List.length_cons, List.length_nil, Nat.reduceAdd, Nat.reduceSub, Array.replicate_succ, Array.replicate_zero, List.push_toArray, List.append_toArray, List.nil_append, List.cons_append]
  gi_wp2_with (gi_at_call 39; refine (back_in F (n - 1) h6 hro _ _ _ _).mono ?_; rintro e w' ⟨rfl, rfl⟩)
  obtain ⟨W0, hW0⟩ : ∃ W0, (((w.alloc (.cells #[.int .i64 z] 3)).alloc (.cells #[.int .i64 0] 3)).alloc (.cells #[.slice a len cap] 44)) = W0 := ⟨_, rfl⟩
  have hs0 : W0.heap.size = w.heap.size + 3 := by rw [← hW0]; simp
  have bZ : Boxed W0 w.heap.size 3 (.int .i64 z) := by rw [← hW0]; exact ((Boxed.new w 3 _).alloc _).alloc _
  have bR : Boxed W0 (w.heap.size + 1) 3 (.int .i64 0) := by
    rw [← hW0]
    have := (Boxed.new (w.alloc (.cells #[.int .i64 z] 3)) 3 (.int .i64 0)).alloc (.cells #[.slice a len cap] 44)
    rwa [World.size_alloc] at this
  have bS : Boxed W0 (w.heap.size + 1 + 1) 44 (.slice a len cap) := by
    rw [← hW0]
    have := Boxed.new ((w.alloc (.cells #[.int .i64 z] 3)).alloc (.cells #[.int .i64 0] 3)) 44 (.slice a len cap)
    rwa [World.size_alloc, World.size_alloc] at this
  have hB0 : Below w.heap.size w W0 := by rw [← hW0]; exact (((Below.refl _ w).alloc (Nat.le_refl _) _).alloc (by simp) _).alloc (by simp; omega) _
  rw [hW0]
  clear hW0
  have hI0 : PlacesAt (w.heap.size + 3) W0 (.slice a len cap) zs := by
    rcases hI.below hB0 with h | ⟨b, c, h1, h2, h3⟩
    · exact .inl h
    · exact .inr ⟨b, c, h1, by omega, h3⟩
  refine wpIn_rangeFunc_ownH hro h1 (gf := 44) (lb := #[.pointer (some ⟨w.heap.size + 1 + 1, 0, none⟩)]) rfl h8 (enters_of Try.func44 (by kernel_rfl) rfl)
    (back_stops F (n - 1) h8 hro (by omega) (w.heap.size + 1 + 1) (w.heap.size + 3) _ zs hreach W0 (by omega) (by omega) bS.cell hI0) belowK_t (belowK_b (by omega)) (Below.refl _ _) (fun _ => rfl)
    (fun pre W => ((((∀ p ∈ pre, p.2.2 ≠ z) ∧ Boxed W (w.heap.size + 1) 3 (.int .i64 0)) ∧ Boxed W w.heap.size 3 (.int .i64 z)) ∧ Boxed W (w.heap.size + 1 + 1) 44 (.slice a len cap)) ∧ Below w.heap.size w W)
    (fun c pre W => ((c = .ret ∧ ∃ ini last, pre = ini ++ [last] ∧ (∀ p ∈ ini, p.2.2 ≠ z) ∧ last.2.2 = z ∧ W.cell? ⟨w.heap.size + 1, 0, none⟩ = some (.int .i64 (last.1 : Int)))) ∧ Below w.heap.size w W)
    (OwnFrom.and (OwnFrom.and (OwnFrom.and (OwnFrom.and (ownFrom_pure _ _) (Own.from (boxed_own _ _ _) _)) (Own.from (boxed_own _ _ _) _)) (Own.from (boxed_own _ _ _) _)) (ownFrom_below (Nat.le_refl _) (by omega)))
    (fun c => OwnFrom.and (Own.from (fun s A B row hs hg hr => by obtain ⟨hc, ini, last, e1, e2, e3, e4⟩ := hs; exact ⟨hc, ini, last, e1, e2, e3, cell_kept e4 hg hr⟩) _) (ownFrom_below (Nat.le_refl _) (by omega)))
    ⟨⟨⟨⟨by simp, bR⟩, bZ⟩, bS⟩, hB0⟩
    (fun x a' W => ∃ Bx, w.heap.size + 1 < Bx ∧ W.heap[Bx]? = some (.cells #[.int .i64 x.2.1, .int .i64 x.2.2] 55 (0, 0)) ∧ a' = { tmps := #[.slice a len cap, .int .i64 z, undef, .pointer (some ⟨w.heap.size, 0, none⟩), .pointer (some ⟨w.heap.size + 1, 0, none⟩), .int .i64 (x.1 : Int), .pointer (some ⟨Bx, 0, none⟩), .slice a len cap, .func (.func 44) #[] #[.pointer (some ⟨w.heap.size + 1 + 1, 0, none⟩)], .int .i64 (x.1 : Int), .agg #[.int .i64 x.2.1, .int .i64 x.2.2], undef, undef, undef, undef, undef], defers := [] })
    (fun x a' _ X Y row hs hg hr => by
      obtain ⟨Bx, e1, e2, e3⟩ := hs
      refine ⟨Bx, e1, (hg.block Bx (blk_lt e2) (fun e' => ?_)).trans e2, e3⟩
      obtain ⟨o, ho, hc⟩ := (hr Bx e'.symm).2
      rw [e2] at ho; cases ho; cases hc)
    ?assign ?body ?done ?stop
  case assign =>
    rintro l pre x W K ⟨⟨⟨⟨hp, bR1⟩, bZ1⟩, bS1⟩, hB1⟩ hK
    gi_wp2
    exact hK _ _ ((KeepsOthers.alloc _ _).from _) ((Below.refl _ W).alloc (by have := bS1.lt; omega) _) ⟨⟨⟨⟨hp, bR1.alloc _⟩, bZ1.alloc _⟩, bS1.alloc _⟩, hB1.alloc hB1.size _⟩ ⟨W.heap.size, bR1.lt, World.alloc_heap_new W _, rfl⟩
  case body =>
    rintro l pre x a' W hl ⟨r, hr⟩ ⟨⟨⟨⟨hp, bR1⟩, bZ1⟩, bS1⟩, hB1⟩ ⟨Bx, hBx, bX, rfl⟩ hlt
    have cZ := bZ1.cell
    have cR := bR1.cell
    have fR := bR1.frozen
    have cX := blk_cell bX 1
    simp only [List.getElem?_toArray, List.getElem?_cons_zero, List.getElem?_cons_succ] at cX
    gi_wp2
    · have hx : x.2.2 = z := eq_of_beq (by assumption)
      exact ⟨(KeepsOthers.setCell _ _ _).from _, ⟨rfl, pre, x, rfl, hp, hx, World.cell?_setCell_same' _ _ _ (by rw [cR]; rfl)⟩, hB1.setCell (p := ⟨w.heap.size + 1, 0, none⟩) (by simp) _⟩
    · have hx : x.2.2 ≠ z := ne_of_beq_false (by assumption)
      exact ⟨KeepsFrom.refl _ _, Below.refl _ _, ⟨⟨⟨fun p hp' => (List.mem_append.1 hp').elim (hp p) (fun e => by simp at e; subst e; exact hx), bR1⟩, bZ1⟩, bS1⟩, hB1⟩
  case done =>
    rintro D ys W hD rfl ⟨⟨⟨⟨hne, bR1⟩, bZ1⟩, bS1⟩, hB1⟩ hK
    have cR := bR1.cell
    have fR := bR1.frozen
    gi_wp2
    have hK' := (KeepsOthers.setCell W ⟨w.heap.size + 1, 0, none⟩ (.int .i64 (-1))).same D _ hK rfl
    refine ⟨by simp, .inl ⟨_, _, rfl, run_takeDeferred hK', ?_⟩⟩
    have hc5 := cell_kept (World.cell?_setCell_same' W ⟨w.heap.size + 1, 0, none⟩ (.int .i64 (-1)) (by rw [cR]; rfl)) (grownBy_putObj' _ D (.deferred none)) (fun r e => by cases e; exact ⟨_, hK', rfl⟩)
    have hres : lastOf zs z = -1 := by
      rw [lastFrom_bw zs z zs.length (Nat.le_refl _) hne, Nat.sub_self]; rfl
    refine ⟨.int .i64 (-1), ?_, by rw [hres], (hB1.setCell (p := ⟨w.heap.size + 1, 0, none⟩) (by simp) _).trans (belowK_b (w := w) (Nat.le_refl _) _ D _ _ (by omega) hK' rfl rfl)⟩
    simp [results, Try.f27, go_sem, hc5]
  case stop =>
    rintro D c pre W hD ⟨k, hk, rfl⟩ ⟨⟨rfl, ini, last, e1, e2, e3, hcr⟩, hB⟩ hK
    gi_wp2
    refine ⟨by simp, .inl ⟨_, _, rfl, run_takeDeferred hK, ?_⟩⟩
    have hc5 := cell_kept hcr (grownBy_putObj' _ D (.deferred none)) (fun r e => by cases e; exact ⟨_, hK, rfl⟩)
    obtain ⟨k', rfl⟩ : ∃ k', k = k' + 1 := by
      cases k with
      | zero => simp [upto] at e1
      | succ k' => exact ⟨k', rfl⟩
    rw [upto_succ] at e1
    obtain ⟨rfl, e5⟩ := List.append_inj' e1 rfl
    obtain rfl : bw zs zs.length k' = last := by simpa using e5
    have hres : lastOf zs z = ((bw zs zs.length k').1 : Int) := by
      rw [lastFrom_bw zs z k' (by omega) e2]
      obtain ⟨m, hm⟩ : ∃ m, zs.length - k' = m + 1 := ⟨zs.length - k' - 1, by omega⟩
      have em : zs.length - 1 - k' = m := by omega
      rw [hm]
      unfold bw at e3 ⊢
      rw [em] at e3 ⊢
      show (if _ then _ else _) = _
      rw [if_pos e3]
    refine ⟨.int .i64 ((bw zs zs.length k').1 : Int), ?_, by rw [hres], hB.trans (belowK_b (w := w) (Nat.le_refl _) W D _ _ (by omega) hK rfl rfl)⟩
    simp [results, Try.f27, go_sem, hc5]
theorem last_any (w : World) (a : Option Addr) (len cap : Nat) (zs : List (Int × Int)) (hreach : zs.length ≤ 1000000) (z : Int) (hI : PlacesAt w.heap.size w (.slice a len cap) zs) :
    Calls Try.prog 27 #[.slice a len cap, .int .i64 z] w fun e W' => e = .returned (.int .i64 (lastOf zs z)) ∧ Grow w W' :=
  (callsIn_wide (n := 3)).1 ((last_in Fence.wide 3 trivial trivial trivial rfl (by omega) a len cap zs hreach z w hI).mono fun e W' ⟨h1, h2⟩ => ⟨h1, Grow.of_below h2⟩)
end Go.Proofs.Ythkcihkeklojcaa
