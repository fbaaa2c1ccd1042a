/- Contracts of Layout, the program's and the reference's: for every size and every list of cells that memory holds. -/
import Derived.Test.YtabplbalacldfaaLpB
set_option linter.unusedVariables false
set_option linter.unusedSimpArgs false
namespace Go.Proofs.Ytabplbalacldfaa
open Go.RowKit Go.Kx Go.Maps Go.Sort Go.Shelf
def sizeB (size : Int) : Bool := decide (1 ≤ size) && decide (size ≤ 16)
def okC (cells : List Int) (i : Nat) : Bool := decide (0 ≤ cells[i]?.getD 0) && decide (cells[i]?.getD 0 ≤ 2000) && (decide (i = 0) || decide (cells[i - 1]?.getD 0 < cells[i]?.getD 0))
def layB (size : Int) (cells : List Int) : Bool := sizeB size && decide (cells.length ≤ 100) && (List.range cells.length).all (okC cells)
def layL (size : Int) (n : Nat) : List Int := (List.range n).map fun i : Nat => (i : Int) * size
theorem layL_succ (size : Int) (n : Nat) : layL size (n + 1) = layL size n ++ [(n : Int) * size] := by simp [layL, List.range_succ]
theorem layL_len (size : Int) (n : Nat) : (layL size n).length = n := by simp [layL]
/-- What a function that makes a list or refuses answers. -/
def MadeE (w : World) (ok : Bool) (l : List Int) (e : Ending) (w' : World) : Prop :=
  ∃ v, e = .returned (.tuple #[v, .int .i64 (if ok then 0 else 1)]) ∧ w'.ownsRow w.heap.size 3 1 v (if ok then l else []).length ((if ok then l else []).map (Value.int .i64)) ∧ Grow w w'
theorem MadeE.no {w w' : World} {l : List Int} (hg : Grow w w') : MadeE w false l (.returned (.tuple #[.slice none 0 0, .int .i64 1])) w' := ⟨_, rfl, World.ownsRow_nil _ _ _ _, hg⟩
theorem MadeE.form {w w' : World} {ok : Bool} {l : List Int} {e : Ending} (h : MadeE w ok l e w') : ∃ A cap, e = .returned (.tuple #[.slice A (if ok then l else []).length cap, .int .i64 (if ok then 0 else 1)]) ∧ IntsAt w' A (if ok then l else []) ∧ Grow w w' := by
  obtain ⟨v, rfl, ho, hg⟩ := h
  obtain ⟨A, cap, rfl, hi, _⟩ := ints_of_own ho
  exact ⟨A, cap, rfl, hi, hg⟩
theorem mul_bd {k : Nat} {size : Int} (hk : (k : Int) ≤ 100000) (h1 : 1 ≤ size) (h16 : size ≤ 16) : 0 ≤ (k : Int) * size ∧ (k : Int) * size ≤ 1600000 := by
  have a : 0 ≤ (k : Int) * size := Int.mul_nonneg (by omega) (by omega)
  have b : (k : Int) * size ≤ 100000 * 16 := Int.mul_le_mul hk h16 (by omega) (by omega)
  omega
theorem okC_all {cells : List Int} {n : Nat} (hn : n < cells.length) (h : okC cells n = false) : (List.range cells.length).all (okC cells) = false := by
  rw [List.all_eq_false]
  exact ⟨n, by simpa using hn, by simp [h]⟩
set_option maxRecDepth 100000 in
set_option maxHeartbeats 4000000 in
theorem layout_any {w : World} {A : Option Addr} {cap : Nat} {cells : List Int} (size : Int) (h : IntsAt w A cells) (hn : cells.length ≤ 1000000) :
    Calls Try.prog 20 #[.int .i64 size, .slice A cells.length cap] w (MadeE w (layB size cells) (layL size cells.length)) := by
  refine cph fun R HR => ?_
  have H := Lib.hid h
  clear h
  by_cases hs : 1 ≤ size ∧ size ≤ 16
  · obtain ⟨s1, s16⟩ := hs
    have hsb : sizeB size = true := by simp [sizeB, s1, s16]
    have HSB := Lib.hid hsb
    have e1 : (decide (1 ≤ size) && decide (size ≤ 16)) = true := hsb
    clear hsb
    by_cases hl : cells.length ≤ 100
    · have e3 : ¬ (100 : Int) < (cells.length : Int) := by omega
      have HLB : Hid (layB size cells = (List.range cells.length).all (okC cells)) := by show _ = _; unfold layB; rw [HSB.out]; simp [hl]
      obtain ⟨i0, hi, hz0, hz1, hz2⟩ := info_parts info3x
      have HI := Lib.hid (And.intro hi (And.intro hz0 (And.intro hz1 hz2)))
      clear hi hz0 hz1 hz2
      go_enter Try.func20, Try.ntmps20
      go_wp2_with (go_at_call 27; refine (isSize_any size _).mono ?_; rintro e w1 ⟨rfl, rfl⟩)
      clear e1
      go_loopw [6, 19] (fun v i wr => ∃ k : Nat, k ≤ cells.length ∧ i = .int .i64 k ∧ Hid (wr.ownsRow w.heap.size 3 1 v k ((layL size k).map (Value.int .i64)) ∧ Grow w wr ∧ ∀ j, j < k → okC cells j = true)) (fun _ i _ => cells.length - (intOf i).toNat)
      case atStart => exact ⟨0, Nat.zero_le _, rfl, World.ownsRow_nil _ _ _ _, Grow.refl _, fun j hj => absurd hj (Nat.not_lt_zero _)⟩
      case round =>
        obtain ⟨k, hk, rfl, HO⟩ := hrel
        by_cases hlt : k < cells.length
        · have hki : (k : Int) < (cells.length : Int) := by omega
          obtain ⟨b, off, rfl, hc⟩ := (H.out.grow HO.out.2.1).at_ hlt
          have hok : okC cells k = (decide (0 ≤ cells[k]) && decide (cells[k] ≤ 2000) && (decide (k = 0) || decide (cells[k - 1]?.getD 0 < cells[k]))) := by
            unfold okC; rw [List.getElem?_eq_getElem hlt, Option.getD_some]
          have hall := okC_all hlt
          obtain ⟨c, hcc⟩ : ∃ c, c = cells[k] := ⟨_, rfl⟩
          rw [← hcc] at hc hok
          clear hcc
          by_cases c1 : c < 0
          · have hb : layB size cells = false := by rw [HLB.out]; exact hall (by rw [hok]; simp; omega)
            rw [hb] at HR
            clear hb hall hok
            go_wp2_with fail
            exact HR.out _ _ (MadeE.no HO.out.2.1)
          · have d1 : decide (c < 0) = false := by simp; omega
            by_cases c2 : 2000 < c
            · have d2 : decide (2000 < c) = true := by simp; omega
              have hb : layB size cells = false := by rw [HLB.out]; exact hall (by rw [hok]; simp; omega)
              rw [hb] at HR
              clear hb hall hok
              go_wp2_with fail
              exact HR.out _ _ (MadeE.no HO.out.2.1)
            · have d2 : decide (2000 < c) = false := by simp; omega
              have hmb := mul_bd (k := k) (size := size) (by omega) s1 s16
              have hgs := HO.out.2.1.size
              have HOq : Hid (∀ q : Nat, (wr).ownsRow w.heap.size 3 1 u6 k ((layL size k).map (Value.int .i64))) := fun q => HO.out.1
              have fin : Hid (okC cells k = true → ∀ j, j < k + 1 → okC cells j = true) := by
                show _ → _
                intro hkk j hj
                by_cases e : j = k
                · rw [e]; exact hkk
                · exact HO.out.2.2 j (by omega)
              by_cases c3 : k = 0
              · subst c3
                simp only [Nat.add_zero] at hc
                have hk1 : Hid (okC cells 0 = true) := by show _ = _; rw [hok]; simp; omega
                clear hok hall
                go_wp2_with (at_builtin; refine wpList_append_own_at _ rfl (.tmp 43) (.tmp 47) 44 rfl w.heap.size 3 i0 (.int .i64 0) 1 8 Try.underlying44 HI.out.1 HI.out.2.1 HI.out.2.2.1 HI.out.2.2.2 rfl (by decide) _ _ _ rfl ((HOq.out 0).alloc _) ⟨wr.heap.size, 0, none⟩ 1 1 [.int .i64 0] rfl rfl (cell_one_new _ _ _) (by simp [Value.oneCell']) (by unfold maxLen; omega) (by omega) (by simp; omega) ?_)
                intro v' w1 hown hgrow _ hat
                have H7 : Hid (w1.ownsRow w.heap.size 3 1 v' (0 + 1) ((layL size (0 + 1)).map (Value.int .i64)) ∧ Grow w w1) := ⟨by rw [layL_succ]; simpa using hown, (HO.out.2.1.alloc _).grown hgrow (fun j e => (HO.out.1.lt j e).1)⟩
                clear hown hgrow hat
                go_wp2_with fail
                go_roundw
                case rel => exact ⟨0 + 1, by omega, by go_num, H7.out.1, H7.out.2, fin.out hk1.out⟩
                case measure => simp [intOf]; omega
              · obtain ⟨b2, off2, hA2, hc2⟩ := (H.out.grow HO.out.2.1).at_ (show k - 1 < cells.length by omega)
                cases hA2
                have hgd : cells[k - 1]?.getD 0 = cells[k - 1]'(by omega) := by rw [List.getElem?_eq_getElem (show k - 1 < cells.length by omega), Option.getD_some]
                rw [hgd] at hok
                generalize cells[k - 1]'(by omega) = p at hc2 hok
                clear hgd
                obtain ⟨k, rfl⟩ : ∃ k', k = k' + 1 := ⟨k - 1, by omega⟩
                rw [show k + 1 - 1 = k by omega] at hc2
                have kp : (0 : Int) < (k : Int) + 1 := by omega
                have hkl : (k : Int) < (cells.length : Int) := by omega
                replace hmb : 0 ≤ ((k : Int) + 1) * size ∧ ((k : Int) + 1) * size ≤ 1600000 := hmb
                have d3 : decide ((0 : Int) < (k : Int) + 1) = true := decide_eq_true (by omega)
                by_cases c4 : c ≤ p
                · have d4 : decide (c ≤ p) = true := by simp; omega
                  have hb : layB size cells = false := by rw [HLB.out]; exact hall (by rw [hok]; simp; omega)
                  rw [hb] at HR
                  clear hb hall hok
                  go_wp2_with fail
                  exact HR.out _ _ (MadeE.no HO.out.2.1)
                · have d4 : decide (c ≤ p) = false := by simp; omega
                  have hk1 : Hid (okC cells (k + 1) = true) := by show _ = _; rw [hok]; simp; omega
                  clear hok hall
                  go_wp2_with (at_builtin; refine wpList_append_own_at _ rfl (.tmp 43) (.tmp 47) 44 rfl w.heap.size 3 i0 (.int .i64 0) 1 8 Try.underlying44 HI.out.1 HI.out.2.1 HI.out.2.2.1 HI.out.2.2.2 rfl (by decide) _ _ _ rfl ((HOq.out 0).alloc _) ⟨wr.heap.size, 0, none⟩ 1 1 [.int .i64 (((k : Int) + 1) * size)] rfl rfl (cell_one_new _ _ _) (by simp [Value.oneCell']) (by unfold maxLen; omega) (by omega) (by simp; omega) ?_)
                  intro v' w1 hown hgrow _ hat
                  have H7 : Hid (w1.ownsRow w.heap.size 3 1 v' (k + 1 + 1) ((layL size (k + 1 + 1)).map (Value.int .i64)) ∧ Grow w w1) := ⟨by rw [layL_succ]; simpa using hown, (HO.out.2.1.alloc _).grown hgrow (fun j e => (HO.out.1.lt j e).1)⟩
                  clear hown hgrow hat
                  go_wp2_with fail
                  go_roundw
                  case rel => exact ⟨k + 1 + 1, by omega, by go_num, H7.out.1, H7.out.2, fin.out hk1.out⟩
                  case measure => simp [intOf]; omega
        · have hki : ¬ (k : Int) < (cells.length : Int) := by omega
          have hke : k = cells.length := by omega
          have hb : layB size cells = true := by
            rw [HLB.out, List.all_eq_true]
            intro j hj
            exact HO.out.2.2 j (by rw [List.mem_range] at hj; omega)
          rw [hb] at HR
          clear hb
          have H9 : Hid (wr.ownsRow w.heap.size 3 1 u6 (layL size cells.length).length ((layL size cells.length).map (Value.int .i64)) ∧ Grow w wr) := ⟨by rw [layL_len, ← hke]; exact HO.out.1, HO.out.2.1⟩
          go_wp2_with fail
          exact HR.out _ _ ⟨_, rfl, H9.out.1, H9.out.2⟩
    · have hb : layB size cells = false := by unfold layB; simp [hl]
      rw [hb] at HR
      have e3 : (100 : Int) < (cells.length : Int) := by omega
      clear hb
      go_enter Try.func20, Try.ntmps20
      go_wp2_with (go_at_call 27; refine (isSize_any size _).mono ?_; rintro e w1 ⟨rfl, rfl⟩)
      exact HR.out _ _ (MadeE.no (Grow.refl _))
  · have e1 : (decide (1 ≤ size) && decide (size ≤ 16)) = false := by simp; omega
    have hb : layB size cells = false := by unfold layB sizeB; rw [e1]; simp
    rw [hb] at HR
    clear hb
    go_enter Try.func20, Try.ntmps20
    go_wp2_with (go_at_call 27; refine (isSize_any size _).mono ?_; rintro e w1 ⟨rfl, rfl⟩)
    exact HR.out _ _ (MadeE.no (Grow.refl _))
end Go.Proofs.Ytabplbalacldfaa
