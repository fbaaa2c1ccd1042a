/- Bugs: isBug and the reference's Bug. -/
import Derived.Test.YtacfchepacfjnaaOdY
import Derived.Deep.QuietTactic
import Derived.BigQuiet
set_option linter.unusedVariables false
set_option linter.unusedSimpArgs false
namespace Go.Proofs.Ytacfchepacfjnaa
open Go.RowKit Go.Kx Go.Maps Go.Sort Go.Shelf
/-- A bug. -/
def bugV (i s j u : Int) : Value := .agg #[.int .i64 i, .int .i64 s, .int .i64 j, .int .i64 u]
def bugB (cs : List Int) (i s j u : Int) : Bool := decide (0 ≤ i) && (decide (i < cs.length) && (decide (0 ≤ j) && (decide (j < cs.length) && (!(decide (i = j)) && (decide (0 ≤ s) && (decide (s < cs[i.toNat]?.getD 0) && (decide (0 ≤ u) && decide (u < cs[j.toNat]?.getD 0))))))))
def BoolG (w : World) (b : Bool) (e : Ending) (w' : World) : Prop := e = .returned (.bool b) ∧ Grow w w'
set_option maxRecDepth 100000 in
set_option maxHeartbeats 2000000 in
theorem isBug_any {w : World} {A : Option Addr} {ca : Nat} {cs : List Int} (h : IntsAt w A cs) (i s j u : Int) : Calls Try.prog 43 #[.slice A cs.length ca, bugV i s j u] w (BoolG w (bugB cs i s j u)) := by
  refine cph fun R HR => ?_
  unfold bugV
  by_cases h1 : i < 0
  · clear h
    rw [show bugB cs i s j u = false by unfold bugB; simp; omega] at HR
    go_enter Try.func43, Try.ntmps43
    go_wp2
    go_quiet (fail)
    go_wp2
    refine HR.out _ _ ⟨rfl, ?_⟩
    first | exact ((Grow.refl w).alloc _).drewN _ | exact ((Grow.refl w).alloc _).drew
  by_cases h2 : (cs.length : Int) ≤ i
  · clear h
    rw [show bugB cs i s j u = false by unfold bugB; simp; omega] at HR
    go_enter Try.func43, Try.ntmps43
    go_wp2
    go_quiet (fail)
    go_wp2
    refine HR.out _ _ ⟨rfl, ?_⟩
    first | exact ((Grow.refl w).alloc _).drewN _ | exact ((Grow.refl w).alloc _).drew
  by_cases h3 : j < 0
  · clear h
    rw [show bugB cs i s j u = false by unfold bugB; simp; omega] at HR
    go_enter Try.func43, Try.ntmps43
    go_wp2
    go_quiet (fail)
    go_wp2
    refine HR.out _ _ ⟨rfl, ?_⟩
    first | exact ((Grow.refl w).alloc _).drewN _ | exact ((Grow.refl w).alloc _).drew
  by_cases h4 : (cs.length : Int) ≤ j
  · clear h
    rw [show bugB cs i s j u = false by unfold bugB; simp; omega] at HR
    go_enter Try.func43, Try.ntmps43
    go_wp2
    go_quiet (fail)
    go_wp2
    refine HR.out _ _ ⟨rfl, ?_⟩
    first | exact ((Grow.refl w).alloc _).drewN _ | exact ((Grow.refl w).alloc _).drew
  by_cases h5 : i = j
  · clear h
    subst h5
    rw [show bugB cs i s i u = false by unfold bugB; simp] at HR
    go_enter Try.func43, Try.ntmps43
    go_wp2
    go_quiet (fail)
    go_wp2
    refine HR.out _ _ ⟨rfl, ?_⟩
    first | exact ((Grow.refl w).alloc _).drewN _ | exact ((Grow.refl w).alloc _).drew
  obtain ⟨a, rfl⟩ : ∃ a : Nat, i = a := ⟨i.toNat, by omega⟩
  obtain ⟨b, rfl⟩ : ∃ b : Nat, j = b := ⟨j.toNat, by omega⟩
  have ha : a < cs.length := by omega
  have hb : b < cs.length := by omega
  have hab : ((a : Int) == (b : Int)) = false := by rw [beq_eq_false_iff_ne]; exact h5
  obtain ⟨bb, off, rfl, hc1⟩ := h.at_ ha
  obtain ⟨bb2, off2, hbb, hc2⟩ := h.at_ hb
  cases hbb
  have hBB : bugB cs a s b u = (decide (0 ≤ s) && (decide (s < cs[a]) && (decide (0 ≤ u) && decide (u < cs[b])))) := by
    unfold bugB
    rw [Int.toNat_natCast, Int.toNat_natCast, List.getElem?_eq_getElem ha, List.getElem?_eq_getElem hb, Option.getD_some, Option.getD_some, show decide ((0 : Int) ≤ (a : Int)) = true by simp, show decide ((a : Int) < cs.length) = true by simp; omega, show decide ((0 : Int) ≤ (b : Int)) = true by simp, show decide ((b : Int) < cs.length) = true by simp; omega, show decide ((a : Int) = (b : Int)) = false by simp; omega]
    rfl
  rw [hBB] at HR
  generalize cs[a] = x at hc1 HR hBB
  generalize cs[b] = y at hc2 HR hBB
  have hai : (a : Int) < cs.length := by omega
  have hbi : (b : Int) < cs.length := by omega
  have k1 : ∀ o q, ((w.alloc o).drewN q).cell? ⟨bb, off + a, none⟩ = some (.int .i64 x) := fun o q => ((Grow.refl w).alloc o).cell hc1
  have k2 : ∀ o q, ((w.alloc o).drewN q).cell? ⟨bb, off + b, none⟩ = some (.int .i64 y) := fun o q => ((Grow.refl w).alloc o).cell hc2
  have k3 : ∀ o, (w.alloc o).drew.cell? ⟨bb, off + a, none⟩ = some (.int .i64 x) := fun o => ((Grow.refl w).alloc o).cell hc1
  have k4 : ∀ o, (w.alloc o).drew.cell? ⟨bb, off + b, none⟩ = some (.int .i64 y) := fun o => ((Grow.refl w).alloc o).cell hc2
  clear h hBB h1 h2 h3 h4 h5
  by_cases g1 : s < 0
  · have d : decide (0 ≤ s) = false := by simp; omega
    rw [show (decide (0 ≤ s) && (decide (s < x) && (decide (0 ≤ u) && decide (u < y)))) = false by simp; omega] at HR
    go_enter Try.func43, Try.ntmps43
    go_wp2
    go_quiet (fail)
    go_wp2
    refine HR.out _ _ ⟨rfl, ?_⟩
    first | exact ((Grow.refl w).alloc _).drewN _ | exact ((Grow.refl w).alloc _).drew
  have d1 : decide (0 ≤ s) = true := by simp; omega
  by_cases g2 : ¬ s < x
  · have d : decide (s < x) = false := by simp; omega
    rw [show (decide (0 ≤ s) && (decide (s < x) && (decide (0 ≤ u) && decide (u < y)))) = false by simp; omega] at HR
    go_enter Try.func43, Try.ntmps43
    go_wp2
    go_quiet (fail)
    go_wp2
    refine HR.out _ _ ⟨rfl, ?_⟩
    first | exact ((Grow.refl w).alloc _).drewN _ | exact ((Grow.refl w).alloc _).drew
  by_cases g3 : u < 0
  · have d : decide (0 ≤ u) = false := by simp; omega
    rw [show (decide (0 ≤ s) && (decide (s < x) && (decide (0 ≤ u) && decide (u < y)))) = false by simp; omega] at HR
    go_enter Try.func43, Try.ntmps43
    go_wp2
    go_quiet (fail)
    go_wp2
    refine HR.out _ _ ⟨rfl, ?_⟩
    first | exact ((Grow.refl w).alloc _).drewN _ | exact ((Grow.refl w).alloc _).drew
  have d2 : decide (0 ≤ u) = true := by simp; omega
  by_cases g4 : ¬ u < y
  · have d : decide (u < y) = false := by simp; omega
    rw [show (decide (0 ≤ s) && (decide (s < x) && (decide (0 ≤ u) && decide (u < y)))) = false by simp; omega] at HR
    go_enter Try.func43, Try.ntmps43
    go_wp2
    go_quiet (fail)
    go_wp2
    refine HR.out _ _ ⟨rfl, ?_⟩
    first | exact ((Grow.refl w).alloc _).drewN _ | exact ((Grow.refl w).alloc _).drew
  rw [show (decide (0 ≤ s) && (decide (s < x) && (decide (0 ≤ u) && decide (u < y)))) = true by simp; omega] at HR
  go_enter Try.func43, Try.ntmps43
  go_wp2
  go_quiet (fail)
  go_wp2
  refine HR.out _ _ ⟨rfl, ?_⟩
  first | exact ((Grow.refl w).alloc _).drewN _ | exact ((Grow.refl w).alloc _).drew
set_option maxRecDepth 100000 in
set_option maxHeartbeats 2000000 in
theorem refBug_any {w : World} {A : Option Addr} {ca : Nat} {cs : List Int} (h : IntsAt w A cs) (i s j u : Int) : Calls Try.prog 23 #[.slice A cs.length ca, bugV i s j u] w (BoolG w (bugB cs i s j u)) := by
  refine cph fun R HR => ?_
  unfold bugV
  by_cases h1 : i < 0
  · clear h
    rw [show bugB cs i s j u = false by unfold bugB; simp; omega] at HR
    go_enter Try.func23, Try.ntmps23
    go_wp2
    go_quiet (fail)
    go_wp2
    refine HR.out _ _ ⟨rfl, ?_⟩
    first | exact ((Grow.refl w).alloc _).drewN _ | exact ((Grow.refl w).alloc _).drew
  by_cases h2 : (cs.length : Int) ≤ i
  · clear h
    rw [show bugB cs i s j u = false by unfold bugB; simp; omega] at HR
    go_enter Try.func23, Try.ntmps23
    go_wp2
    go_quiet (fail)
    go_wp2
    refine HR.out _ _ ⟨rfl, ?_⟩
    first | exact ((Grow.refl w).alloc _).drewN _ | exact ((Grow.refl w).alloc _).drew
  by_cases h3 : j < 0
  · clear h
    rw [show bugB cs i s j u = false by unfold bugB; simp; omega] at HR
    go_enter Try.func23, Try.ntmps23
    go_wp2
    go_quiet (fail)
    go_wp2
    refine HR.out _ _ ⟨rfl, ?_⟩
    first | exact ((Grow.refl w).alloc _).drewN _ | exact ((Grow.refl w).alloc _).drew
  by_cases h4 : (cs.length : Int) ≤ j
  · clear h
    rw [show bugB cs i s j u = false by unfold bugB; simp; omega] at HR
    go_enter Try.func23, Try.ntmps23
    go_wp2
    go_quiet (fail)
    go_wp2
    refine HR.out _ _ ⟨rfl, ?_⟩
    first | exact ((Grow.refl w).alloc _).drewN _ | exact ((Grow.refl w).alloc _).drew
  by_cases h5 : i = j
  · clear h
    subst h5
    rw [show bugB cs i s i u = false by unfold bugB; simp] at HR
    go_enter Try.func23, Try.ntmps23
    go_wp2
    go_quiet (fail)
    go_wp2
    refine HR.out _ _ ⟨rfl, ?_⟩
    first | exact ((Grow.refl w).alloc _).drewN _ | exact ((Grow.refl w).alloc _).drew
  obtain ⟨a, rfl⟩ : ∃ a : Nat, i = a := ⟨i.toNat, by omega⟩
  obtain ⟨b, rfl⟩ : ∃ b : Nat, j = b := ⟨j.toNat, by omega⟩
  have ha : a < cs.length := by omega
  have hb : b < cs.length := by omega
  have hab : ((a : Int) == (b : Int)) = false := by rw [beq_eq_false_iff_ne]; exact h5
  obtain ⟨bb, off, rfl, hc1⟩ := h.at_ ha
  obtain ⟨bb2, off2, hbb, hc2⟩ := h.at_ hb
  cases hbb
  have hBB : bugB cs a s b u = (decide (0 ≤ s) && (decide (s < cs[a]) && (decide (0 ≤ u) && decide (u < cs[b])))) := by
    unfold bugB
    rw [Int.toNat_natCast, Int.toNat_natCast, List.getElem?_eq_getElem ha, List.getElem?_eq_getElem hb, Option.getD_some, Option.getD_some, show decide ((0 : Int) ≤ (a : Int)) = true by simp, show decide ((a : Int) < cs.length) = true by simp; omega, show decide ((0 : Int) ≤ (b : Int)) = true by simp, show decide ((b : Int) < cs.length) = true by simp; omega, show decide ((a : Int) = (b : Int)) = false by simp; omega]
    rfl
  rw [hBB] at HR
  generalize cs[a] = x at hc1 HR hBB
  generalize cs[b] = y at hc2 HR hBB
  have hai : (a : Int) < cs.length := by omega
  have hbi : (b : Int) < cs.length := by omega
  have k1 : ∀ o q, ((w.alloc o).drewN q).cell? ⟨bb, off + a, none⟩ = some (.int .i64 x) := fun o q => ((Grow.refl w).alloc o).cell hc1
  have k2 : ∀ o q, ((w.alloc o).drewN q).cell? ⟨bb, off + b, none⟩ = some (.int .i64 y) := fun o q => ((Grow.refl w).alloc o).cell hc2
  have k3 : ∀ o, (w.alloc o).drew.cell? ⟨bb, off + a, none⟩ = some (.int .i64 x) := fun o => ((Grow.refl w).alloc o).cell hc1
  have k4 : ∀ o, (w.alloc o).drew.cell? ⟨bb, off + b, none⟩ = some (.int .i64 y) := fun o => ((Grow.refl w).alloc o).cell hc2
  clear h hBB h1 h2 h3 h4 h5
  by_cases g1 : s < 0
  · have d : decide (0 ≤ s) = false := by simp; omega
    rw [show (decide (0 ≤ s) && (decide (s < x) && (decide (0 ≤ u) && decide (u < y)))) = false by simp; omega] at HR
    go_enter Try.func23, Try.ntmps23
    go_wp2
    go_quiet (fail)
    go_wp2
    refine HR.out _ _ ⟨rfl, ?_⟩
    first | exact ((Grow.refl w).alloc _).drewN _ | exact ((Grow.refl w).alloc _).drew
  have d1 : decide (0 ≤ s) = true := by simp; omega
  by_cases g2 : ¬ s < x
  · have d : decide (s < x) = false := by simp; omega
    rw [show (decide (0 ≤ s) && (decide (s < x) && (decide (0 ≤ u) && decide (u < y)))) = false by simp; omega] at HR
    go_enter Try.func23, Try.ntmps23
    go_wp2
    go_quiet (fail)
    go_wp2
    refine HR.out _ _ ⟨rfl, ?_⟩
    first | exact ((Grow.refl w).alloc _).drewN _ | exact ((Grow.refl w).alloc _).drew
  by_cases g3 : u < 0
  · have d : decide (0 ≤ u) = false := by simp; omega
    rw [show (decide (0 ≤ s) && (decide (s < x) && (decide (0 ≤ u) && decide (u < y)))) = false by simp; omega] at HR
    go_enter Try.func23, Try.ntmps23
    go_wp2
    go_quiet (fail)
    go_wp2
    refine HR.out _ _ ⟨rfl, ?_⟩
    first | exact ((Grow.refl w).alloc _).drewN _ | exact ((Grow.refl w).alloc _).drew
  have d2 : decide (0 ≤ u) = true := by simp; omega
  by_cases g4 : ¬ u < y
  · have d : decide (u < y) = false := by simp; omega
    rw [show (decide (0 ≤ s) && (decide (s < x) && (decide (0 ≤ u) && decide (u < y)))) = false by simp; omega] at HR
    go_enter Try.func23, Try.ntmps23
    go_wp2
    go_quiet (fail)
    go_wp2
    refine HR.out _ _ ⟨rfl, ?_⟩
    first | exact ((Grow.refl w).alloc _).drewN _ | exact ((Grow.refl w).alloc _).drew
  rw [show (decide (0 ≤ s) && (decide (s < x) && (decide (0 ≤ u) && decide (u < y)))) = true by simp; omega] at HR
  go_enter Try.func23, Try.ntmps23
  go_wp2
  go_quiet (fail)
  go_wp2
  refine HR.out _ _ ⟨rfl, ?_⟩
  first | exact ((Grow.refl w).alloc _).drewN _ | exact ((Grow.refl w).alloc _).drew
end Go.Proofs.Ytacfchepacfjnaa
