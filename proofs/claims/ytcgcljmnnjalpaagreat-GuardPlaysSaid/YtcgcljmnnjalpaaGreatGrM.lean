/- The reference's guard: New. -/
import Derived.Test.YtcgcljmnnjalpaaGreatGrL
import Derived.Deep.WholeRow
set_option linter.unusedVariables false
set_option linter.unusedSimpArgs false
namespace Go.Proofs.YtcgcljmnnjalpaaGreat
open Go.RowKit Go.Kx
open Go.ChangeMaps (setBlock)
def RGNewK (k t : Int) (w : World) (e : Ending) (w' : World) : Prop :=
  if (0 ≤ k ∧ k ≤ 5) ∧ 1 ≤ t ∧ t ≤ 4 then ∃ G F, e = .returned (.tuple #[.pointer (some ⟨G, 0, none⟩), .int .i64 0]) ∧ RM G w' F (newS k t.toNat) ∧ Grow w w' ∧ ∀ j, F j → w.heap.size ≤ j
  else e = .returned (.tuple #[.pointer none, .int .i64 1]) ∧ Grow w w'
theorem rm_new {k : Int} {n : Nat} (h : 0 ≤ k ∧ k ≤ 5) (h1 : 1 ≤ n) (h4 : n ≤ 4) {w : World} {G : Nat} (hb : w.heap[G]? = some (.cells (refArr (newS k n) (.slice none 0 0) (.slice none 0 0)) 87 (0, 0))) : RM G w (fun j => j = G) (newS k n) :=
  ⟨.slice none 0 0, .slice none 0 0, [], ⟨h, ok_new k h1 h4, hb, World.ownsRow_nil _ _ _ _, World.ownsRow_nil _ _ _ _, fun a => rfl, fun j => by simp [Value.ownBlock]⟩, by simp [newS]⟩
theorem results_cell_tmp {P : Program} {fn : Func} {p q : Tmp} {ty : TypeId} (h : fn.results = #[.cell p ty, .tmp q]) (tmps : Array Value) (w : World) (g : Nat) (t : TypeId) (cs : Array Value) (fr : Nat × Nat) (d : TypeDesc)
    (hp : tmps.getD p undef = .pointer (some ⟨g, 0, none⟩)) (hg : w.heap[g]? = some (.cells cs t fr))
    (hu : P.underlying ty = some d) (hd : (match d with | .struct _ | .array _ _ => true | _ => false) = true) (hi : (P.info? ty).map (·.size) = some cs.size) :
    (results fn tmps).run P w = .ok (.tuple #[.agg cs, tmps.getD q undef]) w := by
  have hp' : tmps[p]?.getD undef = .pointer (some ⟨g, 0, none⟩) := by simpa using hp
  simp [results, h, hp', asAddr, run_loadVar_row w g t ty cs fr d hg hu hd hi]
def zeroArr : Array Value := (refArr (newS 0 0) (.slice none 0 0) (.slice none 0 0)).setIfInBounds 0 (.bool false)
theorem zeroArr_eq : zeroArr = #[.bool false, .int .i64 0, .int .i64 0, .int .i64 0, .int .i64 0, .int .i64 0, .int .i64 0, .int .i64 0, .int .i64 0, .int .i64 0, .int .i64 0, .int .i64 0, .int .i64 0, .int .i64 0, .int .i64 0, .int .i64 0,
  .bool false, .bool false, .bool false, .bool false, .int .i64 0, .int .i64 0, .int .i64 0, .int .i64 0, .int .i64 0, .int .i64 0, .int .i64 0, .int .i64 0, .slice none 0 0, .slice none 0 0] := rfl
structure NewBad (w : World) (e : Ending) (w' : World) : Prop where
  e : e = .returned (.tuple #[.agg zeroArr, .int .i64 1])
  g : Grow w w'
structure NewGood (k : Int) (n : Nat) (w : World) (e : Ending) (w' : World) : Prop where
  e : e = .returned (.tuple #[.agg (refArr (newS k n) (.slice none 0 0) (.slice none 0 0)), .int .i64 0])
  g : Grow w w'
theorem za_size : zeroArr.size = 30 := by rw [zeroArr_eq]; rfl
theorem za_one : zeroArr.all (·.oneCell') = true := by rw [zeroArr_eq]; simp [Value.oneCell']
def newArr (k : Int) (n : Nat) : Array Value := refArr (newS k n) (.slice none 0 0) (.slice none 0 0)
theorem na_size (k : Int) (n : Nat) : (newArr k n).size = 30 := rfl
theorem na_one (k : Int) (n : Nat) : (newArr k n).all (·.oneCell') = true := by unfold newArr refArr newS; simp [Value.oneCell']
theorem sz83 (a : Array Value) (h : a.size = 30) : (Tryz.prog.info? 83).map (·.size) = some a.size := by rw [h]; kernel_rfl
set_option maxRecDepth 100000 in
set_option maxHeartbeats 4000000 in
theorem rNewNo {k t : Int} (h : ¬ ((0 ≤ k ∧ k ≤ 5) ∧ 1 ≤ t ∧ t ≤ 4)) (w : World) : Calls Tryz.prog 41 #[.int .i64 k, .int .i64 t] w (NewBad w) := by
  refine cph fun R HR => ?_
  have hc : k < 0 ∨ (0 ≤ k ∧ 5 < k) ∨ (0 ≤ k ∧ k ≤ 5 ∧ t < 1) ∨ (0 ≤ k ∧ k ≤ 5 ∧ 1 ≤ t ∧ 4 < t) := by omega
  clear h
  rcases hc with h1 | ⟨h1, h2⟩ | ⟨h1, h2, h3⟩ | ⟨h1, h2, h3, h4⟩
  all_goals
    go_enter Tryz.func41, Tryz.ntmps41
    go_upto_region 2 with fail
    rw [← zeroArr_eq]
    go_wp2_with (refine wpList_store_row rfl 83 (.tmp 4) (.tmp 20) rfl w.heap.size zeroArr rfl rfl 83 zeroArr (blk_new w _) (sz83 _ za_size) rfl za_one ?_; rw [World.setRow_alloc_new])
    refine bodyPost_ret (results_cell_tmp rfl _ _ w.heap.size 83 zeroArr (0, 0) _ rfl (blk_new w _) Tryz.underlying83 rfl (sz83 _ za_size)) rfl ?_
    exact HR.out _ _ ⟨rfl, (Grow.refl _).alloc _⟩
set_option maxRecDepth 100000 in
set_option maxHeartbeats 4000000 in
theorem rNewYes {k : Int} {n : Nat} (h : (0 ≤ k ∧ k ≤ 5) ∧ 1 ≤ n ∧ n ≤ 4) (w : World) : Calls Tryz.prog 41 #[.int .i64 k, .int .i64 n] w (NewGood k n w) := by
  refine cph fun R HR => ?_
  obtain ⟨⟨h1, h2⟩, h3, h4⟩ := h
  have h3i : (1 : Int) ≤ (n : Int) := by omega
  have h4i : (n : Int) ≤ (4 : Int) := by omega
  go_enter Tryz.func41, Tryz.ntmps41
  go_upto_region 3 with fail
  rw [← zeroArr_eq]
  go_wp2_with (refine wpList_store_row rfl 83 (.tmp 4) (.tmp 23) rfl w.heap.size (newArr k n) rfl rfl 83 zeroArr (blk_new w _) (sz83 _ (na_size k n)) rfl (na_one k n) ?_; rw [World.setRow_alloc_new])
  refine bodyPost_ret (results_cell_tmp rfl _ _ w.heap.size 83 (newArr k n) (0, 0) _ rfl (blk_new w _) Tryz.underlying83 rfl (sz83 _ (na_size k n))) rfl ?_
  exact HR.out _ _ ⟨rfl, (Grow.refl _).alloc _⟩
theorem newArr_eq (k : Int) (n : Nat) : newArr k n = #[.bool true, .int .i64 k, .int .i64 n, .int .i64 0, .int .i64 0, .int .i64 0, .int .i64 0, .int .i64 0, .int .i64 0, .int .i64 0, .int .i64 0, .int .i64 0, .int .i64 0, .int .i64 0, .int .i64 0, .int .i64 0, .bool false, .bool false, .bool false, .bool false, .int .i64 0, .int .i64 0, .int .i64 0, .int .i64 0, .int .i64 0, .int .i64 0, .int .i64 0, .int .i64 0, .slice none 0 0, .slice none 0 0] := by unfold newArr refArr newS; rfl
set_option maxRecDepth 100000 in
set_option maxHeartbeats 4000000 in
theorem rgNew (w : World) (k t : Int) : Calls Tryz.prog 15 #[.int .i64 k, .int .i64 t] w (RGNewK k t w) := by
  refine cph fun R HR => ?_
  unfold RGNewK at HR
  by_cases hok : (0 ≤ k ∧ k ≤ 5) ∧ 1 ≤ t ∧ t ≤ 4
  · simp only [if_pos hok] at HR
    obtain ⟨n, rfl⟩ := Int.eq_ofNat_of_zero_le (a := t) (by omega)
    have hok' : (0 ≤ k ∧ k ≤ 5) ∧ 1 ≤ n ∧ n ≤ 4 := by omega
    have HN := Lib.hid (rNewYes hok' w)
    have HO := Lib.hid hok'
    clear hok hok'
    go_enter Tryz.func15, Tryz.ntmps15
    go_upto_region 2 with (first | (go_at_call 41; refine HN.out.mono ?_; rintro e w1 ⟨rfl, hg⟩; have H1 := Lib.hid hg; clear hg) | (refine wpList_store_row rfl 83 (.tmp 6) (.tmp 12) rfl w1.heap.size (newArr k n) rfl rfl 83 zeroArr (blk_new w1 _) (sz83 _ (na_size k n)) rfl (na_one k n) ?_; rw [World.setRow_alloc_new]))
    go_wp2_with (refine wpList_load_row rfl 83 (.tmp 6) rfl w1.heap.size rfl 83 (newArr k n) (0, 0) _ (blk_new w1 _) Tryz.underlying83 rfl (sz83 _ (na_size k n)) ?_; rw [newArr_eq])
    rw [← newArr_eq]
    have hrm := fun wz hb => rm_new (w := wz) (G := w1.heap.size + 1) HO.out.1 HO.out.2.1 HO.out.2.2 hb
    have hbn := blk_new (w1.alloc (Obj.cells (newArr k n) 83)) (Obj.cells (newArr k n) 87)
    rw [size_alloc] at hbn
    exact HR.out _ _ ⟨w1.heap.size + 1, _, rfl, hrm _ hbn, (H1.out.alloc _).alloc _, fun j hj => by rw [hj]; have := H1.out.size; omega⟩
  · simp only [if_neg hok] at HR
    have HN := Lib.hid (rNewNo hok w)
    clear hok
    go_enter Tryz.func15, Tryz.ntmps15
    go_wp2_with (first | (go_at_call 41; refine HN.out.mono ?_; rintro e w1 ⟨rfl, hg⟩; have H1 := Lib.hid hg; clear hg) | (refine wpList_store_row rfl 83 (.tmp 6) (.tmp 12) rfl w1.heap.size zeroArr rfl rfl 83 zeroArr (blk_new w1 _) (sz83 _ za_size) rfl za_one ?_; rw [World.setRow_alloc_new]))
    exact HR.out _ _ ⟨rfl, H1.out.alloc _⟩
end Go.Proofs.YtcgcljmnnjalpaaGreat
