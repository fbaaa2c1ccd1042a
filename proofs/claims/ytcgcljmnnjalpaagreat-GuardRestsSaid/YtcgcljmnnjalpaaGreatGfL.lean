/- The hazard manager: scan. -/
import Derived.Test.YtcgcljmnnjalpaaGreatGfK
set_option linter.unusedVariables false
set_option linter.unusedSimpArgs false
namespace Go.Proofs.YtcgcljmnnjalpaaGreat
open Go.RowKit Go.Kx
open Go.ChangeMaps (setBlock)
def goesZ (s : RS) (t : Int) (x : P2) : Bool := decide (x.1 = t) && !heldR s x.2
set_option maxRecDepth 100000 in
set_option maxHeartbeats 4000000 in
theorem hzScan2 {w0 : World} {b B H Tb Hd Bk : Nat} {s : RS} {t : Int} {G : Nat → Prop} {l : List P2} (hG : ∀ k, G k → k < w0.heap.size) (hBk : ¬ G Bk) (hBl : Bk < w0.heap.size) (hB : ¬ G B ∧ B ≠ Bk) (hb : ¬ G b ∧ b ≠ Bk) (hT : ¬ G Tb ∧ Tb ≠ Bk) (hH : ¬ G Hd ∧ Hd ≠ Bk) (hHH : ¬ G H ∧ H ≠ Bk)
    (h1 : w0.cell? ⟨B, 0, none⟩ = some (.pointer (some ⟨b, 0, none⟩))) (h2 : w0.cell? ⟨b, 0, none⟩ = some (.slice (some ⟨H, 0, none⟩) s.n s.n)) (h3 : w0.cell? ⟨Tb, 0, none⟩ = some (.int .i64 t)) (h4 : w0.cell? ⟨Hd, 0, none⟩ = some (.func (.func 130) #[] #[.pointer (some ⟨B, 0, none⟩)]))
    (h5 : w0.ownsRow 0 76 3 (.slice (some ⟨H, 0, none⟩) s.n s.n) s.n ((hRows s).flatMap encH)) (hn : s.n ≤ 4) (hl : l.length ≤ 200000) :
    PredJ 134 #[.pointer (some ⟨Tb, 0, none⟩), .pointer (some ⟨Hd, 0, none⟩), .pointer (some ⟨Bk, 0, none⟩)] G (goesZ s t) l (TJ w0 Bk G (goesZ s t) (·.2) l) := by
  intro n x W0 W hx hJ hfr
  refine cph fun R HR => ?_
  obtain ⟨u, j1, j2, j3⟩ := hJ
  have hnl : n < l.length := (List.getElem?_eq_some_iff.1 hx).1
  have hW : Fr (fun k => k = Bk ∨ G k) w0 W := Fr.then j3 hfr (fun i _ h => .inr h)
  have hkeep : ∀ {B : Nat} {u : Value}, ¬ G B ∧ B ≠ Bk → w0.cell? ⟨B, 0, none⟩ = some u → W.cell? ⟨B, 0, none⟩ = some u := fun hB h1 => (World.cell?_of_block (w := w0) (hW.blk _ (World.block_lt_of_cell? w0 _ h1) (fun h => h.elim hB.2 hB.1))).trans h1
  have hcB := hkeep hB h1
  have hcb := hkeep hb h2
  have hcT := hkeep hT h3
  have hcH := hkeep hH h4
  have hro := owns_fr h5 hW (fun k hk e => by rw [own_sl_eq hk] at e; exact e.elim hHH.2 hHH.1)
  have hbk := hfr.at_ j1 hBk
  have hkk := (blk_cell hbk 0).trans (rfl : _ = some u)
  have hru := owns_fr j2 hfr (fun k hk e => by have := (j2.lt k hk).1; have := hG k e; omega)
  have hrl := bkJ_len (goesZ s t) (·.2) l n
  have HJ := Lib.hid (And.intro j2 (And.intro hW (And.intro hbk (And.intro hru (And.intro j1 (And.intro j3.size hfr))))))
  have HX := Lib.hid hx
  obtain ⟨i0, hi, hz0, hz1, hz2⟩ := info_parts info3x
  have HI := Lib.hid (And.intro hi (And.intro hz0 (And.intro hz1 hz2)))
  obtain ⟨A, m, c, rfl⟩ := own_sl j2
  have hks := World.block_lt_of_cell? W _ hkk
  have hgs := hfr.size
  have hw0 := j3.size
  have HG := Lib.hid (And.intro hG (And.intro hBk hBl))
  have hnA := blk_new W (Obj.cells #[.int .i64 x.1, .int .i64 x.2] 140)
  have hgA := (Grow.refl W).alloc (Obj.cells #[.int .i64 x.1, .int .i64 x.2] 140)
  obtain ⟨wA, hwA⟩ : ∃ wA, W.alloc (Obj.cells #[.int .i64 x.1, .int .i64 x.2] 140) = wA := ⟨_, rfl⟩
  rw [hwA] at hnA hgA
  have a0 := (blk_cell hnA 0).trans (rfl : _ = some (Value.int .i64 x.1))
  have a1 := (blk_cell hnA 1).trans (rfl : _ = some (Value.int .i64 x.2))
  have aT := hgA.cell hcT
  have aH := hgA.cell hcH
  have HC := Lib.hid (hzHeld (a := x.2) (v := .slice A m c) hn (hgA.cell hcB) (hgA.cell hcb) (owns_grow hro hgA))
  have HA := Lib.hid (And.intro hgA hnA)
  have eg := eg130
  clear hx j1 j2 j3 hW hbk hru hi hz0 hz1 hz2 hnA hgA hfr hG hBk hBl hB hb h1 h2 h3 h4 h5 hT hH hHH hkeep hcB hcb hcT hcH hro
  by_cases hc : x.1 = t
  · have HD := Lib.hid hc
    have d1 : (x.1 == t) = true := by simp [hc]
    clear hc
    cases hh : heldR s x.2
    · rw [hh] at HC
      have hpx : goesZ s t x = true := by unfold goesZ; rw [hh, decide_eq_true HD.out]; rfl
      have HPX := Lib.hid hpx
      rw [hpx] at HR
      clear hpx hh
      go_enter Tryz.func134, Tryz.ntmps134
      go_upto_region 2 with (go_at_fn 130; refine HC.out.mono ?_; rintro e wX ⟨rfl, hgX0⟩; have hgX := HA.out.1.trans hgX0; have x1 := hgX0.cell a1; have xk := hgX.cell hkk; have HGX := Lib.hid hgX; clear hgX hgX0)
      have HNW := Lib.hid (cell_one_new wX (.int .i64 x.2) 3)
      go_wp2_with (at_builtin; refine wpList_append_own_at _ rfl (.tmp 19) (.tmp 22) 34 rfl w0.heap.size 3 i0 (.int .i64 0) 1 8 Tryz.underlying34 HI.out.1 HI.out.2.1 HI.out.2.2.1 HI.out.2.2.2 rfl (by decide) _ _ _ rfl ((owns_grow HJ.out.2.2.2.1 HGX.out).alloc _) ⟨wX.heap.size, 0, none⟩ 1 1 [.int .i64 x.2] rfl rfl HNW.out (by simp [Value.oneCell']) (by unfold maxLen; omega) (by omega) (by have := HGX.out.size; simp; omega) ?_; intro v1 w3 hown hgrow _ hat; obtain ⟨g, cap3, rfl⟩ := own_some hown; have hb3 : w3.heap[Bk]? = some (.cells #[.slice A m c] 34 (0, 0)) := (fr_grown hgrow).at_ (blk_alloc' _ (HGX.out.at_ HJ.out.2.2.1)) (fun e => by have := (HJ.out.2.2.2.1.lt Bk e).1; have := HG.out.2.2; omega); have k3 := (blk_cell hb3 0).trans (rfl : _ = some (Value.slice A m c)); have f3 := blk_free hb3 0; have H8 := Lib.hid (And.intro hown hgrow); clear hown hgrow hat hb3)
      obtain ⟨p1, p2⟩ := TJ.put (w0 := w0) (W0 := W0) (W := W) (Wx := wX.alloc (.cells #[.int .i64 x.2] 3)) (u := .slice A m c) (x := x) (f := (·.2)) HG.out.1 HG.out.2.1 HG.out.2.2 HX.out HPX.out HJ.out.1 HJ.out.2.1 (HGX.out.alloc _) HJ.out.2.2.1 HJ.out.2.2.2.2.2.1 H8.out.1 H8.out.2
      exact HR.out _ _ ⟨rfl, p1, p2⟩
    · rw [hh] at HC
      have hpx : goesZ s t x = false := by unfold goesZ; rw [hh]; simp
      have HPX := Lib.hid hpx
      rw [hpx] at HR
      clear hpx hh
      go_enter Tryz.func134, Tryz.ntmps134
      go_wp2_with (go_at_fn 130; refine HC.out.mono ?_; rintro e wX ⟨rfl, hgX0⟩; have hgX := HA.out.1.trans hgX0; have x1 := hgX0.cell a1; have xk := hgX.cell hkk; have HGX := Lib.hid hgX; clear hgX hgX0)
      refine HR.out _ _ ⟨rfl, ⟨_, HGX.out.at_ HJ.out.2.2.1, ?_, fr_grow HJ.out.2.1 HGX.out⟩, HGX.out.mono fun i _ h => h.elim⟩
      rw [bkJ_succ HX.out, HPX.out]
      exact owns_grow HJ.out.2.2.2.1 HGX.out
  · have hpx : goesZ s t x = false := by unfold goesZ; rw [decide_eq_false hc]; rfl
    have HPX := Lib.hid hpx
    rw [hpx] at HR
    clear hpx
    go_enter Tryz.func134, Tryz.ntmps134
    go_wp2_with fail
    refine HR.out _ _ ⟨rfl, ⟨_, HA.out.1.at_ HJ.out.2.2.1, ?_, fr_grow HJ.out.2.1 HA.out.1⟩, HA.out.1.mono fun i _ h => h.elim⟩
    rw [bkJ_succ HX.out, HPX.out]
    exact owns_grow HJ.out.2.2.2.1 HA.out.1
end Go.Proofs.YtcgcljmnnjalpaaGreat
