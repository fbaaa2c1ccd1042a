/- The contract of the heap's Give. -/
import Derived.Test.YthkcihkeklojcaaHpF
import Derived.BigRegion
import Derived.Deep.RegionWith
import Derived.RangeFuncBox
set_option linter.unusedVariables false
set_option linter.unusedSimpArgs false
namespace Go.Proofs.Ythkcihkeklojcaa
open Go.RowKit Go.Kx
open Go.ChangeMaps (setBlock)
def HS.give (s : HS) (a : Int) : HS × Int := match nget s.nodes a with
  | none => (s, 3)
  | some z => ({ s with nodes := ndel s.nodes a, free := s.free ++ [(a, rnd z)] }, 0)
def GiveP (w : World) (base : Nat) (q : HB) (s : HS) (a : Int) (e : Ending) (w' : World) : Prop :=
  e = .returned (.int .i64 (s.give a).2) ∧ ∃ fv', HeapAt w' base { q with fv := fv' } (s.give a).1 ∧ Fr q.set w w' ∧ NewFv w q fv'
theorem Good.give {s : HS} (h : Good s) {a z : Int} (hg : nget s.nodes a = some z) : Good { s with nodes := ndel s.nodes a, free := s.free ++ [(a, rnd z)] } :=
  ⟨h.wl, h.vl, h.c0, h.c1, h.t0, h.t1, fun p hp => h.nodes p (List.mem_filter.1 hp).1, fun p hp => by
    rcases List.mem_append.1 hp with hp | hp
    · exact h.free p hp
    · have := h.nodes _ (nget_mem hg)
      obtain rfl : p = (a, rnd z) := by simpa using hp
      dsimp only at this ⊢
      refine ⟨this.1, this.2.1, ?_, ?_⟩ <;> unfold rnd <;> omega⟩
set_option maxHeartbeats 4000000 in
set_option maxRecDepth 100000 in
theorem give_any {w : World} {base : Nat} {q : HB} {s : HS} (h : HeapAt w base q s) (hbase : base ≤ w.heap.size) (hlen : s.free.length ≤ 100000) (addr : Int) :
    Calls Try.prog 11 #[.pointer (some ⟨q.b, 0, none⟩), .int .i64 addr] w (GiveP w base q s addr) := by
  refine cph fun R HR => ?_
  have H0 := Lib.hid (none_any h)
  obtain ⟨c0, c1, c2, c3, c4, c5⟩ := h.cell
  have hlook := h.map.lookup Try.underlying43 Try.underlying3 (Try.zeroValue3 w) addr true
  rw [mget_kvOf] at hlook
  have HH := Lib.hid h
  clear h c0 c1 c2 c5
  cases hg : nget s.nodes addr with
  | none =>
    rw [hg] at hlook
    simp only [if_true, Option.map_none, Option.getD_none, Option.isSome_none] at hlook
    have hres : s.give addr = (s, 3) := by unfold HS.give; rw [hg]
    have HX := Lib.hid hres
    clear hres hg c4
    go_enter Try.func11, Try.ntmps11
    go_wp2_with (go_at_call 25; refine H0.out.mono ?_; rintro e w' ⟨rfl, rfl⟩)
    refine HR.out _ _ ⟨by rw [HX.out]; rfl, q.fv, ?_, Fr.refl _ _, .inl rfl⟩
    rw [HX.out]
    exact HH.out
  | some z =>
    rw [hg] at hlook
    simp only [if_true, Option.map_some, Option.getD_some, Option.isSome_some] at hlook
    have hres : s.give addr = ({ s with nodes := ndel s.nodes addr, free := s.free ++ [(addr, rnd z)] }, 0) := by unfold HS.give; rw [hg]
    have hz := HH.out.good.nodes _ (nget_mem hg)
    have HX := Lib.hid (And.intro hres (HH.out.good.give hg))
    have hz1 : 1 ≤ z := hz.2.2.1
    have hz2 : z ≤ 18 := hz.2.2.2
    have HRD := fun wx => Lib.hid (rounded_any (w := wx) (n := z) (by omega) (by omega))
    obtain ⟨ob, hrun, him⟩ := HH.out.map.delete Try.underlying43 Try.underlying3 addr 0
    rw [mdel_kvOf] at him
    have hh1 := HH.out.putMap him (by have := HX.out.2; exact ⟨this.wl, this.vl, this.c0, this.c1, this.t0, this.t1, this.nodes, HH.out.good.free⟩)
    have hf1 : Fr q.set w (setBlock w q.M ob) := (Fr.refl _ _).block q.M ob (.inr (.inr (.inr (.inr (.inl rfl)))))
    obtain ⟨w1, hw1⟩ : ∃ w1, w1 = setBlock w q.M ob := ⟨_, rfl⟩
    rw [← hw1] at hh1 hf1 hrun
    have hsz : w1.heap.size = w.heap.size := by rw [hw1, size_block]
    clear him hw1
    have d4 := hh1.cell.2.2.2.2.1
    have f4 := blk_free hh1.blk 4
    have H1 := Lib.hid (And.intro hh1 hf1)
    clear hh1 hf1
    clear hres hg hz
    go_enter Try.func11, Try.ntmps11
    go_wp2_with (go_at_call 25; refine H0.out.mono ?_; rintro e w' ⟨rfl, rfl⟩)
    obtain ⟨i0, hi0, hz0, hzz1, hzz2⟩ := info_parts info_place
    have hrow := H1.out.1.free
    have hpl : Hid ((placeCells s.free).length = s.free.length * 2) := placeCells_length _
    have hk63 : Hid (s.free.length + 1 ≤ maxLen) := by show _ ≤ _; unfold maxLen; omega
    have hby : Hid ((s.free.length + 1) * 16 ≤ 140737488355328) := by show _ ≤ _; omega
    have HRW := Lib.hid (And.intro hrow (show base ≤ w1.heap.size by omega))
    clear hrow c3 c4 hlook hrun hsz
    have hstep := fun (wx : World) (hx : Grow w1 wx) (hx2 : wx.heap.size = w1.heap.size + 1) (v' : Value) (w2 : World) (ho : w2.ownsRow base 55 2 v' (s.free.length + 1) (placeCells s.free ++ [.int .i64 addr, .int .i64 (rnd z)])) (hg : wx.grownBy w2 q.fv.ownBlock) (hat : v'.ownBlock = q.fv.ownBlock ∨ v'.ownBlock = some wx.heap.size) =>
      show Hid (HeapAt (w2.setCell ⟨q.b, 4, none⟩ v') base { q with fv := v' } { s with nodes := ndel s.nodes addr, free := s.free ++ [(addr, rnd z)] } ∧ Fr q.set w (w2.setCell ⟨q.b, 4, none⟩ v') ∧ NewFv w q v' ∧ w2.cell? ⟨q.b, 4, none⟩ = some q.fv ∧ w2.frozen? ⟨q.b, 4, none⟩ = false) from by
      have hh := H1.out.1.grow hx
      have hS : ∀ k, q.fv.ownBlock = some k → k ≠ q.b ∧ k ≠ q.W ∧ k ≠ q.V ∧ k ≠ q.M := hh.apart.2.2.2.2.2
      have hb2 := (fr_grown hg).at_ hh.blk (fun e => (hS _ e).1 rfl)
      have g1 : Fr q.set w wx := H1.out.2.trans (Fr.mono hx (fun _ _ h => h.elim))
      have g2 : Fr q.set wx w2 := Fr.mono (fr_grown hg) (fun i _ e => .inr (.inr (.inr (.inr e))))
      refine ⟨?_, (g1.trans g2).setCell ⟨q.b, 4, none⟩ _ (.inr (.inl rfl)), ?_, by rw [blk_cell hb2]; rfl, blk_free hb2 4⟩
      · refine HeapAt.putFree hh (fr_grown hg) hS ?_ ?_
        · rw [placeCells_append, List.length_append]; exact ho
        · exact HX.out.2
      · rcases hat with e | e
        · exact .inl e
        · refine .inr ⟨_, ?_, e⟩
          have := H1.out.2.size
          omega
    have hbl : q.b < w1.heap.size := blk_lt H1.out.1.blk
    have hbl2 : ¬ q.b = w1.heap.size := by omega
    go_region_law (first | (refine step_append_own rfl (.tmp 29) (.tmp 34) 44 rfl base 55 i0 (.agg #[.int .i64 0, .int .i64 0]) 2 16 Try.underlying44 hi0 hz0 hzz1 hzz2 rfl (by decide) q.fv s.free.length (placeCells s.free) rfl (owns_grow HRW.out.1 ((Grow.refl w1).alloc (.cells #[.int .i64 addr, .int .i64 (rnd z)] 55)).drew) ⟨w1.heap.size, 0, none⟩ 1 1 [.int .i64 addr, .int .i64 (rnd z)] rfl rfl (cells_new w1 [.int .i64 addr, .int .i64 (rnd z)] 55) (fun u hu => by simp at hu; rcases hu with rfl | rfl <;> rfl) hk63.out hby.out (Nat.le_trans HRW.out.2 ((Grow.refl w1).alloc (.cells #[.int .i64 addr, .int .i64 (rnd z)] 55)).size) ?_
                            intro v' w2 ho hg hn hat
                            obtain ⟨g', cap', rfl⟩ := ownsRow_succ ho
                            have HN := hstep _ ((Grow.refl w1).alloc (.cells #[.int .i64 addr, .int .i64 (rnd z)] 55)).drew (by simp) _ w2 ho hg hat
                            have e4 := HN.out.2.2.2.1
                            have g4 := HN.out.2.2.2.2
                            clear ho hg hn hat) | (go_simp; go_at_call 26; refine (HRD _).out.mono ?_; rintro e w' ⟨rfl, rfl⟩; dsimp only))
    all_goals go_wp2_with fail
    all_goals (
      refine HR.out _ _ ⟨by rw [HX.out.1], _, ?_, HN.out.2.1, HN.out.2.2.1⟩
      rw [HX.out.1]
      exact HN.out.1)
end Go.Proofs.Ythkcihkeklojcaa
