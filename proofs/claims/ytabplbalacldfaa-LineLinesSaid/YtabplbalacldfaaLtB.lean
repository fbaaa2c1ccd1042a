/- slices.Values and slices.Collect at accesses: a new slice that holds the same accesses. -/
import Derived.Test.YtabplbalacldfaaKxE
import Derived.Test.YtabplbalacldfaaLOwn
import Derived.RangeFuncBox
import Derived.RangeFuncCalls
import Derived.RangeFuncLeaves
import Derived.Shelf.Abstract
import Derived.Shelf.RegionOpen
import Derived.WalkKit
import Derived.OwnWalkIn
import Derived.TacticsInMore
import Derived.LoopNIn
import Derived.LoopIn
import Derived.Maps.AppendAt
set_option linter.unusedVariables false
set_option linter.unusedSimpArgs false
namespace Go.Proofs.Ytabplbalacldfaa
open Go.RowKit Go.Kx
/-- The blocks of a slice. -/
def blkOf (A : Option Addr) (k : Nat) : Prop := ∃ a, A = some a ∧ a.block = k
theorem Acc.fr {M : Nat → Prop} {w w' : World} {A : Option Addr} {l : List A3} (h : Acc w A l) (hg : Fr M w w') (hn : ∀ k, blkOf A k → ¬ M k) : Acc w' A l := by
  rcases h with h | ⟨b, off, h1, h2⟩
  · exact .inl h
  · refine .inr ⟨b, off, h1, fun i x hx => ?_⟩
    have hc : ∀ o v, w.cell? ⟨b, o, none⟩ = some v → w'.cell? ⟨b, o, none⟩ = some v := fun o v hv =>
      (World.cell?_of_block (w := w) (hg.blk b (World.block_lt_of_cell? w ⟨b, o, none⟩ hv) (hn b ⟨_, h1, rfl⟩))).trans hv
    exact ⟨hc _ _ (h2 i x hx).1, hc _ _ (h2 i x hx).2.1, hc _ _ (h2 i x hx).2.2⟩
theorem Acc.at_ {w : World} {A : Option Addr} {l : List A3} (h : Acc w A l) {k : Nat} (hk : k < l.length) : ∃ b off, A = some ⟨b, off, none⟩ ∧ w.cell? ⟨b, off + k * 3, none⟩ = some (.int .i64 l[k].1) ∧ w.cell? ⟨b, off + k * 3 + 1, none⟩ = some (.int .i64 l[k].2.1) ∧ w.cell? ⟨b, off + k * 3 + 2, none⟩ = some (.int .i64 l[k].2.2) := by
  rcases h with rfl | ⟨b, off, h1, h2⟩
  · simp at hk
  · exact ⟨b, off, h1, h2 k l[k] (List.getElem?_eq_getElem hk)⟩
set_option maxRecDepth 100000 in
set_option maxHeartbeats 2000000 in
theorem values3_seq (n : Nat) (hn : 1 ≤ n) (Bs : Nat) (A : Option Addr) (cap : Nat) (l : List A3) (hlen : l.length ≤ 10000) (W : World) (hB : Boxed W Bs 22 (.slice A l.length cap)) (hI : Acc W A l) :
    SeqM Fence.wide n Try.prog 63 #[.pointer (some ⟨Bs, 0, none⟩)] (fun x : A3 => #[.agg #[.int .i64 x.1, .int .i64 x.2.1, .int .i64 x.2.2]]) (fun _ _ _ => True) (fun ys => ys = l) (fun _ => True) l.length (fun k => k = Bs ∨ (l ≠ [] ∧ blkOf A k)) W := by
  intro lr J Jx M0 hlr hJ hJx hJM hY hown h0
  have HY := Lib.hid hY
  have H1 := Lib.hid hB
  have H2 := Lib.hid hI
  have H3 := Lib.hid (And.intro hJ (And.intro hJM hown))
  clear hY hI hJ hJM hown hJx
  refine callsIn_of_wp Try.func63 rfl trivial ?_ rfl
  simp only [Try.ntmps63, List.size_toArray, List.length_cons, List.length_nil, Nat.reduceAdd, Nat.reduceSub, Array.replicate_succ, Array.replicate_zero, List.push_toArray, List.append_toArray, List.nil_append, List.cons_append]
  have hc := hB.cell
  clear hB
  gi_wp2
  gi_loopw [7] (fun i wr => ∃ (k : Nat) (M : Nat → Prop), k ≤ l.length ∧ i = .int .i64 k ∧ J (l.take k) M wr ∧ (∀ j, (j = Bs ∨ (l ≠ [] ∧ blkOf A j)) → ¬ M j) ∧ Acc wr A l ∧ Bs < wr.heap.size ∧ W.heap.size ≤ wr.heap.size)
    (fun i _ => l.length - (intOf i).toNat)
  case atStart => exact ⟨0, M0, Nat.zero_le _, rfl, h0, H3.out.2.2, H2.out, H1.out.lt, Nat.le_refl _⟩
  case round =>
    obtain ⟨k, M, hk, rfl, hJs, hM, hIs, hBl, hW⟩ := hrel
    by_cases hlt : k < l.length
    · have hne : l ≠ [] := by rintro rfl; simp at hlt
      obtain ⟨b, off, rfl, hc0, hc1, hc2⟩ := hIs.at_ hlt
      have hJa := H3.out.1.alloc (Obj.cells #[.int .i64 l[k].1, .int .i64 l[k].2.1, .int .i64 l[k].2.2] 24) hJs
      obtain ⟨fn, tmps, assign, body, hy, hR⟩ := HY.out _ M l[k] (wr.alloc (Obj.cells #[.int .i64 l[k].1, .int .i64 l[k].2.1, .int .i64 l[k].2.2] 24)) hJa trivial (by rw [List.length_take]; omega)
      have htk := List.take_succ_eq_append_getElem hlt
      try dsimp only at hy
      have HH := Lib.hid (And.intro hJs (And.intro hM (And.intro hIs (And.intro hBl (And.intro htk hW)))))
      have hki : (k : Int) < (l.length : Int) := by omega
      generalize l[k] = x at hc0 hc1 hc2 hy hR HH
      clear hJs hM hIs hBl htk hJa hW
      gi_wp2
      refine hR.mono ?_
      rintro e W3 (⟨rfl, M', hJ3, hst⟩ | ⟨rfl, hJx3, _⟩)
      · have H4 := Lib.hid (And.intro hJ3 hst)
        clear hJ3 hst
        gi_wp2
        go_roundw
        case rel =>
          have hbl : b < wr.heap.size := World.block_lt_of_cell? wr ⟨b, off + k * 3, none⟩ hc0
          have hs3 := H4.out.2.fr.size
          simp at hs3
          have hW2 := HH.out.2.2.2.2.2
          refine ⟨k + 1, M', by omega, by simp, by rw [HH.out.2.2.2.2.1]; exact H4.out.1, ?_, (HH.out.2.2.1.grow ((Grow.refl _).alloc _)).fr H4.out.2.fr (fun j hj => HH.out.2.1 j (.inr ⟨hne, hj⟩)), by have := HH.out.2.2.2.1; omega, by omega⟩
          intro j hj hM'
          rcases H4.out.2.sub j hM' with h | h
          · exact HH.out.2.1 j hj h
          · rw [size_alloc] at h
            rcases hj with rfl | ⟨_, a, ha, rfl⟩
            · have := HH.out.2.2.2.1; omega
            · cases ha; dsimp only at h; omega
        case measure => simp [intOf]; omega
      · gi_wp2
        refine bodyPost_ret (results_none rfl _ _ _) rfl ?_
        exact ⟨⟨_, rfl⟩, .inr ⟨_, trivial, hJx3⟩⟩
    · have e : l.take k = l := List.take_of_length_le (by omega)
      rw [e] at hJs
      have HJ := Lib.hid hJs
      have hki : ¬ (k : Int) < (l.length : Int) := by omega
      clear hJs hM hIs hBl e
      gi_wp2
      go_end0
      first | exact ⟨⟨_, rfl⟩, .inl ⟨_, M, rfl, HJ.out⟩⟩ | exact ⟨⟨_, rfl⟩, .inl ⟨M, HJ.out⟩⟩
theorem values3_in (n : Nat) (A : Option Addr) (len cap : Nat) (w : World) :
    CallsIn Fence.wide n Try.prog 43 #[.slice A len cap] w fun e w' => e = .returned (.func (.func 63) #[] #[.pointer (some ⟨w.heap.size, 0, none⟩)]) ∧ w' = w.alloc (.cells #[.slice A len cap] 22) := by
  refine callsIn_of_wp Try.func43 rfl trivial ?_ rfl
  simp only [Try.ntmps43, List.size_toArray, List.length_cons, List.length_nil, Nat.reduceAdd, Nat.reduceSub, Array.replicate_succ, Array.replicate_zero, List.push_toArray, List.append_toArray, List.nil_append, List.cons_append]
  gi_wp2
  go_ret
  exact ⟨rfl, rfl⟩
end Go.Proofs.Ytabplbalacldfaa
