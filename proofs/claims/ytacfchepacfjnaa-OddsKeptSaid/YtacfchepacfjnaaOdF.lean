/- The schedule of counts, priorities and changes, over plain lists; where it lies while it is made. -/
import Derived.Test.YtacfchepacfjnaaOdE
import Derived.Laws.OwnMore
set_option linter.unusedVariables false
set_option linter.unusedSimpArgs false
namespace Go.Proofs.Ytacfchepacfjnaa
open Go.RowKit Go.Kx Go.Maps Go.Sort Go.Shelf
/-- The priorities when k changes have been looked at. -/
def chgK (m : Int) (left chs now : List Int) : Nat → List Int
  | 0 => now
  | k + 1 => if chs[k]?.getD 0 = m then (chgK m left chs now k).set (bst left (chgK m left chs now k)).toNat (-(k : Int)) else chgK m left chs now k
theorem chgK_len (m : Int) (left chs now : List Int) : ∀ k, (chgK m left chs now k).length = now.length
  | 0 => rfl
  | k + 1 => by
    have := chgK_len m left chs now k
    unfold chgK
    split
    · rw [List.length_set]; exact this
    · exact this
/-- One moment. -/
def schStep (chs : List Int) (m : Nat) (s : List Int × List Int × List Int) : List Int × List Int × List Int :=
  (s.1.set (bst s.1 (chgK m s.1 chs s.2.1 chs.length)).toNat (s.1[(bst s.1 (chgK m s.1 chs s.2.1 chs.length)).toNat]?.getD 0 - 1), chgK m s.1 chs s.2.1 chs.length, s.2.2 ++ [bst s.1 (chgK m s.1 chs s.2.1 chs.length)])
def schK (cs ps chs : List Int) : Nat → List Int × List Int × List Int
  | 0 => (cs, ps, [])
  | k + 1 => schStep chs k (schK cs ps chs k)
def sched (cs ps chs : List Int) : List Int := (schK cs ps chs cs.sum.toNat).2.2
theorem exists_pos {l : List Int} (h0 : ∀ x ∈ l, 0 ≤ x) (h : 0 < l.sum) : ∃ j, j < l.length ∧ 0 < l[j]?.getD 0 := by
  induction l with
  | nil => simp at h
  | cons x l ih =>
    by_cases hx : 0 < x
    · exact ⟨0, by simp, by simpa using hx⟩
    · have h1 := h0 x (by simp)
      obtain ⟨j, h2, h3⟩ := ih (fun y hy => h0 y (by simp [hy])) (by simp at h; omega)
      exact ⟨j + 1, by simpa using h2, by simpa using h3⟩
theorem bst_ok {l : List Int} (p : List Int) (h0 : ∀ x ∈ l, 0 ≤ x) (h : 0 < l.sum) : 0 ≤ bst l p ∧ bst l p < l.length := by
  obtain ⟨j, h1, h2⟩ := exists_pos h0 h
  exact ⟨bstK_pos h1 h2, (bstK_bd l p l.length).2⟩
theorem bstK_has {l p : List Int} : ∀ k, 0 ≤ bstK l p k → 0 < l[(bstK l p k).toNat]?.getD 0
  | 0, h => by simp [bstK] at h
  | k + 1, h => by
    unfold bstK at h ⊢
    split
    · next hc => simpa using hc.1
    · next hc => rw [if_neg hc] at h; exact bstK_has k h
theorem sum_set {l : List Int} {j : Nat} (hj : j < l.length) (x : Int) : (l.set j x).sum = l.sum - l[j] + x := by
  induction l generalizing j with
  | nil => simp at hj
  | cons y l ih =>
    cases j with
    | zero => simp; omega
    | succ j =>
      have := ih (j := j) (by simpa using hj)
      simp only [List.set_cons_succ, List.sum_cons, List.getElem_cons_succ]
      omega
structure SchI (cs ps : List Int) (k : Nat) (s : List Int × List Int × List Int) : Prop where
  l1 : s.1.length = cs.length
  l2 : s.2.1.length = ps.length
  l3 : s.2.2.length = k
  v : ∀ x ∈ s.1, 0 ≤ x ∧ x ≤ 6
  s : s.1.sum = cs.sum - k
theorem schI_step {cs ps chs : List Int} {k : Nat} {s : List Int × List Int × List Int} (h : SchI cs ps k s) (hk : (k : Int) < cs.sum) : SchI cs ps (k + 1) (schStep chs k s) := by
  have hb := bst_ok (l := s.1) (chgK k s.1 chs s.2.1 chs.length) (fun x hx => (h.v x hx).1) (by rw [h.s]; omega)
  have hh : 0 < s.1[(bst s.1 (chgK k s.1 chs s.2.1 chs.length)).toNat]?.getD 0 := bstK_has (l := s.1) (p := chgK k s.1 chs s.2.1 chs.length) s.1.length hb.1
  obtain ⟨t, ht⟩ := Int.eq_ofNat_of_zero_le hb.1
  have htl : t < s.1.length := by omega
  unfold schStep
  rw [ht] at hh ⊢
  simp only [Int.toNat_natCast] at hh ⊢
  rw [List.getElem?_eq_getElem htl, Option.getD_some] at hh ⊢
  refine ⟨by simp [h.l1], by rw [chgK_len]; exact h.l2, by simp [h.l3], ?_, ?_⟩
  · intro x hx
    rcases List.mem_or_eq_of_mem_set hx with h1 | h1
    · exact h.v x h1
    · have := h.v s.1[t] (List.getElem_mem htl)
      omega
  · show (s.1.set t (s.1[t] - 1)).sum = _
    rw [sum_set htl, h.s]
    omega
theorem schI_at {cs ps chs : List Int} (hv : ∀ x ∈ cs, 0 ≤ x ∧ x ≤ 6) : ∀ k : Nat, (k : Int) ≤ cs.sum → SchI cs ps k (schK cs ps chs k)
  | 0, _ => ⟨rfl, rfl, rfl, hv, by simp [schK]⟩
  | k + 1, hk => schI_step (schI_at hv k (by omega)) (by omega)
/-- Where a schedule lies while it is made. -/
structure SchS (w wr : World) (m gL gN cL cN : Nat) (v : Value) (left now out : List Int) : Prop where
  rl : wr.ownsRow w.heap.size 3 1 (.slice (some ⟨gL, 0, none⟩) m cL) m (left.map (Value.int .i64))
  rn : wr.ownsRow w.heap.size 3 1 (.slice (some ⟨gN, 0, none⟩) m cN) m (now.map (Value.int .i64))
  ro : wr.ownsRow w.heap.size 3 1 v out.length (out.map (Value.int .i64))
  n1 : gL ≠ gN
  n2 : v.ownBlock ≠ some gL
  n3 : v.ownBlock ≠ some gN
  gr : Grow w wr
section
variable {w wr : World} {m gL gN cL cN : Nat} {v : Value} {left now out : List Int}
theorem SchS.drewN (h : SchS w wr m gL gN cL cN v left now out) (q : Nat) : SchS w (wr.drewN q) m gL gN cL cN v left now out :=
  ⟨h.rl, h.rn, h.ro, h.n1, h.n2, h.n3, h.gr.drewN q⟩
theorem SchS.drew (h : SchS w wr m gL gN cL cN v left now out) : SchS w wr.drew m gL gN cL cN v left now out :=
  ⟨h.rl, h.rn, h.ro, h.n1, h.n2, h.n3, h.gr.drew⟩
theorem SchS.alloc (h : SchS w wr m gL gN cL cN v left now out) (o : Obj) : SchS w (wr.alloc o) m gL gN cL cN v left now out :=
  ⟨h.rl.alloc o, h.rn.alloc o, h.ro.alloc o, h.n1, h.n2, h.n3, h.gr.alloc o⟩
theorem SchS.lo (h : SchS w wr m gL gN cL cN v left now out) : w.heap.size ≤ gL ∧ w.heap.size ≤ gN :=
  ⟨(h.rl.lt gL (by simp [Value.ownBlock])).1, (h.rn.lt gN (by simp [Value.ownBlock])).1⟩
theorem SchS.setL (h : SchS w wr m gL gN cL cN v left now out) (j : Nat) (x : Int) : SchS w (wr.setCell ⟨gL, j, none⟩ (.int .i64 x)) m gL gN cL cN v (left.set j x) now out := by
  have hg : ∀ b : Nat, b ≠ gL → (wr.setCell ⟨gL, j, none⟩ (.int .i64 x)).heap[b]? = wr.heap[b]? := fun b hb => blk_set_other (a := ⟨gL, j, none⟩) hb _
  have hgb : wr.grownBy (wr.setCell ⟨gL, j, none⟩ (.int .i64 x)) (some gL) := ⟨rfl, rfl, rfl, by rw [size_set]; exact Nat.le_refl _, fun k _ hk => hg k (fun e => hk (by rw [e]))⟩
  exact ⟨by rw [List.map_set]; exact (h.rl.stored j _).1, h.rn.kept hgb (.inr (by simp [Value.ownBlock]; exact fun e => h.n1 e.symm)), h.ro.kept hgb (.inr h.n2), h.n1, h.n2, h.n3, h.gr.setCell _ _ h.lo.1⟩
theorem SchS.setN (h : SchS w wr m gL gN cL cN v left now out) (j : Nat) (x : Int) : SchS w (wr.setCell ⟨gN, j, none⟩ (.int .i64 x)) m gL gN cL cN v left (now.set j x) out := by
  have hg : ∀ b : Nat, b ≠ gN → (wr.setCell ⟨gN, j, none⟩ (.int .i64 x)).heap[b]? = wr.heap[b]? := fun b hb => blk_set_other (a := ⟨gN, j, none⟩) hb _
  have hgb : wr.grownBy (wr.setCell ⟨gN, j, none⟩ (.int .i64 x)) (some gN) := ⟨rfl, rfl, rfl, by rw [size_set]; exact Nat.le_refl _, fun k _ hk => hg k (fun e => hk (by rw [e]))⟩
  exact ⟨h.rl.kept hgb (.inr (by simp [Value.ownBlock]; exact h.n1)), by rw [List.map_set]; exact (h.rn.stored j _).1, h.ro.kept hgb (.inr h.n3), h.n1, h.n2, h.n3, h.gr.setCell _ _ h.lo.2⟩
theorem SchS.app (h : SchS w wr m gL gN cL cN v left now out) {tmp : Obj} {w1 : World} {v' : Value} {x : Int} (hown : w1.ownsRow w.heap.size 3 1 v' (out.length + 1) (out.map (Value.int .i64) ++ [.int .i64 x])) (hgrow : (wr.alloc tmp).grownBy w1 v.ownBlock)
    (hat : v'.ownBlock = v.ownBlock ∨ v'.ownBlock = some (wr.alloc tmp).heap.size) : SchS w w1 m gL gN cL cN v' left now (out ++ [x]) := by
  have l1 := (h.rl.lt gL (by simp [Value.ownBlock])).2
  have l2 := (h.rn.lt gN (by simp [Value.ownBlock])).2
  refine ⟨(h.rl.alloc tmp).kept hgrow (.inr (by simp [Value.ownBlock]; exact fun e => h.n2 e.symm)), (h.rn.alloc tmp).kept hgrow (.inr (by simp [Value.ownBlock]; exact fun e => h.n3 e.symm)), by simpa using hown, h.n1, ?_, ?_, (h.gr.alloc tmp).grown hgrow (fun k e => (h.ro.lt k e).1)⟩
  · rcases hat with e | e
    · rw [e]; exact h.n2
    · rw [e]; simp; omega
  · rcases hat with e | e
    · rw [e]; exact h.n3
    · rw [e]; simp; omega
theorem own_cell {base g n cap : Nat} {l : List Int} (h : wr.ownsRow base 3 1 (.slice (some ⟨g, 0, none⟩) n cap) n (l.map (Value.int .i64))) {j : Nat} (hj : j < l.length) : wr.cell? ⟨g, j, none⟩ = some (.int .i64 l[j]) := by
  have hl : l.length = n := by have := h.1; simpa using this
  rw [h.cellAt j (by omega)]
  simp [hj]
theorem own_ints {base g n cap : Nat} {l : List Int} (h : wr.ownsRow base 3 1 (.slice (some ⟨g, 0, none⟩) n cap) n (l.map (Value.int .i64))) : IntsAt wr (some ⟨g, 0, none⟩) l := by
  refine .inr ⟨g, 0, rfl, fun j x hx => ?_⟩
  obtain ⟨hj, rfl⟩ := List.getElem?_eq_some_iff.1 hx
  rw [Nat.zero_add]
  exact own_cell h hj
end
end Go.Proofs.Ytacfchepacfjnaa
