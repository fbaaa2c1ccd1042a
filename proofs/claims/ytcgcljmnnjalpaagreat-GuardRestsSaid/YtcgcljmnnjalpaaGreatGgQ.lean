/- The managers, plainly: when all have left, a Rest gives back all, but for leak. -/
import Derived.Test.YtcgcljmnnjalpaaGreatGgP
set_option linter.unusedVariables false
set_option linter.unusedSimpArgs false
namespace Go.Proofs.YtcgcljmnnjalpaaGreat
open Go.RowKit Go.Kx
structure Left (s : RS) : Prop where
  ins : ∀ t, s.ins t = false
  holds : ∀ t k, s.holds t k = 0
  for_ : ∀ x ∈ s.items, ∀ t, x.for_ t = false
theorem held_none {s : RS} (hh : ∀ t k, s.holds t k = 0) {a : Int} (ha : 0 < a) : heldB s a = false := by
  unfold heldB
  rw [List.any_eq_false]
  intro t _
  rw [Bool.not_eq_true, List.any_eq_false]
  intro k _
  simp [hh]
  omega
theorem free_left {s : RS} (hk : s.kind = 1 ∨ s.kind = 3 ∨ s.kind = 4 ∨ s.kind = 5) (hi : ∀ t, s.ins t = false) (hh : ∀ t k, s.holds t k = 0) {x : Itm} (hf : ∀ t, x.for_ t = false) (ha : 0 < x.addr) : freeB s x = true := by
  unfold freeB
  by_cases h14 : s.kind = 1 ∨ s.kind = 4
  · rw [if_pos h14, held_none hh ha]; rfl
  rw [if_neg h14, if_neg (by omega)]
  by_cases h3 : s.kind = 3
  · rw [if_pos h3]
    have : (List.range 4).any (spanB s x) = false := by
      rw [List.any_eq_false]
      intro t _
      unfold spanB
      rw [hi t]
      simp
    rw [this]; rfl
  · rw [if_neg h3, if_pos (by omega)]
    have : (List.range 4).any x.for_ = false := by
      rw [List.any_eq_false]
      intro t _
      rw [hf t]; simp
    rw [this]; rfl
theorem nil_of {α : Type} {l : List α} (h : ∀ x, x ∉ l) : l = [] := List.eq_nil_iff_forall_not_mem.2 h
theorem scanK_keep (s : RS) (k : Nat) : (scanK s k).st.holds = s.holds ∧ (scanK s k).st.kind = s.kind ∧ (scanK s k).st.ins = s.ins := by
  induction k with
  | zero => exact ⟨rfl, rfl, rfl⟩
  | succ k ih =>
    rw [scanK_succ]
    exact ih
theorem scanK_left {s : RS} (hk : s.kind = 1) (hh : ∀ t k, s.holds t k = 0) (ha : ∀ x ∈ s.items, 0 < x.addr ∧ 0 ≤ x.thr) : ∀ k, ∀ x ∈ (scanK s k).st.items, (k : Int) ≤ x.thr ∧ x ∈ s.items
  | 0, x, hx => ⟨(ha x hx).2, hx⟩
  | k + 1, x, hx => by
    rw [scanK_succ] at hx
    obtain ⟨h1, h2⟩ := sweep_left hx
    obtain ⟨h3, h4⟩ := scanK_left hk hh ha k x h1
    obtain ⟨e1, e2, e3⟩ := scanK_keep s k
    have hf : freeB (scanK s k).st x = true := by
      unfold freeB
      rw [if_pos (.inl (e2.trans hk)), held_none (by rw [e1]; exact hh) (ha x h4).1]; rfl
    rw [hf, Bool.and_true] at h2
    simp at h2
    exact ⟨by push_cast; omega, h4⟩
theorem try_left {s : RS} (hi : ∀ t, s.ins t = false) (hk : s.kind = 2) : (tryS s).st.now = s.now + 1 ∧ (tryS s).st.ins = s.ins ∧ (tryS s).st.kind = s.kind ∧ ∀ x ∈ (tryS s).st.items, x ∈ s.items ∧ s.now - 1 < x.at_ := by
  have hb : behindB s = false := by
    unfold behindB
    rw [List.any_eq_false]
    intro t _
    rw [hi t]; simp
  unfold tryS
  rw [hb]
  refine ⟨rfl, rfl, rfl, fun x hx => ?_⟩
  obtain ⟨h1, h2⟩ := sweep_left (s := { s with now := s.now + 1 }) (p := fun _ => true) hx
  refine ⟨h1, ?_⟩
  rw [Bool.true_and, freeE (show ({ s with now := s.now + 1 } : RS).kind = 2 from hk)] at h2
  unfold oldE at h2
  simp at h2
  omega
theorem rest_all {s : RS} (h : Inv s) (hl : Left s) (hk : 1 ≤ s.kind ∧ s.kind ≤ 5) : (restS s).st.items = [] := by
  by_cases h1 : s.kind = 1
  · rw [restZ h1]
    refine nil_of fun x hx => ?_
    obtain ⟨h3, h4⟩ := scanK_left h1 hl.holds (fun x hx => ⟨h.ok.addr x hx, (h.thr x hx).1⟩) s.n x hx
    have := (h.thr x h4).2
    omega
  by_cases h2 : s.kind = 2
  · rw [restE h2]
    obtain ⟨a1, a2, a3, a4⟩ := try_left hl.ins h2
    obtain ⟨b1, b2, b3, b4⟩ := try_left (s := (tryS s).st) (by rw [a2]; exact hl.ins) (a3.trans h2)
    obtain ⟨c1, c2, c3, c4⟩ := try_left (s := (tryS (tryS s).st).st) (by rw [b2, a2]; exact hl.ins) (b3.trans (a3.trans h2))
    refine nil_of fun x hx => ?_
    obtain ⟨p1, p2⟩ := c4 x hx
    obtain ⟨q1, q2⟩ := b4 x p1
    obtain ⟨r1, r2⟩ := a4 x q1
    have := h.at_ x r1
    omega
  · have e : restS s = sweepS s fun _ => true := by
      unfold restS
      rw [if_neg h1, if_neg h2]
    rw [e]
    refine nil_of fun x hx => ?_
    obtain ⟨p1, p2⟩ := sweep_left hx
    rw [Bool.true_and, free_left (by omega) hl.ins hl.holds (hl.for_ x p1) (h.ok.addr x p1)] at p2
    cases p2
theorem rest_leak {s : RS} (hk : s.kind = 0) : restS s = ⟨s, [], 0⟩ := by
  unfold restS
  rw [if_neg (by omega), if_neg (by omega)]
  exact sweep_none fun x _ => by
    unfold freeB
    rw [if_neg (by omega), if_neg (by omega), if_neg (by omega), if_neg (by omega)]; rfl
theorem seq_cnt : ∀ (l : List (RS → RO)) (s : RS), (∀ f ∈ l, ∀ s, (f s).back.length + (f s).st.items.length = s.items.length) → (seqS s l).back.length + (seqS s l).st.items.length = s.items.length
  | [], s, _ => by simp [seqS]
  | f :: l, s, h => by
    have h1 := h f (by simp) s
    have h2 := seq_cnt l (f s).st fun g hg => h g (by simp [hg])
    show ((f s).back ++ (seqS (f s).st l).back).length + (seqS (f s).st l).st.items.length = _
    rw [List.length_append]
    omega
theorem rest_cnt (s : RS) : (restS s).back.length + (restS s).st.items.length = s.items.length := by
  unfold restS
  split
  · exact seq_cnt _ _ fun f hf s => by obtain ⟨t, _, rfl⟩ := List.mem_map.1 hf; exact sweep_len _ _
  · split
    · exact seq_cnt _ _ fun f hf s => by rw [show f = tryS by simpa using hf]; exact tryS_len s
    · exact sweep_len _ _
/-- All of the first k threads leave. -/
def outD (k : Nat) : List Dd := (List.range k).map fun (t : Nat) => ⟨1, (t : Int), 0, 0⟩
theorem runS_out (s : RS) (k : Nat) : runS s (outD (k + 1)) = (outS (runS s (outD k)) (k : Int)).st := by
  unfold runS outD
  rw [List.range_succ, List.map_append, List.foldl_append]
  rfl
structure LeftK (k : Nat) (s : RS) : Prop where
  ins : ∀ t, t < k → s.ins t = false
  holds : ∀ t, t < k → ∀ j, s.holds t j = 0
  for_ : ∀ x ∈ s.items, ∀ t, t < k → x.for_ t = false
theorem LeftK.out0 {k : Nat} {s : RS} (h : LeftK k s) : LeftK (k + 1) (outS0 s k) := by
  refine ⟨fun t ht => ?_, fun t ht j => ?_, fun x hx t ht => ?_⟩
  · show upd1 s.ins k false t = false
    unfold upd1; split
    · rfl
    · exact h.ins t (by omega)
  · show upd1 s.holds k (fun _ => 0) t j = 0
    unfold upd1; split
    · rfl
    · exact h.holds t (by omega) j
  · obtain ⟨y, hy, rfl⟩ := List.mem_map.1 hx
    show upd1 y.for_ k false t = false
    unfold upd1; split
    · rfl
    · exact h.for_ y hy t (by omega)
theorem LeftK.out {k : Nat} {s : RS} (h : LeftK k s) (hn : k < s.n) : LeftK (k + 1) (outS s (k : Int)).st := by
  have ht : okTh s (k : Int) = true := by simp [okTh, hn]
  have h0 := h.out0
  unfold outS
  rw [if_pos ht]
  split
  · exact ⟨h0.ins, h0.holds, fun x hx => h0.for_ x (sweep_left hx).1⟩
  · exact h0
theorem left_run {s : RS} : ∀ k, k ≤ s.n → LeftK k (runS s (outD k)) ∧ (runS s (outD k)).n = s.n
  | 0, _ => ⟨⟨fun t ht => absurd ht (Nat.not_lt_zero _), fun t ht => absurd ht (Nat.not_lt_zero _), fun x hx t ht => absurd ht (Nat.not_lt_zero _)⟩, rfl⟩
  | k + 1, hk => by
    obtain ⟨h1, h2⟩ := left_run (s := s) k (by omega)
    rw [runS_out]
    exact ⟨h1.out (by omega), (do_n (runS s (outD k)) ⟨1, (k : Int), 0, 0⟩).trans h2⟩
theorem left_all {s : RS} (h : Inv s) (hl : LeftK s.n s) : Left s :=
  ⟨fun t => by
    by_cases ht : t < s.n
    · exact hl.ins t ht
    · exact h.ok.ins t (by omega), fun t k => by
    by_cases ht : t < s.n
    · exact hl.holds t ht k
    · exact h.ok.holds t k (.inl (by omega)), fun x hx t => by
    by_cases ht : t < s.n
    · exact hl.for_ x hx t ht
    · exact h.ok.forI x hx t (by omega)⟩
end Go.Proofs.YtcgcljmnnjalpaaGreat
