/- The managers, plainly: what a thread holds is not given back. -/
import Derived.Test.YtcgcljmnnjalpaaGreatGxL
set_option linter.unusedVariables false
set_option linter.unusedSimpArgs false
namespace Go.Proofs.YtcgcljmnnjalpaaGreat
open Go.RowKit Go.Kx
/-- Thread t, that is inside, holds a in its slot k, and a was not waiting when it was set. -/
structure KI (s : RS) (t k : Nat) (a : Int) : Prop where
  inv : Inv s
  tn : t < s.n
  k3 : k < 3
  a0 : 0 < a
  ins : s.ins t = true
  hold : s.holds t k = a
  ep : s.kind = 2 → s.lo t ≤ s.now ∧ s.now ≤ s.lo t + 1 ∧ ∀ x ∈ s.items, x.addr = a → s.lo t ≤ x.at_
  qu : s.kind = 5 → ∀ x ∈ s.items, x.addr = a → x.for_ t = true
section
variable {s : RS} {t k : Nat} {a : Int}
theorem KI.t4 (h : KI s t k a) : t < 4 := by have := h.tn; have := h.inv.ok.n4; omega
theorem KI.held (h : KI s t k a) : heldB s a = true := by
  unfold heldB
  exact List.any_eq_true.2 ⟨t, List.mem_range.2 h.t4, List.any_eq_true.2 ⟨k, List.mem_range.2 h.k3, by simp [h.hold]⟩⟩
theorem KI.not_free (h : KI s t k a) {x : Itm} (hx : x ∈ s.items) (ha : x.addr = a) : freeB s x = false := by
  unfold freeB
  by_cases h14 : s.kind = 1 ∨ s.kind = 4
  · rw [if_pos h14, ha, h.held]; rfl
  rw [if_neg h14]
  by_cases h2 : s.kind = 2
  · rw [if_pos h2]
    obtain ⟨e1, e2, e3⟩ := h.ep h2
    have := e3 x hx ha
    exact decide_eq_false (by omega)
  rw [if_neg h2]
  by_cases h3 : s.kind = 3
  · rw [if_pos h3]
    have : (List.range 4).any (spanB s x) = true := by
      refine List.any_eq_true.2 ⟨t, List.mem_range.2 h.t4, ?_⟩
      unfold spanB
      have : ((List.range 3).any fun j => s.holds t j == x.addr) = true := List.any_eq_true.2 ⟨k, List.mem_range.2 h.k3, by simp [h.hold, ha]⟩
      rw [h.ins, this]
      simp
    rw [this]; rfl
  rw [if_neg h3]
  by_cases h5 : s.kind = 5
  · rw [if_pos h5]
    have : (List.range 4).any x.for_ = true := List.any_eq_true.2 ⟨t, List.mem_range.2 h.t4, h.qu h5 x hx ha⟩
    rw [this]; rfl
  · rw [if_neg h5]
theorem KI.sweep (h : KI s t k a) (p : Itm → Bool) : a ∉ (sweepS s p).back ∧ KI (sweepS s p).st t k a := by
  refine ⟨fun hm => ?_, h.inv.sub (Sub.sweep s p) (h.inv.ok.sweep p), h.tn, h.k3, h.a0, h.ins, h.hold, fun hk => ?_, fun hk x hx ha => h.qu hk x (sweep_left hx).1 ha⟩
  · unfold sweepS at hm
    obtain ⟨x, hx, ha⟩ := List.mem_map.1 hm
    obtain ⟨h1, h2⟩ := List.mem_filter.1 hx
    rw [h.not_free h1 ha, Bool.and_false] at h2
    cases h2
  · obtain ⟨e1, e2, e3⟩ := h.ep hk
    exact ⟨e1, e2, fun x hx ha => e3 x (sweep_left hx).1 ha⟩
theorem KI.try (h : KI s t k a) (hk : s.kind = 2) : a ∉ (tryS s).back ∧ KI (tryS s).st t k a := by
  unfold tryS
  cases hb : behindB s
  · have hlo : s.lo t = s.now := by
      unfold behindB at hb
      rw [List.any_eq_false] at hb
      have := hb t (List.mem_range.2 h.t4)
      rw [h.ins] at this
      simpa using this
    obtain ⟨e1, e2, e3⟩ := h.ep hk
    have h1 : KI { s with now := s.now + 1 } t k a := ⟨h.inv.sub (Sub.same rfl rfl rfl (by dsimp only; omega)) (h.inv.ok.now _ (by omega)), h.tn, h.k3, h.a0, h.ins, h.hold, fun _ => ⟨by dsimp only; omega, by dsimp only; omega, e3⟩, h.qu⟩
    exact h1.sweep _
  · exact ⟨by simp, h⟩
theorem KI.seq : ∀ (l : List (RS → RO)) {s : RS}, KI s t k a → (∀ f ∈ l, ∀ s, KI s t k a → a ∉ (f s).back ∧ KI (f s).st t k a) → a ∉ (seqS s l).back ∧ KI (seqS s l).st t k a
  | [], s, h, _ => ⟨by simp [seqS], h⟩
  | f :: l, s, h, hf => by
    obtain ⟨h1, h2⟩ := hf f (by simp) s h
    obtain ⟨h3, h4⟩ := KI.seq l h2 fun g hg => hf g (by simp [hg])
    refine ⟨fun hm => ?_, h4⟩
    rcases List.mem_append.1 (show a ∈ (f s).back ++ (seqS (f s).st l).back from hm) with q | q
    · exact h1 q
    · exact h3 q
theorem KI.tries : ∀ (j : Nat) {s : RS}, KI s t k a → s.kind = 2 → a ∉ (seqS s (List.replicate j tryS)).back ∧ KI (seqS s (List.replicate j tryS)).st t k a
  | 0, s, h, _ => ⟨by simp [seqS], h⟩
  | j + 1, s, h, hk => by
    obtain ⟨h1, h2⟩ := h.try hk
    obtain ⟨h3, h4⟩ := KI.tries j h2 ((try_kind s).trans hk)
    refine ⟨fun hm => ?_, h4⟩
    rcases List.mem_append.1 (show a ∈ (tryS s).back ++ (seqS (tryS s).st (List.replicate j tryS)).back from hm) with q | q
    · exact h1 q
    · exact h3 q
theorem KI.rest (h : KI s t k a) : a ∉ (restS s).back ∧ KI (restS s).st t k a := by
  unfold restS
  split
  · exact KI.seq _ h fun f hf s hs => by obtain ⟨u, _, rfl⟩ := List.mem_map.1 hf; exact hs.sweep _
  · split
    · next h2 => exact h.tries 3 h2
    · exact h.sweep _
theorem KI.out0 (h : KI s t k a) {u : Nat} (hu : u < s.n) (hne : t ≠ u) : KI (outS0 s u) t k a := by
  refine ⟨h.inv.sub (Sub.out0 s u) (h.inv.ok.out0 hu), h.tn, h.k3, h.a0, ?_, ?_, fun hk => ?_, fun hk x hx ha => ?_⟩
  · show upd1 s.ins u false t = true
    unfold upd1; rw [if_neg hne]; exact h.ins
  · show upd1 s.holds u (fun _ => 0) t k = a
    unfold upd1; rw [if_neg hne]; exact h.hold
  · obtain ⟨e1, e2, e3⟩ := h.ep hk
    refine ⟨e1, e2, fun x hx ha => ?_⟩
    obtain ⟨y, hy, rfl⟩ := List.mem_map.1 hx
    exact e3 y hy ha
  · obtain ⟨y, hy, rfl⟩ := List.mem_map.1 hx
    show upd1 y.for_ u false t = true
    unfold upd1; rw [if_neg hne]; exact h.qu hk y hy ha
theorem KI.hold0 (h : KI s t k a) {u j : Nat} {b : Int} (hu : u < s.n) (hj : j < 3) (hb : 0 ≤ b) (hne : ¬ (t = u ∧ k = j)) : KI (holdS0 s u j b) t k a := by
  refine ⟨h.inv.sub (Sub.hold0 s u j b) (h.inv.ok.hold0 hu hj hb), h.tn, h.k3, h.a0, h.ins, ?_, h.ep, h.qu⟩
  show upd1 s.holds u (upd1 (s.holds u) j b) t k = a
  unfold upd1
  by_cases e : t = u
  · subst e
    rw [if_pos rfl, if_neg (fun e => hne ⟨rfl, e⟩)]; exact h.hold
  · rw [if_neg e]; exact h.hold
theorem KI.ret0 (h : KI s t k a) {u b : Int} (hu : okTh s u = true) (hb : 0 < b) (hw : waitsB s b = false) : KI (retS0 s u b) t k a := by
  refine ⟨h.inv.ret0 hu hb hw, h.tn, h.k3, h.a0, h.ins, h.hold, fun hk => ?_, fun hk x hx ha => ?_⟩
  · obtain ⟨e1, e2, e3⟩ := h.ep hk
    refine ⟨e1, e2, fun x hx ha => ?_⟩
    rcases List.mem_append.1 hx with hx | hx
    · exact e3 x hx ha
    · rw [List.mem_singleton.1 hx]; exact e1
  · rcases List.mem_append.1 hx with hx | hx
    · exact h.qu hk x hx ha
    · rw [List.mem_singleton.1 hx]
      have hk' : s.kind = 5 := hk
      show (if s.kind = 5 then s.ins else fun _ => false) t = true
      rw [if_pos hk']; exact h.ins
/-- The deeds that are passed over. -/
def skipD (t k : Int) (a : Int) (d : Dd) : Prop := (d.th = t ∧ (d.do_ ≤ 1 ∨ d.do_ = 2 ∧ d.ho = k)) ∨ d.do_ = 3 ∧ d.ad = a
theorem KI.do (h : KI s t k a) (d : Dd) (hd : ¬ skipD t k a d) : a ∉ (doS s d).back ∧ KI (doS s d).st t k a := by
  have hth : d.do_ ≤ 1 → okTh s d.th = true → t ≠ d.th.toNat := fun h1 h2 e => hd (.inl ⟨by have := (okTh_lt h2).1; omega, .inl h1⟩)
  unfold doS
  split
  · next hc =>
    unfold inS
    split
    · next ht =>
      have hne := hth (by omega) ht
      refine ⟨by simp, ?_⟩
      have hi := (h.inv.sub (s' := (inS s d.th).st) (by unfold inS; rw [if_pos ht]; exact Sub.same rfl rfl rfl (Int.le_refl _)) (h.inv.ok.in_ _))
      unfold inS at hi
      rw [if_pos ht] at hi
      refine ⟨hi, h.tn, h.k3, h.a0, ?_, ?_, fun hk => ?_, h.qu⟩
      · show upd1 s.ins d.th.toNat true t = true
        unfold upd1; rw [if_neg hne]; exact h.ins
      · show (if s.kind = 3 then upd1 s.holds d.th.toNat (fun _ => 0) else s.holds) t k = a
        split
        · unfold upd1; rw [if_neg hne]; exact h.hold
        · exact h.hold
      · have hl : upd1 s.lo d.th.toNat s.now t = s.lo t := by unfold upd1; rw [if_neg hne]
        show upd1 s.lo d.th.toNat s.now t ≤ s.now ∧ s.now ≤ upd1 s.lo d.th.toNat s.now t + 1 ∧ ∀ x ∈ s.items, x.addr = a → upd1 s.lo d.th.toNat s.now t ≤ x.at_
        rw [hl]
        exact h.ep hk
    · exact ⟨by simp, h⟩
  split
  · unfold outS
    split
    · next ht =>
      have h0 := h.out0 (okTh_lt ht).2.2 (hth (by omega) ht)
      split
      · exact h0.sweep _
      · exact ⟨by simp, h0⟩
    · exact ⟨by simp, h⟩
  split
  · next hc =>
    unfold holdS
    split
    · next ht =>
      simp only [Bool.and_eq_true] at ht
      have hh : 0 ≤ d.ho ∧ d.ho.toNat < 3 ∧ 0 ≤ d.ad := by
        have := ht.2
        unfold holdOk at this
        simp at this
        omega
      have ht0 := (okTh_lt ht.1).1
      have h0 := h.hold0 (okTh_lt ht.1).2.2 hh.2.1 hh.2.2 (fun ⟨e1, e2⟩ => hd (.inl ⟨by omega, .inr ⟨hc, by omega⟩⟩))
      split
      · exact ⟨by simp, h⟩
      · split
        · exact h0.sweep _
        · exact ⟨by simp, h0⟩
    · exact ⟨by simp, h⟩
  split
  · refine ⟨by simp, ?_⟩
    unfold bornS
    split
    · split
      · next hk3 =>
        exact ⟨h.inv.sub (Sub.same rfl rfl rfl (by dsimp only; omega)) (h.inv.ok.sub rfl rfl rfl (fun x hx => hx) (by dsimp only; omega)), h.tn, h.k3, h.a0, h.ins, h.hold, fun hk => by
          have hk2 : s.kind = 2 := hk
          omega, h.qu⟩
      · exact h
    · exact h
  split
  · unfold retS
    split
    · next ht =>
      simp only [Bool.and_eq_true, decide_eq_true_eq] at ht
      split
      · exact ⟨by simp, h⟩
      · next hw =>
        have h0 := h.ret0 ht.1 ht.2 (by simpa using hw)
        split
        · split
          · exact h0.sweep _
          · exact ⟨by simp, h0⟩
        · split
          · next h2 => exact h0.try h2
          · exact h0.sweep _
    · exact ⟨by simp, h⟩
  split
  · exact h.rest
  · exact ⟨by simp, h⟩
end
/-- The hold is set by a thread that has just entered. -/
theorem keep_start {s : RS} (hi : Inv s) {t k : Nat} {a : Int} (ht : t < s.n) (hk : k < 3) (ha : 0 < a) (hw : waitsB (inS s (t : Int)).st a = false) : KI (holdS (inS s (t : Int)).st t k a).st t k a ∧ (inS s (t : Int)).err = 0 ∧ (holdS (inS s (t : Int)).st t k a).err = 0 := by
  have hok : okTh s (t : Int) = true := by simp [okTh, ht]
  have hi1 : Inv (inS s (t : Int)).st := hi.do ⟨0, t, 0, 0⟩
  have e : inS s (t : Int) = ⟨(inS s (t : Int)).st, [], 0⟩ := by simp [inS, hok]
  have h1 : (inS s (t : Int)).st.n = s.n ∧ (inS s (t : Int)).st.ins t = true ∧ (inS s (t : Int)).st.lo t = (inS s (t : Int)).st.now := by
    unfold inS
    rw [if_pos hok]
    simp [upd1]
  generalize (inS s (t : Int)).st = s1 at *
  have hok1 : (okTh s1 (t : Int) && holdOk (k : Int) a) = true := by
    simp [okTh, holdOk, h1.1, ht]
    omega
  have hno : ∀ x ∈ s1.items, x.addr ≠ a := fun x hx e => by
    unfold waitsB at hw
    rw [List.any_eq_false] at hw
    exact hw x hx (by simp [e])
  have h0 : KI (holdS0 s1 t k a) t k a := by
    refine ⟨hi1.sub (Sub.hold0 s1 t k a) (hi1.ok.hold0 (by omega) hk (by omega)), by show t < s1.n; omega, hk, ha, h1.2.1, ?_, fun _ => ⟨?_, ?_, fun x hx e => absurd e (hno x hx)⟩, fun _ x hx e => absurd e (hno x hx)⟩
    · show upd1 s1.holds t (upd1 (s1.holds t) k a) t k = a
      simp [upd1]
    · show s1.lo t ≤ s1.now
      omega
    · show s1.now ≤ s1.lo t + 1
      omega
  have hne : ¬ (s1.kind = 3 ∧ s1.ins (t : Int).toNat = false) := fun ⟨_, e2⟩ => by
    rw [Int.toNat_natCast, h1.2.1] at e2; cases e2
  refine ⟨?_, by rw [e], ?_⟩
  · unfold holdS
    rw [if_pos hok1, if_neg hne]
    simp only [Int.toNat_natCast]
    split
    · exact (h0.sweep _).2
    · exact h0
  · unfold holdS
    rw [if_pos hok1, if_neg hne]
    split <;> rfl
end Go.Proofs.YtcgcljmnnjalpaaGreat
