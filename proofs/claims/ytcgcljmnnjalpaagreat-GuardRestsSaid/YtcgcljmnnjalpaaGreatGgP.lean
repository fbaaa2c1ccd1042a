/- The managers, plainly: what is always so, whatever is done. -/
import Derived.Test.YtcgcljmnnjalpaaGreatGgE
set_option linter.unusedVariables false
set_option linter.unusedSimpArgs false
namespace Go.Proofs.YtcgcljmnnjalpaaGreat
open Go.RowKit Go.Kx
/-- s' has no more than s, of the same. -/
structure Sub (s s' : RS) : Prop where
  n : s'.n = s.n
  kind : s'.kind = s.kind
  it : ∀ x' ∈ s'.items, ∃ x ∈ s.items, x'.addr = x.addr ∧ x'.thr = x.thr ∧ x'.at_ = x.at_
  now : s.now ≤ s'.now
  sl : (addrs s').Sublist (addrs s)
theorem Sub.refl (s : RS) : Sub s s := ⟨rfl, rfl, fun x hx => ⟨x, hx, rfl, rfl, rfl⟩, Int.le_refl _, List.Sublist.refl _⟩
theorem Sub.trans {a b c : RS} (h : Sub a b) (k : Sub b c) : Sub a c := ⟨k.n.trans h.n, k.kind.trans h.kind, fun x hx => by
  obtain ⟨y, hy, e1, e2, e3⟩ := k.it x hx
  obtain ⟨z, hz, f1, f2, f3⟩ := h.it y hy
  exact ⟨z, hz, e1.trans f1, e2.trans f2, e3.trans f3⟩, Int.le_trans h.now k.now, k.sl.trans h.sl⟩
theorem Sub.same {s s' : RS} (hn : s'.n = s.n) (hk : s'.kind = s.kind) (hi : s'.items = s.items) (h0 : s.now ≤ s'.now) : Sub s s' := ⟨hn, hk, fun x hx => ⟨x, hi ▸ hx, rfl, rfl, rfl⟩, h0, by unfold addrs; rw [hi]; exact List.Sublist.refl _⟩
theorem Sub.sweep (s : RS) (p : Itm → Bool) : Sub s (sweepS s p).st := ⟨rfl, rfl, fun x hx => ⟨x, (List.mem_filter.1 hx).1, rfl, rfl, rfl⟩, Int.le_refl _, List.filter_sublist.map _⟩
theorem Sub.out0 (s : RS) (t : Nat) : Sub s (outS0 s t) := ⟨rfl, rfl, fun x hx => by
  obtain ⟨y, hy, rfl⟩ := List.mem_map.1 hx
  exact ⟨y, hy, rfl, rfl, rfl⟩, Int.le_refl _, by unfold addrs outS0; dsimp only; rw [List.map_map]; exact List.Sublist.refl _⟩
theorem Sub.hold0 (s : RS) (t k : Nat) (a : Int) : Sub s (holdS0 s t k a) := Sub.same rfl rfl rfl (Int.le_refl _)
theorem Sub.try (s : RS) : Sub s (tryS s).st := by
  unfold tryS
  split
  · exact Sub.refl s
  · have h1 : Sub s { s with now := s.now + 1 } := Sub.same rfl rfl rfl (by dsimp only; omega)
    exact h1.trans (Sub.sweep _ _)
theorem Sub.seq : ∀ (l : List (RS → RO)) (s : RS), (∀ f ∈ l, ∀ s, Sub s (f s).st) → Sub s (seqS s l).st
  | [], s, _ => Sub.refl s
  | f :: l, s, h => (h f (by simp) s).trans (Sub.seq l _ fun g hg => h g (by simp [hg]))
theorem Sub.rest (s : RS) : Sub s (restS s).st := by
  unfold restS
  split
  · exact Sub.seq _ _ fun f hf s => by obtain ⟨t, _, rfl⟩ := List.mem_map.1 hf; exact Sub.sweep _ _
  · split
    · exact Sub.seq _ _ fun f hf s => by rw [show f = tryS by simpa using hf]; exact Sub.try s
    · exact Sub.sweep _ _
theorem Ok.now {s : RS} (h : Ok s) (k : Int) (hk : s.now ≤ k) : Ok { s with now := k } := h.sub rfl rfl rfl (fun x hx => hx) hk
theorem Ok.try {s : RS} (h : Ok s) : Ok (tryS s).st := by
  unfold tryS
  split
  · exact h
  · exact (h.now (s.now + 1) (by omega)).sweep _
theorem Ok.seq : ∀ (l : List (RS → RO)) (s : RS), Ok s → (∀ f ∈ l, ∀ s, Ok s → Ok (f s).st) → Ok (seqS s l).st
  | [], s, h, _ => h
  | f :: l, s, h, hf => Ok.seq l _ (hf f (by simp) s h) fun g hg => hf g (by simp [hg])
theorem Ok.rest {s : RS} (h : Ok s) : Ok (restS s).st := by
  unfold restS
  split
  · exact Ok.seq _ _ h fun f hf s hs => by obtain ⟨t, _, rfl⟩ := List.mem_map.1 hf; exact hs.sweep _
  · split
    · exact Ok.seq _ _ h fun f hf s hs => by rw [show f = tryS by simpa using hf]; exact hs.try
    · exact h.sweep _
structure Inv (s : RS) : Prop where
  ok : Ok s
  thr : ∀ x ∈ s.items, 0 ≤ x.thr ∧ x.thr < s.n
  at_ : ∀ x ∈ s.items, x.at_ ≤ s.now
  nodup : (addrs s).Nodup
theorem Inv.sub {s s' : RS} (h : Inv s) (hs : Sub s s') (ho : Ok s') : Inv s' :=
  ⟨ho, fun x hx => by
    obtain ⟨y, hy, e1, e2, e3⟩ := hs.it x hx
    rw [e2, hs.n]; exact h.thr y hy, fun x hx => by
    obtain ⟨y, hy, e1, e2, e3⟩ := hs.it x hx
    rw [e3]; exact Int.le_trans (h.at_ y hy) hs.now, h.nodup.sublist hs.sl⟩
theorem Inv.ret0 {s : RS} (h : Inv s) {t a : Int} (ht : okTh s t = true) (ha : 0 < a) (hw : waitsB s a = false) : Inv (retS0 s t a) := by
  have ht' : 0 ≤ t ∧ t < s.n := by
    unfold okTh at ht
    simpa using ht
  refine ⟨h.ok.ret0 t a ha, fun x hx => ?_, fun x hx => ?_, ?_⟩
  · rcases List.mem_append.1 hx with hx | hx
    · exact h.thr x hx
    · rw [List.mem_singleton.1 hx]; exact ht'
  · rcases List.mem_append.1 hx with hx | hx
    · exact h.at_ x hx
    · rw [List.mem_singleton.1 hx]; exact Int.le_refl _
  · have e : addrs (retS0 s t a) = addrs s ++ [a] := by simp [addrs, retS0, mkItm]
    rw [e, List.nodup_append]
    refine ⟨h.nodup, by simp, fun x hx y hy => ?_⟩
    rw [List.mem_singleton.1 hy]
    rintro rfl
    rw [waits_mem] at hw
    exact absurd (show x ∈ s.items.map (·.addr) from hx) (of_decide_eq_false hw)
theorem okTh_lt {s : RS} {t : Int} (h : okTh s t = true) : 0 ≤ t ∧ t < s.n ∧ t.toNat < s.n := by
  unfold okTh at h
  simp at h
  omega
theorem Inv.do {s : RS} (h : Inv s) (d : Dd) : Inv (doS s d).st := by
  unfold doS
  split
  · refine h.sub ?_ (h.ok.in_ _)
    unfold inS
    split
    · exact Sub.same rfl rfl rfl (Int.le_refl _)
    · exact Sub.refl s
  split
  · unfold outS
    split
    · next ht =>
      have h0 := h.sub (Sub.out0 s d.th.toNat) (h.ok.out0 (okTh_lt ht).2.2)
      split
      · exact h0.sub (Sub.sweep _ _) (h0.ok.sweep _)
      · exact h0
    · exact h
  split
  · unfold holdS
    split
    · next ht =>
      simp only [Bool.and_eq_true] at ht
      have hh : d.ho.toNat < 3 ∧ 0 ≤ d.ad := by
        have := ht.2
        unfold holdOk at this
        simp at this
        omega
      have h0 := h.sub (Sub.hold0 s d.th.toNat d.ho.toNat d.ad) (h.ok.hold0 (okTh_lt ht.1).2.2 hh.1 hh.2)
      split
      · exact h
      · split
        · exact h0.sub (Sub.sweep _ _) (h0.ok.sweep _)
        · exact h0
    · exact h
  split
  · unfold bornS
    split
    · split
      · exact h.sub (Sub.same rfl rfl rfl (by dsimp only; omega)) (h.ok.sub rfl rfl rfl (fun x hx => hx) (by dsimp only; omega))
      · exact h
    · exact h
  split
  · unfold retS
    split
    · next ht =>
      simp only [Bool.and_eq_true, decide_eq_true_eq] at ht
      split
      · exact h
      · next hw =>
        have h0 := h.ret0 ht.1 ht.2 (by simpa using hw)
        split
        · split
          · exact h0.sub (Sub.sweep _ _) (h0.ok.sweep _)
          · exact h0
        · split
          · exact h0.sub (Sub.try _) h0.ok.try
          · exact h0.sub (Sub.sweep _ _) (h0.ok.sweep _)
    · exact h
  split
  · exact h.sub (Sub.rest s) h.ok.rest
  · exact h
theorem Inv.run {s : RS} (h : Inv s) : ∀ l : List Dd, Inv (runS s l) := by
  intro l
  induction l generalizing s with
  | nil => exact h
  | cons d l ih => exact ih (h.do d)
theorem inv_new (k : Int) {n : Nat} (h1 : 1 ≤ n) (h4 : n ≤ 4) : Inv (newS k n) := ⟨ok_new k h1 h4, fun x hx => by simp [newS] at hx, fun x hx => by simp [newS] at hx, by simp [addrs, newS]⟩
end Go.Proofs.YtcgcljmnnjalpaaGreat
