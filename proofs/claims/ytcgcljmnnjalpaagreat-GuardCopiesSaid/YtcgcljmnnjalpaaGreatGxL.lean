/- The managers, plainly: what is always so, whatever is done. The managers, plainly: when all have left, a Rest gives back all, but for leak. The managers, plainly: no more than the bound waits. -/
import Derived.Test.YtcgcljmnnjalpaaGreatGxK
set_option linter.unusedVariables false
set_option linter.unusedSimpArgs false
namespace Go.Proofs.YtcgcljmnnjalpaaGreat
open Go.RowKit Go.Kx
/-- s' has no more than s, of the same. -/
structure Sub (s s' : RS) : Prop where
  n : s'.n = s.n
  kind : s'.kind = s.kind
  it : ∀ x' ∈ s'.items, ∃ x ∈ s.items, x'.addr = x.addr ∧ x'.thr = x.thr ∧ x'.at_ = x.at_
  now : s.now ≤ s'.now
  sl : (addrs s').Sublist (addrs s)
theorem Sub.refl (s : RS) : Sub s s := ⟨rfl, rfl, fun x hx => ⟨x, hx, rfl, rfl, rfl⟩, Int.le_refl _, List.Sublist.refl _⟩
theorem Sub.trans {a b c : RS} (h : Sub a b) (k : Sub b c) : Sub a c := ⟨k.n.trans h.n, k.kind.trans h.kind, fun x hx => by
  obtain ⟨y, hy, e1, e2, e3⟩ := k.it x hx
  obtain ⟨z, hz, f1, f2, f3⟩ := h.it y hy
  exact ⟨z, hz, e1.trans f1, e2.trans f2, e3.trans f3⟩, Int.le_trans h.now k.now, k.sl.trans h.sl⟩
theorem Sub.same {s s' : RS} (hn : s'.n = s.n) (hk : s'.kind = s.kind) (hi : s'.items = s.items) (h0 : s.now ≤ s'.now) : Sub s s' := ⟨hn, hk, fun x hx => ⟨x, hi ▸ hx, rfl, rfl, rfl⟩, h0, by unfold addrs; rw [hi]; exact List.Sublist.refl _⟩
theorem Sub.sweep (s : RS) (p : Itm → Bool) : Sub s (sweepS s p).st := ⟨rfl, rfl, fun x hx => ⟨x, (List.mem_filter.1 hx).1, rfl, rfl, rfl⟩, Int.le_refl _, List.filter_sublist.map _⟩
theorem Sub.out0 (s : RS) (t : Nat) : Sub s (outS0 s t) := ⟨rfl, rfl, fun x hx => by
  obtain ⟨y, hy, rfl⟩ := List.mem_map.1 hx
  exact ⟨y, hy, rfl, rfl, rfl⟩, Int.le_refl _, by unfold addrs outS0; dsimp only; rw [List.map_map]; exact List.Sublist.refl _⟩
theorem Sub.hold0 (s : RS) (t k : Nat) (a : Int) : Sub s (holdS0 s t k a) := Sub.same rfl rfl rfl (Int.le_refl _)
theorem Sub.try (s : RS) : Sub s (tryS s).st := by
  unfold tryS
  split
  · exact Sub.refl s
  · have h1 : Sub s { s with now := s.now + 1 } := Sub.same rfl rfl rfl (by dsimp only; omega)
    exact h1.trans (Sub.sweep _ _)
theorem Sub.seq : ∀ (l : List (RS → RO)) (s : RS), (∀ f ∈ l, ∀ s, Sub s (f s).st) → Sub s (seqS s l).st
  | [], s, _ => Sub.refl s
  | f :: l, s, h => (h f (by simp) s).trans (Sub.seq l _ fun g hg => h g (by simp [hg]))
theorem Sub.rest (s : RS) : Sub s (restS s).st := by
  unfold restS
  split
  · exact Sub.seq _ _ fun f hf s => by obtain ⟨t, _, rfl⟩ := List.mem_map.1 hf; exact Sub.sweep _ _
  · split
    · exact Sub.seq _ _ fun f hf s => by rw [show f = tryS by simpa using hf]; exact Sub.try s
    · exact Sub.sweep _ _
theorem Ok.now {s : RS} (h : Ok s) (k : Int) (hk : s.now ≤ k) : Ok { s with now := k } := h.sub rfl rfl rfl (fun x hx => hx) hk
theorem Ok.try {s : RS} (h : Ok s) : Ok (tryS s).st := by
  unfold tryS
  split
  · exact h
  · exact (h.now (s.now + 1) (by omega)).sweep _
theorem Ok.seq : ∀ (l : List (RS → RO)) (s : RS), Ok s → (∀ f ∈ l, ∀ s, Ok s → Ok (f s).st) → Ok (seqS s l).st
  | [], s, h, _ => h
  | f :: l, s, h, hf => Ok.seq l _ (hf f (by simp) s h) fun g hg => hf g (by simp [hg])
theorem Ok.rest {s : RS} (h : Ok s) : Ok (restS s).st := by
  unfold restS
  split
  · exact Ok.seq _ _ h fun f hf s hs => by obtain ⟨t, _, rfl⟩ := List.mem_map.1 hf; exact hs.sweep _
  · split
    · exact Ok.seq _ _ h fun f hf s hs => by rw [show f = tryS by simpa using hf]; exact hs.try
    · exact h.sweep _
structure Inv (s : RS) : Prop where
  ok : Ok s
  thr : ∀ x ∈ s.items, 0 ≤ x.thr ∧ x.thr < s.n
  at_ : ∀ x ∈ s.items, x.at_ ≤ s.now
  nodup : (addrs s).Nodup
theorem Inv.sub {s s' : RS} (h : Inv s) (hs : Sub s s') (ho : Ok s') : Inv s' :=
  ⟨ho, fun x hx => by
    obtain ⟨y, hy, e1, e2, e3⟩ := hs.it x hx
    rw [e2, hs.n]; exact h.thr y hy, fun x hx => by
    obtain ⟨y, hy, e1, e2, e3⟩ := hs.it x hx
    rw [e3]; exact Int.le_trans (h.at_ y hy) hs.now, h.nodup.sublist hs.sl⟩
theorem Inv.ret0 {s : RS} (h : Inv s) {t a : Int} (ht : okTh s t = true) (ha : 0 < a) (hw : waitsB s a = false) : Inv (retS0 s t a) := by
  have ht' : 0 ≤ t ∧ t < s.n := by
    unfold okTh at ht
    simpa using ht
  refine ⟨h.ok.ret0 t a ha, fun x hx => ?_, fun x hx => ?_, ?_⟩
  · rcases List.mem_append.1 hx with hx | hx
    · exact h.thr x hx
    · rw [List.mem_singleton.1 hx]; exact ht'
  · rcases List.mem_append.1 hx with hx | hx
    · exact h.at_ x hx
    · rw [List.mem_singleton.1 hx]; exact Int.le_refl _
  · have e : addrs (retS0 s t a) = addrs s ++ [a] := by simp [addrs, retS0, mkItm]
    rw [e, List.nodup_append]
    refine ⟨h.nodup, by simp, fun x hx y hy => ?_⟩
    rw [List.mem_singleton.1 hy]
    rintro rfl
    rw [waits_mem] at hw
    exact absurd (show x ∈ s.items.map (·.addr) from hx) (of_decide_eq_false hw)
theorem okTh_lt {s : RS} {t : Int} (h : okTh s t = true) : 0 ≤ t ∧ t < s.n ∧ t.toNat < s.n := by
  unfold okTh at h
  simp at h
  omega
theorem Inv.do {s : RS} (h : Inv s) (d : Dd) : Inv (doS s d).st := by
  unfold doS
  split
  · refine h.sub ?_ (h.ok.in_ _)
    unfold inS
    split
    · exact Sub.same rfl rfl rfl (Int.le_refl _)
    · exact Sub.refl s
  split
  · unfold outS
    split
    · next ht =>
      have h0 := h.sub (Sub.out0 s d.th.toNat) (h.ok.out0 (okTh_lt ht).2.2)
      split
      · exact h0.sub (Sub.sweep _ _) (h0.ok.sweep _)
      · exact h0
    · exact h
  split
  · unfold holdS
    split
    · next ht =>
      simp only [Bool.and_eq_true] at ht
      have hh : d.ho.toNat < 3 ∧ 0 ≤ d.ad := by
        have := ht.2
        unfold holdOk at this
        simp at this
        omega
      have h0 := h.sub (Sub.hold0 s d.th.toNat d.ho.toNat d.ad) (h.ok.hold0 (okTh_lt ht.1).2.2 hh.1 hh.2)
      split
      · exact h
      · split
        · exact h0.sub (Sub.sweep _ _) (h0.ok.sweep _)
        · exact h0
    · exact h
  split
  · unfold bornS
    split
    · split
      · exact h.sub (Sub.same rfl rfl rfl (by dsimp only; omega)) (h.ok.sub rfl rfl rfl (fun x hx => hx) (by dsimp only; omega))
      · exact h
    · exact h
  split
  · unfold retS
    split
    · next ht =>
      simp only [Bool.and_eq_true, decide_eq_true_eq] at ht
      split
      · exact h
      · next hw =>
        have h0 := h.ret0 ht.1 ht.2 (by simpa using hw)
        split
        · split
          · exact h0.sub (Sub.sweep _ _) (h0.ok.sweep _)
          · exact h0
        · split
          · exact h0.sub (Sub.try _) h0.ok.try
          · exact h0.sub (Sub.sweep _ _) (h0.ok.sweep _)
    · exact h
  split
  · exact h.sub (Sub.rest s) h.ok.rest
  · exact h
theorem Inv.run {s : RS} (h : Inv s) : ∀ l : List Dd, Inv (runS s l) := by
  intro l
  induction l generalizing s with
  | nil => exact h
  | cons d l ih => exact ih (h.do d)
theorem inv_new (k : Int) {n : Nat} (h1 : 1 ≤ n) (h4 : n ≤ 4) : Inv (newS k n) := ⟨ok_new k h1 h4, fun x hx => by simp [newS] at hx, fun x hx => by simp [newS] at hx, by simp [addrs, newS]⟩
end Go.Proofs.YtcgcljmnnjalpaaGreat
set_option linter.unusedVariables false
set_option linter.unusedSimpArgs false
namespace Go.Proofs.YtcgcljmnnjalpaaGreat
open Go.RowKit Go.Kx
structure Left (s : RS) : Prop where
  ins : ∀ t, s.ins t = false
  holds : ∀ t k, s.holds t k = 0
  for_ : ∀ x ∈ s.items, ∀ t, x.for_ t = false
theorem held_none {s : RS} (hh : ∀ t k, s.holds t k = 0) {a : Int} (ha : 0 < a) : heldB s a = false := by
  unfold heldB
  rw [List.any_eq_false]
  intro t _
  rw [Bool.not_eq_true, List.any_eq_false]
  intro k _
  simp [hh]
  omega
theorem free_left {s : RS} (hk : s.kind = 1 ∨ s.kind = 3 ∨ s.kind = 4 ∨ s.kind = 5) (hi : ∀ t, s.ins t = false) (hh : ∀ t k, s.holds t k = 0) {x : Itm} (hf : ∀ t, x.for_ t = false) (ha : 0 < x.addr) : freeB s x = true := by
  unfold freeB
  by_cases h14 : s.kind = 1 ∨ s.kind = 4
  · rw [if_pos h14, held_none hh ha]; rfl
  rw [if_neg h14, if_neg (by omega)]
  by_cases h3 : s.kind = 3
  · rw [if_pos h3]
    have : (List.range 4).any (spanB s x) = false := by
      rw [List.any_eq_false]
      intro t _
      unfold spanB
      rw [hi t]
      simp
    rw [this]; rfl
  · rw [if_neg h3, if_pos (by omega)]
    have : (List.range 4).any x.for_ = false := by
      rw [List.any_eq_false]
      intro t _
      rw [hf t]; simp
    rw [this]; rfl
theorem nil_of {α : Type} {l : List α} (h : ∀ x, x ∉ l) : l = [] := List.eq_nil_iff_forall_not_mem.2 h
theorem scanK_keep (s : RS) (k : Nat) : (scanK s k).st.holds = s.holds ∧ (scanK s k).st.kind = s.kind ∧ (scanK s k).st.ins = s.ins := by
  induction k with
  | zero => exact ⟨rfl, rfl, rfl⟩
  | succ k ih =>
    rw [scanK_succ]
    exact ih
theorem scanK_left {s : RS} (hk : s.kind = 1) (hh : ∀ t k, s.holds t k = 0) (ha : ∀ x ∈ s.items, 0 < x.addr ∧ 0 ≤ x.thr) : ∀ k, ∀ x ∈ (scanK s k).st.items, (k : Int) ≤ x.thr ∧ x ∈ s.items
  | 0, x, hx => ⟨(ha x hx).2, hx⟩
  | k + 1, x, hx => by
    rw [scanK_succ] at hx
    obtain ⟨h1, h2⟩ := sweep_left hx
    obtain ⟨h3, h4⟩ := scanK_left hk hh ha k x h1
    obtain ⟨e1, e2, e3⟩ := scanK_keep s k
    have hf : freeB (scanK s k).st x = true := by
      unfold freeB
      rw [if_pos (.inl (e2.trans hk)), held_none (by rw [e1]; exact hh) (ha x h4).1]; rfl
    rw [hf, Bool.and_true] at h2
    simp at h2
    exact ⟨by push_cast; omega, h4⟩
theorem try_left {s : RS} (hi : ∀ t, s.ins t = false) (hk : s.kind = 2) : (tryS s).st.now = s.now + 1 ∧ (tryS s).st.ins = s.ins ∧ (tryS s).st.kind = s.kind ∧ ∀ x ∈ (tryS s).st.items, x ∈ s.items ∧ s.now - 1 < x.at_ := by
  have hb : behindB s = false := by
    unfold behindB
    rw [List.any_eq_false]
    intro t _
    rw [hi t]; simp
  unfold tryS
  rw [hb]
  refine ⟨rfl, rfl, rfl, fun x hx => ?_⟩
  obtain ⟨h1, h2⟩ := sweep_left (s := { s with now := s.now + 1 }) (p := fun _ => true) hx
  refine ⟨h1, ?_⟩
  rw [Bool.true_and, freeE (show ({ s with now := s.now + 1 } : RS).kind = 2 from hk)] at h2
  unfold oldE at h2
  simp at h2
  omega
theorem rest_all {s : RS} (h : Inv s) (hl : Left s) (hk : 1 ≤ s.kind ∧ s.kind ≤ 5) : (restS s).st.items = [] := by
  by_cases h1 : s.kind = 1
  · rw [restZ h1]
    refine nil_of fun x hx => ?_
    obtain ⟨h3, h4⟩ := scanK_left h1 hl.holds (fun x hx => ⟨h.ok.addr x hx, (h.thr x hx).1⟩) s.n x hx
    have := (h.thr x h4).2
    omega
  by_cases h2 : s.kind = 2
  · rw [restE h2]
    obtain ⟨a1, a2, a3, a4⟩ := try_left hl.ins h2
    obtain ⟨b1, b2, b3, b4⟩ := try_left (s := (tryS s).st) (by rw [a2]; exact hl.ins) (a3.trans h2)
    obtain ⟨c1, c2, c3, c4⟩ := try_left (s := (tryS (tryS s).st).st) (by rw [b2, a2]; exact hl.ins) (b3.trans (a3.trans h2))
    refine nil_of fun x hx => ?_
    obtain ⟨p1, p2⟩ := c4 x hx
    obtain ⟨q1, q2⟩ := b4 x p1
    obtain ⟨r1, r2⟩ := a4 x q1
    have := h.at_ x r1
    omega
  · have e : restS s = sweepS s fun _ => true := by
      unfold restS
      rw [if_neg h1, if_neg h2]
    rw [e]
    refine nil_of fun x hx => ?_
    obtain ⟨p1, p2⟩ := sweep_left hx
    rw [Bool.true_and, free_left (by omega) hl.ins hl.holds (hl.for_ x p1) (h.ok.addr x p1)] at p2
    cases p2
theorem rest_leak {s : RS} (hk : s.kind = 0) : restS s = ⟨s, [], 0⟩ := by
  unfold restS
  rw [if_neg (by omega), if_neg (by omega)]
  exact sweep_none fun x _ => by
    unfold freeB
    rw [if_neg (by omega), if_neg (by omega), if_neg (by omega), if_neg (by omega)]; rfl
theorem seq_cnt : ∀ (l : List (RS → RO)) (s : RS), (∀ f ∈ l, ∀ s, (f s).back.length + (f s).st.items.length = s.items.length) → (seqS s l).back.length + (seqS s l).st.items.length = s.items.length
  | [], s, _ => by simp [seqS]
  | f :: l, s, h => by
    have h1 := h f (by simp) s
    have h2 := seq_cnt l (f s).st fun g hg => h g (by simp [hg])
    show ((f s).back ++ (seqS (f s).st l).back).length + (seqS (f s).st l).st.items.length = _
    rw [List.length_append]
    omega
theorem rest_cnt (s : RS) : (restS s).back.length + (restS s).st.items.length = s.items.length := by
  unfold restS
  split
  · exact seq_cnt _ _ fun f hf s => by obtain ⟨t, _, rfl⟩ := List.mem_map.1 hf; exact sweep_len _ _
  · split
    · exact seq_cnt _ _ fun f hf s => by rw [show f = tryS by simpa using hf]; exact tryS_len s
    · exact sweep_len _ _
/-- All of the first k threads leave. -/
def outD (k : Nat) : List Dd := (List.range k).map fun (t : Nat) => ⟨1, (t : Int), 0, 0⟩
theorem runS_out (s : RS) (k : Nat) : runS s (outD (k + 1)) = (outS (runS s (outD k)) (k : Int)).st := by
  unfold runS outD
  rw [List.range_succ, List.map_append, List.foldl_append]
  rfl
structure LeftK (k : Nat) (s : RS) : Prop where
  ins : ∀ t, t < k → s.ins t = false
  holds : ∀ t, t < k → ∀ j, s.holds t j = 0
  for_ : ∀ x ∈ s.items, ∀ t, t < k → x.for_ t = false
theorem LeftK.out0 {k : Nat} {s : RS} (h : LeftK k s) : LeftK (k + 1) (outS0 s k) := by
  refine ⟨fun t ht => ?_, fun t ht j => ?_, fun x hx t ht => ?_⟩
  · show upd1 s.ins k false t = false
    unfold upd1; split
    · rfl
    · exact h.ins t (by omega)
  · show upd1 s.holds k (fun _ => 0) t j = 0
    unfold upd1; split
    · rfl
    · exact h.holds t (by omega) j
  · obtain ⟨y, hy, rfl⟩ := List.mem_map.1 hx
    show upd1 y.for_ k false t = false
    unfold upd1; split
    · rfl
    · exact h.for_ y hy t (by omega)
theorem LeftK.out {k : Nat} {s : RS} (h : LeftK k s) (hn : k < s.n) : LeftK (k + 1) (outS s (k : Int)).st := by
  have ht : okTh s (k : Int) = true := by simp [okTh, hn]
  have h0 := h.out0
  unfold outS
  rw [if_pos ht]
  split
  · exact ⟨h0.ins, h0.holds, fun x hx => h0.for_ x (sweep_left hx).1⟩
  · exact h0
theorem left_run {s : RS} : ∀ k, k ≤ s.n → LeftK k (runS s (outD k)) ∧ (runS s (outD k)).n = s.n
  | 0, _ => ⟨⟨fun t ht => absurd ht (Nat.not_lt_zero _), fun t ht => absurd ht (Nat.not_lt_zero _), fun x hx t ht => absurd ht (Nat.not_lt_zero _)⟩, rfl⟩
  | k + 1, hk => by
    obtain ⟨h1, h2⟩ := left_run (s := s) k (by omega)
    rw [runS_out]
    exact ⟨h1.out (by omega), (do_n (runS s (outD k)) ⟨1, (k : Int), 0, 0⟩).trans h2⟩
theorem left_all {s : RS} (h : Inv s) (hl : LeftK s.n s) : Left s :=
  ⟨fun t => by
    by_cases ht : t < s.n
    · exact hl.ins t ht
    · exact h.ok.ins t (by omega), fun t k => by
    by_cases ht : t < s.n
    · exact hl.holds t ht k
    · exact h.ok.holds t k (.inl (by omega)), fun x hx t => by
    by_cases ht : t < s.n
    · exact hl.for_ x hx t ht
    · exact h.ok.forI x hx t (by omega)⟩
end Go.Proofs.YtcgcljmnnjalpaaGreat
set_option linter.unusedVariables false
set_option linter.unusedSimpArgs false
namespace Go.Proofs.YtcgcljmnnjalpaaGreat
open Go.RowKit Go.Kx
theorem nodup_le : ∀ (L H : List Int), L.Nodup → (∀ x ∈ L, x ∈ H) → L.length ≤ H.length
  | [], H, _, _ => Nat.zero_le _
  | x :: L, H, hn, hs => by
    obtain ⟨h1, h2⟩ := List.nodup_cons.1 hn
    have hx := hs x (by simp)
    have := nodup_le L (H.erase x) h2 fun y hy => (List.mem_erase_of_ne (fun e => by rw [e] at hy; exact h1 hy)).2 (hs y (by simp [hy]))
    rw [List.length_erase_of_mem hx] at this
    have hp : 0 < H.length := List.length_pos_of_mem hx
    simp only [List.length_cons]
    omega
def holdL (s : RS) : List Int := (List.range s.n).flatMap fun t => [s.holds t 0, s.holds t 1, s.holds t 2]
theorem holdL_len (s : RS) : (holdL s).length = 3 * s.n := by
  unfold holdL
  generalize s.n = n
  induction n with
  | zero => rfl
  | succ n ih =>
    rw [List.range_succ, List.flatMap_append, List.length_append, ih]
    simp
    omega
theorem held_mem {s : RS} (h : Ok s) {a : Int} (ha : 0 < a) (hh : heldB s a = true) : a ∈ holdL s := by
  unfold heldB at hh
  obtain ⟨t, ht, hp⟩ := List.any_eq_true.1 hh
  obtain ⟨k, hk, he⟩ := List.any_eq_true.1 hp
  have hk' := List.mem_range.1 hk
  have he' : s.holds t k = a := by simpa using he
  have htn : t < s.n := by
    rcases Nat.lt_or_ge t s.n with h1 | h1
    · exact h1
    · have := h.holds t k (.inl h1); omega
  refine List.mem_flatMap.2 ⟨t, List.mem_range.2 htn, ?_⟩
  obtain rfl | rfl | rfl : k = 0 ∨ k = 1 ∨ k = 2 := by omega
  all_goals simp [he']
theorem held_le {s : RS} (h : Ok s) {L : List Int} (hn : L.Nodup) (hp : ∀ a ∈ L, 0 < a ∧ heldB s a = true) : L.length ≤ 3 * s.n := by
  rw [← holdL_len]
  exact nodup_le L _ hn fun a ha => held_mem h (hp a ha).1 (hp a ha).2
/-- What the bounds need. -/
structure BInv (s : RS) : Prop where
  one : s.kind = 1 → ∀ t, cntS s t ≤ 3 * s.n
  four : s.kind = 4 → ∀ x ∈ s.items, heldB s x.addr = true
theorem cnt_sweep (s : RS) (p : Itm → Bool) (t : Int) : cntS (sweepS s p).st t ≤ cntS s t := List.Sublist.countP_le (List.filter_sublist)
theorem cnt_scan (s : RS) (t : Int) : ∀ k, cntS (scanK s k).st t ≤ cntS s t
  | 0 => Nat.le_refl _
  | k + 1 => by
    rw [scanK_succ]
    exact Nat.le_trans (cnt_sweep _ _ t) (cnt_scan s t k)
theorem scanK_n (s : RS) : ∀ k, (scanK s k).st.n = s.n
  | 0 => rfl
  | k + 1 => by rw [scanK_succ]; exact scanK_n s k
theorem held_left {s : RS} (hk : s.kind = 1 ∨ s.kind = 4) {p : Itm → Bool} {x : Itm} (hx : x ∈ (sweepS s p).st.items) (hp : p x = true) : heldB s x.addr = true := by
  have h2 := (sweep_left hx).2
  rw [hp, Bool.true_and] at h2
  unfold freeB at h2
  rw [if_pos hk] at h2
  simpa using h2
/-- Behind a thread's scan no more wait of that thread than can be held. -/
theorem cnt_scan1 {s : RS} (h : Inv s) (hk : s.kind = 1) (t : Int) : cntS (sweepS s fun x => x.thr == t).st t ≤ 3 * s.n := by
  have hi := h.sub (Sub.sweep s fun x => x.thr == t) (h.ok.sweep _)
  have e : cntS (sweepS s fun x => x.thr == t).st t = (((sweepS s fun x => x.thr == t).st.items.filter fun x => x.thr == t).map (·.addr)).length := by
    unfold cntS
    rw [List.length_map, List.countP_eq_length_filter]
  rw [e]
  refine held_le (s := s) h.ok (hi.nodup.sublist (List.filter_sublist.map _)) fun a ha => ?_
  obtain ⟨x, hx, rfl⟩ := List.mem_map.1 ha
  obtain ⟨h1, h2⟩ := List.mem_filter.1 hx
  exact ⟨hi.ok.addr x h1, held_left (.inl hk) h1 h2⟩
theorem BInv.sweep4 {s : RS} (hk : s.kind = 4) : BInv (sweepS s fun _ => true).st :=
  ⟨fun e => by
    have : s.kind = 1 := e
    omega, fun _ x hx => held_left (.inr hk) hx rfl⟩
theorem BInv.other {s : RS} (h1 : s.kind ≠ 1) (h4 : s.kind ≠ 4) : BInv s := ⟨fun e => absurd e h1, fun e => absurd e h4⟩
theorem BInv.do {s : RS} (hi : Inv s) (h : BInv s) (d : Dd) : BInv (doS s d).st := by
  have hkd := do_kind s d
  by_cases h1 : s.kind = 1
  · refine ⟨fun _ t => ?_, fun e => by rw [hkd] at e; omega⟩
    rw [do_n]
    have hb := h.one h1
    unfold doS
    split
    · unfold inS; split <;> exact hb t
    split
    · unfold outS
      rw [if_neg (by omega : ¬ (s.kind = 3 ∨ s.kind = 4 ∨ s.kind = 5))]
      split
      · have e : cntS (outS0 s d.th.toNat) t = cntS s t := by
          unfold cntS outS0
          rw [List.countP_map]; rfl
        show cntS (outS0 s d.th.toNat) t ≤ _
        rw [e]; exact hb t
      · exact hb t
    split
    · unfold holdS
      rw [if_neg (fun e => by have := e.1; omega : ¬ (s.kind = 3 ∧ s.ins d.th.toNat = false)), if_neg (by omega : ¬ s.kind = 4)]
      split <;> exact hb t
    split
    · unfold bornS
      rw [if_neg (by omega : ¬ s.kind = 3)]
      split <;> exact hb t
    split
    · unfold retS
      split
      · next ht =>
        simp only [Bool.and_eq_true, decide_eq_true_eq] at ht
        split
        · exact hb t
        · next hw =>
          have h0 := hi.ret0 ht.1 ht.2 (by simpa using hw)
          have hc : ∀ u, cntS (retS0 s d.th d.ad) u = cntS s u + if d.th == u then 1 else 0 := fun u => by
            unfold cntS retS0 mkItm
            rw [List.countP_append, List.countP_singleton]
          split
          · by_cases e : d.th = t
            · subst e
              exact cnt_scan1 h0 h1 d.th
            · have := cnt_sweep (retS0 s d.th d.ad) (fun x => x.thr == d.th) t
              have h2 := hc t
              rw [if_neg (by simpa using e)] at h2
              have := hb t
              omega
          · next hle =>
            show cntS (retS0 s d.th d.ad) t ≤ _
            by_cases e : d.th = t
            · subst e; omega
            · have h2 := hc t
              rw [if_neg (by simpa using e)] at h2
              have := hb t
              omega
      · exact hb t
    split
    · show cntS (restS s).st t ≤ _
      rw [restZ h1]
      exact Nat.le_trans (cnt_scan s t s.n) (hb t)
    · exact hb t
  by_cases h4 : s.kind = 4
  · unfold doS
    split
    · unfold inS
      rw [if_neg (by omega : ¬ s.kind = 3)]
      split
      · exact ⟨fun e => absurd e h1, fun _ x hx => h.four h4 x hx⟩
      · exact h
    split
    · unfold outS
      rw [if_pos (by omega : s.kind = 3 ∨ s.kind = 4 ∨ s.kind = 5)]
      split
      · exact BInv.sweep4 (s := outS0 s d.th.toNat) h4
      · exact h
    split
    · unfold holdS
      rw [if_neg (fun e => by have := e.1; omega : ¬ (s.kind = 3 ∧ s.ins d.th.toNat = false)), if_pos h4]
      split
      · exact BInv.sweep4 (s := holdS0 s d.th.toNat d.ho.toNat d.ad) h4
      · exact h
    split
    · unfold bornS
      rw [if_neg (by omega : ¬ s.kind = 3)]
      split <;> exact h
    split
    · unfold retS
      rw [if_neg h1, if_neg (by omega : ¬ s.kind = 2)]
      split
      · split
        · exact h
        · exact BInv.sweep4 (s := retS0 s d.th d.ad) h4
      · exact h
    split
    · have e : restS s = sweepS s fun _ => true := by
        unfold restS
        rw [if_neg h1, if_neg (by omega)]
      show BInv (restS s).st
      rw [e]
      exact BInv.sweep4 h4
    · exact h
  · exact BInv.other (by rw [hkd]; exact h1) (by rw [hkd]; exact h4)
theorem binv_new (k : Int) (n : Nat) : BInv (newS k n) := ⟨fun _ t => by simp [cntS, newS], fun _ x hx => by simp [newS] at hx⟩
theorem sum_le (B : Nat) : ∀ (n : Nat) (l : List Itm), (∀ x ∈ l, 0 ≤ x.thr ∧ x.thr < n) → (∀ t : Int, (l.countP fun x => x.thr == t) ≤ B) → l.length ≤ n * B
  | 0, l, h, _ => by
    cases l with
    | nil => simp
    | cons x l => have := h x (by simp); omega
  | n + 1, l, h, hc => by
    have h1 := filt_len (fun x : Itm => x.thr == (n : Int)) l
    have h2 := hc n
    rw [List.countP_eq_length_filter] at h2
    have h3 := sum_le B n (l.filter fun x => !(x.thr == (n : Int))) (fun x hx => by
      obtain ⟨p1, p2⟩ := List.mem_filter.1 hx
      have := h x p1
      simp at p2
      omega) (fun t => Nat.le_trans (List.Sublist.countP_le List.filter_sublist) (hc t))
    rw [Nat.succ_mul]
    omega
/-- The bounds. -/
theorem bound_le {s : RS} (hi : Inv s) (h : BInv s) : (s.kind = 1 → s.items.length ≤ 3 * s.n * s.n) ∧ (s.kind = 4 → s.items.length ≤ 3 * s.n) := by
  refine ⟨fun hk => ?_, fun hk => ?_⟩
  · have := sum_le (3 * s.n) s.n s.items hi.thr (fun t => h.one hk t)
    rwa [Nat.mul_comm] at this
  · have := held_le hi.ok hi.nodup fun a ha => by
      obtain ⟨x, hx, rfl⟩ := List.mem_map.1 ha
      exact ⟨hi.ok.addr x hx, h.four hk x hx⟩
    rwa [addrs_len] at this
end Go.Proofs.YtcgcljmnnjalpaaGreat
