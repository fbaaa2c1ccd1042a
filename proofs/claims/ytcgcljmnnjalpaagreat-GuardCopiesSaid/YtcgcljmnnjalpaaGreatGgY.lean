/- The managers, plainly: what is given back was retired, and comes back once. -/
import Derived.Test.YtcgcljmnnjalpaaGreatGxL
set_option linter.unusedVariables false
set_option linter.unusedSimpArgs false
namespace Go.Proofs.YtcgcljmnnjalpaaGreat
open Go.RowKit Go.Kx
/-- Of L all of B, each of which is there and comes but once, is taken away. -/
structure Rem (L B L' : List Int) : Prop where
  once : B.Nodup
  sub : ∀ b ∈ B, b ∈ L
  left : L' = L.filter fun a => decide (a ∉ B)
theorem Rem.none (L : List Int) : Rem L [] L := ⟨List.nodup_nil, fun b hb => (List.not_mem_nil hb).elim, (List.filter_eq_self.2 fun a _ => by simp).symm⟩
theorem Rem.nodup {L B L' : List Int} (h : Rem L B L') (hL : L.Nodup) : L'.Nodup := by
  rw [h.left]; exact hL.sublist List.filter_sublist
theorem Rem.trans {L B1 L1 B2 L2 : List Int} (h : Rem L B1 L1) (k : Rem L1 B2 L2) : Rem L (B1 ++ B2) L2 := by
  refine ⟨?_, fun b hb => ?_, ?_⟩
  · rw [List.nodup_append]
    refine ⟨h.once, k.once, fun x hx y hy e => ?_⟩
    subst e
    have := k.sub x hy
    rw [h.left] at this
    have := (List.mem_filter.1 this).2
    exact of_decide_eq_true this hx
  · rcases List.mem_append.1 hb with q | q
    · exact h.sub b q
    · have := k.sub b q
      rw [h.left] at this
      exact (List.mem_filter.1 this).1
  · rw [k.left, h.left, List.filter_filter]
    apply List.filter_congr
    intro x _
    rw [Bool.eq_iff_iff]
    simp [and_comm]
theorem map_inj {l : List Itm} (h : (l.map (·.addr)).Nodup) {x y : Itm} (hx : x ∈ l) (hy : y ∈ l) (e : x.addr = y.addr) : x = y := by
  induction l with
  | nil => cases hx
  | cons z l ih =>
    rw [List.map_cons, List.nodup_cons] at h
    rcases List.mem_cons.1 hx with e1 | hx1 <;> rcases List.mem_cons.1 hy with e2 | hy1
    · rw [e1, e2]
    · exact absurd (List.mem_map.2 ⟨y, hy1, by rw [← e, e1]⟩) h.1
    · exact absurd (List.mem_map.2 ⟨x, hx1, by rw [e, e2]⟩) h.1
    · exact ih h.2 hx1 hy1
theorem Rem.sweep {s : RS} (h : (addrs s).Nodup) (p : Itm → Bool) : Rem (addrs s) (sweepS s p).back (addrs (sweepS s p).st) := by
  refine ⟨h.sublist (List.filter_sublist.map _), fun b hb => ?_, ?_⟩
  · obtain ⟨x, hx, rfl⟩ := List.mem_map.1 hb
    exact List.mem_map.2 ⟨x, (List.mem_filter.1 hx).1, rfl⟩
  · show ((s.items.filter fun x => !(p x && freeB s x)).map (·.addr)) = (s.items.map (·.addr)).filter fun a => decide (a ∉ (s.items.filter fun x => p x && freeB s x).map (·.addr))
    rw [List.filter_map]
    congr 1
    apply List.filter_congr
    intro x hx
    show (!(p x && freeB s x)) = decide (x.addr ∉ (s.items.filter fun x => p x && freeB s x).map (·.addr))
    cases hq : (p x && freeB s x)
    · have hne : x.addr ∉ (s.items.filter fun x => p x && freeB s x).map (·.addr) := fun hm => by
        obtain ⟨y, hy, e⟩ := List.mem_map.1 hm
        obtain ⟨h1, h2⟩ := List.mem_filter.1 hy
        rw [map_inj h h1 hx e, hq] at h2
        cases h2
      exact (decide_eq_true hne).symm
    · have hm : x.addr ∈ (s.items.filter fun x => p x && freeB s x).map (·.addr) := List.mem_map.2 ⟨x, List.mem_filter.2 ⟨hx, hq⟩, rfl⟩
      exact (decide_eq_false (not_not_intro hm)).symm
theorem Rem.try {s : RS} (h : (addrs s).Nodup) : Rem (addrs s) (tryS s).back (addrs (tryS s).st) := by
  unfold tryS
  split
  · exact Rem.none _
  · exact Rem.sweep (s := { s with now := s.now + 1 }) h _
theorem Rem.seq : ∀ (l : List (RS → RO)) (s : RS), (addrs s).Nodup → (∀ f ∈ l, ∀ s, (addrs s).Nodup → Rem (addrs s) (f s).back (addrs (f s).st)) → Rem (addrs s) (seqS s l).back (addrs (seqS s l).st)
  | [], s, _, _ => Rem.none _
  | f :: l, s, h, hf => by
    have h1 := hf f (by simp) s h
    exact h1.trans (Rem.seq l _ (h1.nodup h) fun g hg => hf g (by simp [hg]))
theorem Rem.rest {s : RS} (h : (addrs s).Nodup) : Rem (addrs s) (restS s).back (addrs (restS s).st) := by
  unfold restS
  split
  · exact Rem.seq _ _ h fun f hf s hs => by obtain ⟨t, _, rfl⟩ := List.mem_map.1 hf; exact Rem.sweep hs _
  · split
    · exact Rem.seq _ _ h fun f hf s hs => by rw [show f = tryS by simpa using hf]; exact Rem.try hs
    · exact Rem.sweep h _
/-- Was an address retired? -/
def retB (s : RS) (d : Dd) : Bool := (d.do_ == 4) && ((doS s d).err == 0)
/-- What waits when the deed has been done, nothing being given back yet. -/
def waitL (s : RS) (d : Dd) : List Int := if retB s d then addrs s ++ [d.ad] else addrs s
theorem addrs_out0 (s : RS) (t : Nat) : addrs (outS0 s t) = addrs s := by
  unfold addrs outS0; dsimp only; rw [List.map_map]; rfl
theorem once_plain {s : RS} (h : Inv s) (d : Dd) : Rem (waitL s d) (doS s d).back (addrs (doS s d).st) ∧ (waitL s d).Nodup ∧ (retB s d = true → d.ad ∉ addrs s) := by
  have hn := h.nodup
  by_cases h4 : d.do_ = 4
  · have e : doS s d = retS s d.th d.ad := by
      unfold doS
      rw [if_neg (by omega), if_neg (by omega), if_neg (by omega), if_neg (by omega), if_pos h4]
    have hr : retB s d = decide ((retS s d.th d.ad).err = 0) := by
      unfold retB
      rw [e, h4]
      rw [Bool.eq_iff_iff]; simp
    unfold waitL
    rw [e, hr]
    by_cases hc : (okTh s d.th && decide (0 < d.ad)) = true
    · by_cases hw : waitsB s d.ad = true
      · have e2 : retS s d.th d.ad = ⟨s, [], 6⟩ := by unfold retS; rw [if_pos hc, if_pos hw]
        rw [e2]
        exact ⟨Rem.none _, hn, fun h => by simp at h⟩
      · have hw' : waitsB s d.ad = false := by simpa using hw
        have hc' := hc
        simp only [Bool.and_eq_true, decide_eq_true_eq] at hc'
        have h0 := h.ret0 hc'.1 hc'.2 hw'
        have ea : addrs (retS0 s d.th d.ad) = addrs s ++ [d.ad] := by simp [addrs, retS0, mkItm]
        have hno : d.ad ∉ addrs s := by
          rw [waits_mem] at hw'
          exact of_decide_eq_false hw'
        have hz : (retS s d.th d.ad).err = 0 ∧ Rem (addrs (retS0 s d.th d.ad)) (retS s d.th d.ad).back (addrs (retS s d.th d.ad).st) := by
          unfold retS
          rw [if_pos hc, if_neg hw]
          split
          · split
            · exact ⟨rfl, Rem.sweep h0.nodup _⟩
            · exact ⟨rfl, Rem.none _⟩
          · split
            · exact ⟨(tryS_now _).2, Rem.try h0.nodup⟩
            · exact ⟨rfl, Rem.sweep h0.nodup _⟩
        rw [if_pos (decide_eq_true hz.1), ← ea]
        exact ⟨hz.2, h0.nodup, fun _ => hno⟩
    · have e2 : retS s d.th d.ad = ⟨s, [], 1⟩ := by unfold retS; rw [if_neg hc]
      rw [e2]
      exact ⟨Rem.none _, hn, fun h => by simp at h⟩
  · have hr : retB s d = false := by
      unfold retB
      simp [h4]
    unfold waitL
    rw [hr]
    refine ⟨?_, by simpa using hn, fun h => by cases h⟩
    simp only [Bool.false_eq_true, if_false]
    unfold doS
    split
    · unfold inS; split <;> exact Rem.none _
    split
    · unfold outS
      split
      · split
        · have := Rem.sweep (s := outS0 s d.th.toNat) (by rw [addrs_out0]; exact hn) fun _ => true
          rwa [addrs_out0] at this
        · show Rem (addrs s) [] (addrs (outS0 s d.th.toNat))
          rw [addrs_out0]; exact Rem.none _
      · exact Rem.none _
    split
    · unfold holdS
      split
      · split
        · exact Rem.none _
        · split
          · exact Rem.sweep (s := holdS0 s d.th.toNat d.ho.toNat d.ad) hn _
          · exact Rem.none _
      · exact Rem.none _
    split
    · unfold bornS
      split
      · split <;> exact Rem.none _
      · exact Rem.none _
    split
    · exact Rem.rest hn
    · exact Rem.none _
/-- What is left when the first k have been taken away. -/
def leftK (L B : List Int) (k : Nat) : List Int := L.filter fun a => decide (a ∉ B.take k)
theorem leftK_zero (L B : List Int) : leftK L B 0 = L := by simp [leftK]
theorem leftK_all {L B L' : List Int} (h : Rem L B L') : leftK L B B.length = L' := by unfold leftK; rw [List.take_length, h.left]
theorem leftK_le (L B : List Int) (k : Nat) : (leftK L B k).length ≤ L.length := List.length_filter_le _ _
theorem leftK_succ {L B : List Int} {k : Nat} {b : Int} (hb : B[k]? = some b) : (leftK L B k).filter (fun a => decide (a ≠ b)) = leftK L B (k + 1) := by
  unfold leftK
  rw [List.filter_filter]
  apply List.filter_congr
  intro x _
  rw [List.take_add_one, hb, Bool.eq_iff_iff]
  simp [and_comm]
theorem count_ne {b : Int} : ∀ {W : List Int}, W.Nodup → b ∈ W → (W.filter fun a => decide (a ≠ b)).length + 1 = W.length
  | [], _, h => by cases h
  | x :: W, hn, h => by
    obtain ⟨h1, h2⟩ := List.nodup_cons.1 hn
    by_cases e : x = b
    · subst e
      have e2 : W.filter (fun a => decide (a ≠ x)) = W := List.filter_eq_self.2 fun y hy => decide_eq_true fun e => h1 (e ▸ hy)
      rw [List.filter_cons, if_neg (by simp), e2]
      rfl
    · have := count_ne h2 ((List.mem_cons.1 h).resolve_left fun q => e q.symm)
      rw [List.filter_cons, if_pos (by simpa using e)]
      simp only [List.length_cons]
      omega
theorem leftK_len {L B L' : List Int} (h : Rem L B L') (hL : L.Nodup) {k : Nat} {b : Int} (hb : B[k]? = some b) : (leftK L B (k + 1)).length + 1 = (leftK L B k).length := by
  rw [← leftK_succ hb]
  refine count_ne (hL.sublist List.filter_sublist) ?_
  refine List.mem_filter.2 ⟨h.sub b (List.mem_of_getElem? hb), decide_eq_true fun hm => ?_⟩
  have hd : b ∈ B.drop k := List.mem_of_getElem? (i := 0) (by rw [List.getElem?_drop]; exact hb)
  have hn : (B.take k ++ B.drop k).Nodup := by rw [List.take_append_drop]; exact h.once
  exact (List.nodup_append.1 hn).2.2 b hm b hd rfl
end Go.Proofs.YtcgcljmnnjalpaaGreat
