/- The epoch manager, in every state: Rest. -/
import Derived.Test.YtcgcljmnnjalpaaGreatGfG
set_option linter.unusedVariables false
set_option linter.unusedSimpArgs false
namespace Go.Proofs.YtcgcljmnnjalpaaGreat
open Go.RowKit Go.Kx
open Go.ChangeMaps (setBlock)
theorem restE {s : RS} (h : s.kind = 2) : restS s = ⟨(tryS (tryS (tryS s).st).st).st, [(tryS s).back, (tryS (tryS s).st).back, (tryS (tryS (tryS s).st).st).back].flatten, 0⟩ := by
  unfold restS
  rw [if_neg (by omega), if_pos h]
  simp [seqS]
/-- What is the caller's own stays so. -/
theorem own_keep {w1 w2 : World} {F1 F2 : FP} {base : Nat} {e : TypeId} {sz n : Nat} {v : Value} {xs : List Value} (h : w1.ownsRow base e sz v n xs) (hn : ∀ k, v.ownBlock = some k → ¬ F1 k) (hs : Step F1 w1 F2 w2) : w2.ownsRow base e sz v n xs ∧ ∀ k, v.ownBlock = some k → ¬ F2 k :=
  ⟨owns_fr h hs.fr hn, fun k hk hf => (hs.sub k hf).elim (hn k hk) (fun q => by have := (h.lt k hk).2; omega)⟩
theorem three_at {w : World} {T : TypeId} {A1 A2 A3 : Option Addr} {l1 l2 l3 : List Int} {c1 c2 c3 : Nat} (h1 : IntsAt w A1 l1) (n1 : A1 = none → c1 = 0) (h2 : IntsAt w A2 l2) (n2 : A2 = none → c2 = 0) (h3 : IntsAt w A3 l3) (n3 : A3 = none → c3 = 0) :
    ∀ k l, [l1, l2, l3][k]? = some l → ∃ A c, (w.alloc (.cells #[.slice A1 l1.length c1, .slice A2 l2.length c2, .slice A3 l3.length c3] T)).cell? ⟨w.heap.size, k, none⟩ = some (.slice A l.length c) ∧ IntsAt (w.alloc (.cells #[.slice A1 l1.length c1, .slice A2 l2.length c2, .slice A3 l3.length c3] T)) A l ∧ (A = none → l.length = 0 ∧ c = 0) := by
  have hb := blk_new w (Obj.cells #[.slice A1 l1.length c1, .slice A2 l2.length c2, .slice A3 l3.length c3] T)
  have hg : Grow w (w.alloc (.cells #[.slice A1 l1.length c1, .slice A2 l2.length c2, .slice A3 l3.length c3] T)) := (Grow.refl w).alloc _
  have nn : ∀ {A : Option Addr} {l : List Int}, IntsAt w A l → A = none → l.length = 0 := fun h e => by
    rcases h with rfl | ⟨b, off, h1, _⟩
    · rfl
    · rw [e] at h1; cases h1
  intro k l hl
  match k, hl with
  | 0, hl => cases hl; exact ⟨A1, c1, (blk_cell hb 0).trans rfl, h1.grow hg, fun e => ⟨nn h1 e, n1 e⟩⟩
  | 1, hl => cases hl; exact ⟨A2, c2, (blk_cell hb 1).trans rfl, h2.grow hg, fun e => ⟨nn h2 e, n2 e⟩⟩
  | 2, hl => cases hl; exact ⟨A3, c3, (blk_cell hb 2).trans rfl, h3.grow hg, fun e => ⟨nn h3 e, n3 e⟩⟩
  | k + 3, hl => simp at hl
set_option maxRecDepth 100000 in
set_option maxHeartbeats 4000000 in
theorem epRest {b : Nat} {w : World} {F : FP} {s : RS} (h : EM b w F s) (hs : s.items.length ≤ 100000) (hn : s.now ≤ 1000000) : Calls Tryz.prog 61 #[.pointer (some ⟨b, 0, none⟩)] w (OpL (EM b) w F (restS s)) := by
  refine cph fun R HR => ?_
  have hk : s.kind = 2 := by obtain ⟨T, v, hv⟩ := h; exact hv.kind
  have HH : Hid (Calls Tryz.prog 105 #[.pointer (some ⟨b, 0, none⟩), .int .i64 0] w fun e w' => e = .returned (.bool true) ∧ w = w') := by
    obtain ⟨T, v, hv⟩ := h
    have := epHas hv 0
    rw [okTh_zero hv.ok] at this
    exact this
  rw [restE hk] at HR
  have l1 := tryS_len s
  have m1 := (tryS_now s).1
  have HT1 := Lib.hid (epTry h (by omega) (by omega))
  generalize tryS s = r1 at HR l1 m1 HT1
  have l2 := tryS_len r1.st
  have m2 := (tryS_now r1.st).1
  have HT2 : Hid (∀ w1 F1, EM b w1 F1 r1.st → Calls Tryz.prog 107 #[.pointer (some ⟨b, 0, none⟩)] w1 (OpL (EM b) w1 F1 (tryS r1.st))) := fun w1 F1 a1 => epTry a1 (by omega) (by omega)
  generalize tryS r1.st = r2 at HR l2 m2 HT2
  have l3 := tryS_len r2.st
  have HT3 : Hid (∀ w1 F1, EM b w1 F1 r2.st → Calls Tryz.prog 107 #[.pointer (some ⟨b, 0, none⟩)] w1 (OpL (EM b) w1 F1 (tryS r2.st))) := fun w1 F1 a1 => epTry a1 (by omega) (by omega)
  generalize tryS r2.st = r3 at HR l3 HT3
  have hlen : [r1.back, r2.back, r3.back].flatten.length ≤ 300000 := by simp; omega
  have HL := Lib.hid hlen
  clear l1 l2 l3 m1 m2 hk hlen h
  go_enter Tryz.func61, Tryz.ntmps61
  go_wp2_with (first | (go_at_call 105; refine HH.out.mono ?_; rintro e w' ⟨rfl, rfl⟩) | (go_at_call 107; refine HC3.out.mono ?_; rintro e w3 ⟨v3, F3, rfl, o3, a3, st3, n3⟩; have k1 := own_keep H2.out.1 H2.out.2.1 st3; have k2 := own_keep H2.out.2.2.1 H2.out.2.2.2.1 st3; obtain ⟨A3, c3, hv3, i3, z3, _⟩ := ints_of_own o3; subst hv3; obtain ⟨_, _, hw1, i1, z1, _⟩ := ints_of_own k1.1; injection hw1 with e1 _ e2; subst e1; subst e2; obtain ⟨_, _, hw2, i2, z2, _⟩ := ints_of_own k2.1; injection hw2 with e3 _ e4; subst e3; subst e4; have HC4 := Lib.hid (concat3 rfl (three_at (T := 34) i1 z1 i2 z2 i3 z3) HL.out); have H3 := Lib.hid (And.intro a3 (And.intro (H2.out.2.2.2.2.trans st3) st3)); clear k1 k2 i1 i2 i3 z1 z2 z3 o3 a3 st3 n3) | (go_at_call 107; refine HC2.out.mono ?_; rintro e w2 ⟨v2, F2, rfl, o2, a2, st2, n2⟩; have k1 := own_keep H1.out.1 H1.out.2.1 st2; obtain ⟨A2, c2, hv2, _⟩ := ints_of_own o2; subst hv2; have HC3 := Lib.hid (HT3.out w2 F2 a2); have H2 := Lib.hid (And.intro k1.1 (And.intro k1.2 (And.intro o2 (And.intro n2 (H1.out.2.2.trans st2))))); clear k1 o2 a2 st2 n2) | (go_at_call 107; refine HT1.out.mono ?_; rintro e w1 ⟨v1, F1, rfl, o1, a1, st1, n1⟩; obtain ⟨A1, c1, hv1, _⟩ := ints_of_own o1; subst hv1; have HC2 := Lib.hid (HT2.out w1 F1 a1); have H1 := Lib.hid (And.intro o1 (And.intro n1 st1)); clear o1 a1 st1 n1) | (go_at_call 108; refine HC4.out.mono ?_; rintro e w5 ⟨v5, rfl, o5, g5⟩; have H5 := Lib.hid (And.intro o5 g5); clear o5 g5))
  have hg : Grow w3 w5 := ((Grow.refl w3).alloc _).trans H5.out.2
  refine HR.out _ _ ⟨v5, F3, rfl, own_base_le H5.out.1 ?_, (EM.local b).fr H3.out.1 (G := fun _ => False) hg (fun _ _ h => h), H3.out.2.1.trans ⟨hg.mono fun _ _ h => h.elim, fun k hk => .inl hk⟩, fun k hk hf => ?_⟩
  · have := H3.out.2.1.fr.size
    rw [size_alloc]
    omega
  · have h1 := (H5.out.1.lt k hk).1
    have h2 := (EM.local b).lt H3.out.1 k hf
    rw [size_alloc] at h1
    omega
end Go.Proofs.YtcgcljmnnjalpaaGreat
