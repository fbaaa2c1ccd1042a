/- GuardCopies: what the statement's function answers. -/
import Derived.Test.YtcgcljmnnjalpaaGreatGcD
import Derived.Test.YtcgcljmnnjalpaaGreatGhB
set_option linter.unusedVariables false
set_option linter.unusedSimpArgs false
namespace Go.Proofs.YtcgcljmnnjalpaaGreat
open Go.RowKit Go.Kx
open Go.ChangeMaps (setBlock)
/-- Three guards beside each other. -/
structure T3 (G X Y : Nat) (w : World) (F1 F2 F3 : FP) (s1 s2 s3 : RS) : Prop where
  g : GM G w F1 s1
  x : GM X w F2 s2
  y : GM Y w F3 s3
  d12 : ∀ j, F1 j → ¬ F2 j
  d13 : ∀ j, F1 j → ¬ F3 j
  d23 : ∀ j, F2 j → ¬ F3 j
def U3 (F1 F2 F3 : FP) : FP := fun j => F1 j ∨ F2 j ∨ F3 j
section
variable {G X Y : Nat} {w w' : World} {F1 F2 F3 F' : FP} {s1 s2 s3 s' : RS}
theorem T3.grow (h : T3 G X Y w F1 F2 F3 s1 s2 s3) (hg : Grow w w') : T3 G X Y w' F1 F2 F3 s1 s2 s3 :=
  ⟨(GM.local G).fr (G := fun _ => False) h.g hg (fun _ _ h => h), (GM.local X).fr (G := fun _ => False) h.x hg (fun _ _ h => h), (GM.local Y).fr (G := fun _ => False) h.y hg (fun _ _ h => h), h.d12, h.d13, h.d23⟩
theorem T3.lt (h : T3 G X Y w F1 F2 F3 s1 s2 s3) (j : Nat) (hj : U3 F1 F2 F3 j) : j < w.heap.size := by
  rcases hj with q | q | q
  · exact (GM.local G).lt h.g j q
  · exact (GM.local X).lt h.x j q
  · exact (GM.local Y).lt h.y j q
theorem T3.gS (h : T3 G X Y w F1 F2 F3 s1 s2 s3) (ha : GM G w' F' s') (hs : Step F1 w F' w') : T3 G X Y w' F' F2 F3 s' s2 s3 ∧ Step (U3 F1 F2 F3) w (U3 F' F2 F3) w' := by
  refine ⟨⟨ha, (GM.local X).fr h.x hs.fr (fun k h2 h1 => h.d12 k h1 h2), (GM.local Y).fr h.y hs.fr (fun k h2 h1 => h.d13 k h1 h2), fun j h1 h2 => ?_, fun j h1 h2 => ?_, h.d23⟩, hs.fr.mono fun i _ q => .inl q, fun k hk => ?_⟩
  · exact (hs.sub j h1).elim (fun q => h.d12 j q h2) (fun q => by have := (GM.local X).lt h.x j h2; omega)
  · exact (hs.sub j h1).elim (fun q => h.d13 j q h2) (fun q => by have := (GM.local Y).lt h.y j h2; omega)
  · rcases hk with q | q | q
    · exact (hs.sub k q).elim (fun q => .inl (.inl q)) .inr
    · exact .inl (.inr (.inl q))
    · exact .inl (.inr (.inr q))
theorem T3.xS (h : T3 G X Y w F1 F2 F3 s1 s2 s3) (ha : GM X w' F' s') (hs : Step F2 w F' w') : T3 G X Y w' F1 F' F3 s1 s' s3 ∧ Step (U3 F1 F2 F3) w (U3 F1 F' F3) w' := by
  refine ⟨⟨(GM.local G).fr h.g hs.fr (fun k h1 h2 => h.d12 k h1 h2), ha, (GM.local Y).fr h.y hs.fr (fun k h2 h1 => h.d23 k h1 h2), fun j h1 h2 => ?_, h.d13, fun j h1 h2 => ?_⟩, hs.fr.mono fun i _ q => .inr (.inl q), fun k hk => ?_⟩
  · exact (hs.sub j h2).elim (fun q => h.d12 j h1 q) (fun q => by have := (GM.local G).lt h.g j h1; omega)
  · exact (hs.sub j h1).elim (fun q => h.d23 j q h2) (fun q => by have := (GM.local Y).lt h.y j h2; omega)
  · rcases hk with q | q | q
    · exact .inl (.inl q)
    · exact (hs.sub k q).elim (fun q => .inl (.inr (.inl q))) .inr
    · exact .inl (.inr (.inr q))
theorem T3.grown {o : Obj} {u : Value} (h : T3 G X Y w F1 F2 F3 s1 s2 s3) (hd : ∀ j, u.ownBlock = some j → ¬ U3 F1 F2 F3 j) (hgr : (w.alloc o).grownBy w' u.ownBlock) : T3 G X Y w' F1 F2 F3 s1 s2 s3 :=
  ⟨local_grown (GM.local G) h.g (fun j hj q => hd j hj (.inl q)) hgr, local_grown (GM.local X) h.x (fun j hj q => hd j hj (.inr (.inl q))) hgr, local_grown (GM.local Y) h.y (fun j hj q => hd j hj (.inr (.inr q))) hgr, h.d12, h.d13, h.d23⟩
end
/-- Ints of the call's own, beside F. -/
def RowB (B0 : Nat) (F : FP) (l : List Int) (A : Option Addr) (c : Nat) (w : World) : Prop := w.ownsRow B0 3 1 (.slice A l.length c) l.length (l.map (Value.int .i64)) ∧ ∀ j, (Value.slice A l.length c).ownBlock = some j → ¬ F j
theorem RowB.step {B0 : Nat} {F F' : FP} {l : List Int} {A : Option Addr} {c : Nat} {w w' : World} (h : RowB B0 F l A c w) (hs : Step F w F' w') : RowB B0 F' l A c w' := own_keep h.1 h.2 hs
theorem RowB.ints {B0 : Nat} {F : FP} {l : List Int} {A : Option Addr} {c : Nat} {w : World} (h : RowB B0 F l A c w) : IntsAt w A l := ints_own h.1
theorem RowB.grow {B0 : Nat} {F : FP} {l : List Int} {A : Option Addr} {c : Nat} {w w' : World} (h : RowB B0 F l A c w) (hg : Grow w w') : RowB B0 F l A c w' := ⟨owns_grow h.1 hg, h.2⟩
theorem RowB.grown {B0 B1 n : Nat} {F : FP} {l : List Int} {A : Option Addr} {c : Nat} {w w' : World} {o : Obj} {u : Value} {vs : List Value} (h : RowB B0 F l A c w) (ho : w.ownsRow B1 34 1 u n vs) (hgr : (w.alloc o).grownBy w' u.ownBlock) : RowB B0 F l A c w' :=
  ⟨owns_fr (owns_grow h.1 ((Grow.refl w).alloc o)) (fr_grown hgr) (fun j hj e => by
    obtain ⟨p, hp⟩ := owns_blk h.1 hj
    obtain ⟨p2, hp2⟩ := owns_blk ho e
    exact absurd (blk_ty hp hp2) (by decide)), h.2⟩
def Cp3 (w0 : World) (G X Y : Nat) (s1 s2 s3 : RS) (ls : List (List Int)) (u : Value) (l : List Int) (A : Option Addr) (c : Nat) (w : World) : Prop :=
  ∃ F1 F2 F3, T3 G X Y w F1 F2 F3 s1 s2 s3 ∧ OutsAt w0.heap.size (U3 F1 F2 F3) ls u w ∧ RowB w0.heap.size (U3 F1 F2 F3) l A c w ∧ Grow w0 w ∧ ∀ j, U3 F1 F2 F3 j → w0.heap.size ≤ j
theorem Cp3.grow {w0 w w' : World} {G X Y : Nat} {s1 s2 s3 : RS} {ls : List (List Int)} {u : Value} {l : List Int} {A : Option Addr} {c : Nat} (h : Cp3 w0 G X Y s1 s2 s3 ls u l A c w) (hg : Grow w w') : Cp3 w0 G X Y s1 s2 s3 ls u l A c w' := by
  obtain ⟨F1, F2, F3, h1, h2, h3, h4, h5⟩ := h
  exact ⟨F1, F2, F3, h1.grow hg, h2.grow hg, h3.grow hg, h4.trans hg, h5⟩
theorem outs_slE {B0 : Nat} {F : FP} {ls : List (List Int)} {u : Value} {w : World} (h : OutsAt B0 F ls u w) : ∃ A c, u = .slice A ls.length c := by
  obtain ⟨vs, h1, h2, h3, h4⟩ := h
  rcases own_val h2 with ⟨rfl, h0⟩ | ⟨g, cap, rfl, _⟩
  · exact ⟨none, 0, by rw [h0]⟩
  · exact ⟨_, cap, rfl⟩
set_option maxRecDepth 100000 in
set_option maxHeartbeats 16000000 in
theorem copies_any {w : World} {A B : Option Addr} {ca cb : Nat} {l m : List Dd} (h : DdAt w A l) (h2 : DdAt w B m) (k t : Int) : Calls Tryz.prog 12 #[.agg #[.int .i64 k, .int .i64 t, .slice A l.length ca, .slice B m.length cb]] w (TrueP w) := by
  refine cph fun R HR => ?_
  have HD := Lib.hid h2
  have HA := Lib.hid awake_any
  have HM : Hid (∀ w1, Grow w w1 → Calls Tryz.prog 22 #[.int .i64 k, .int .i64 t, .slice A l.length ca] w1 (MadeG w1 (runS (newS (kind6 k) (thrN t).toNat) (l.take 150)) (thrN t))) := fun w1 hg => made_any (h.fr hg (fun _ h => h.elim)) k t
  have htn := thrN_le t
  obtain ⟨N, hN⟩ := Int.eq_ofNat_of_zero_le (a := thrN t) (by omega)
  rw [hN] at HM htn
  rw [Int.toNat_natCast] at HM
  have hfew : Few 150 (runS (newS (kind6 k) N) (l.take 150)) := ((few_new (kind6 k) (n := N) (by omega)).run (l.take 150)).mono (by simp; omega)
  have hkd : (runS (newS (kind6 k) N) (l.take 150)).kind = kind6 k := runS_kind _ _
  generalize runS (newS (kind6 k) N) (l.take 150) = s1 at HM hfew hkd
  have hbk : ∀ q, q ≤ 150 → Small (runS s1 (m.take q)) ∧ Few 300 (runS s1 (m.take q)) := fun q hq => ⟨(hfew.run _).small (by simp; omega), (hfew.run _).mono (by simp; omega)⟩
  have HBk := Lib.hid hbk
  have HKd := Lib.hid hkd
  have HKf := Lib.hid (fun w1 => kindOf_any k w1)
  have hsm0 := (hbk 0 (by omega)).1
  have HSm := Lib.hid (show Small s1 from hsm0)
  have hal : (addrs s1).length ≤ 1000000 := by rw [addrs_len]; have := HSm.out.1; omega
  obtain ⟨iL, hi, hz0, hz1, hz2⟩ := info_parts infoL
  have HL := Lib.hid (And.intro hi (And.intro hz0 (And.intro hz1 hz2)))
  -- the box of the case
  have hga := (Grow.refl w).alloc (Obj.cells #[.int .i64 k, .int .i64 t, .slice A l.length ca, .slice B m.length cb] 73)
  have hna := blk_new w (Obj.cells #[.int .i64 k, .int .i64 t, .slice A l.length ca, .slice B m.length cb] 73)
  obtain ⟨wa, hwa⟩ : ∃ wa, w.alloc (Obj.cells #[.int .i64 k, .int .i64 t, .slice A l.length ca, .slice B m.length cb] 73) = wa := ⟨_, rfl⟩
  rw [hwa] at hga hna
  have a0 := (blk_cell hna 0).trans (rfl : _ = some (Value.int .i64 k))
  have a1 := (blk_cell hna 1).trans (rfl : _ = some (Value.int .i64 t))
  have a2 := (blk_cell hna 2).trans (rfl : _ = some (Value.slice A l.length ca))
  have a3 := (blk_cell hna 3).trans (rfl : _ = some (Value.slice B m.length cb))
  have HGa := Lib.hid hga
  clear hfew hkd hbk hsm0 hi hz0 hz1 hz2 hga hna h h2 hN
  go_enter Tryz.func12, Tryz.ntmps12
  go_upto_region 1 with fail
  go_quiet (fail)
  have hgX : Grow w (wa.drewN nq) := HGa.out.drewN nq
  clear a0 a1 a2 a3
  generalize wa.drewN nq = wX at hgX ⊢
  have HGX := Lib.hid hgX
  clear hgX
  go_upto_region 12 with (first | (go_at_call 13; refine (HA.out _).mono ?_; rintro e w1 ⟨rfl, hg1⟩; have HG1 := Lib.hid (HGX.out.trans hg1); clear hg1) | (go_at_call 22; refine (HM.out _ HG1.out).mono ?_; rintro e w2 ⟨G, F1, rfl, hA, hg, hF⟩; have HC1 := Lib.hid (gmCopy hA HSm.out); have H2 := Lib.hid (And.intro hA (And.intro (HG1.out.trans hg) (fun j hj => Nat.le_trans HG1.out.size (hF j hj)))); clear hA hg hF) | (go_at_call 39; refine HC2.out.mono ?_; rintro e w4 ⟨Y, F3, rfl, hA, hg, hF⟩; have H4 := Lib.hid (And.intro hA (And.intro hg hF)); have HK := Lib.hid (gmKind ((GM.local X).fr (G := fun _ => False) H3.out.1 hg (fun _ _ h => h))); have HWg := Lib.hid (gmWaiting ((GM.local G).fr (G := fun _ => False) H2.out.1 (H3.out.2.1.trans hg) (fun _ _ h => h)) HSm.out); rw [HKd.out] at HK; clear hA hg hF) | (go_at_call 39; refine HC1.out.mono ?_; rintro e w3 ⟨X, F2, rfl, hA, hg, hF⟩; have HC2 := Lib.hid (gmCopy ((GM.local G).fr (G := fun _ => False) H2.out.1 hg (fun _ _ h => h)) HSm.out); have H3 := Lib.hid (And.intro hA (And.intro hg hF)); clear hA hg hF) | (go_at_call 31; refine HK.out.mono ?_; rintro e w5 ⟨rfl, rfl⟩) | (go_at_call 28; refine (HKf.out _).mono ?_; rintro e w5 ⟨rfl, rfl⟩) | (go_at_call 21; refine HWg.out.mono ?_; intro e w6 ho6; obtain ⟨A7, c7, rfl, o7, g7⟩ := ho6.ints; have H6 := Lib.hid (And.intro o7 g7); clear o7 g7 ho6))
  have hC6 : Cp3 w G X Y s1 (runS s1 (m.take 0)) s1 (outsS s1 (m.take 0)) (.slice none 0 0) (addrs s1) A7 c7 w6 := by
    have t4 : T3 G X Y w4 F1 F2 F3 s1 s1 s1 := by
      refine ⟨(GM.local G).fr (G := fun _ => False) H2.out.1 (H3.out.2.1.trans H4.out.2.1) (fun _ _ h => h), (GM.local X).fr (G := fun _ => False) H3.out.1 H4.out.2.1 (fun _ _ h => h), H4.out.1, fun j h1 h2 => ?_, fun j h1 h2 => ?_, fun j h1 h2 => ?_⟩
      · have q1 := (GM.local G).lt H2.out.1 j h1
        have q2 := H3.out.2.2 j h2
        omega
      · have q1 := (GM.local G).lt H2.out.1 j h1
        have q2 := H4.out.2.2 j h2
        have q3 := H3.out.2.1.size
        omega
      · have q1 := (GM.local X).lt H3.out.1 j h1
        have q2 := H4.out.2.2 j h2
        omega
    have g04 := (H2.out.2.1.trans H3.out.2.1).trans H4.out.2.1
    refine ⟨F1, F2, F3, t4.grow H6.out.2, OutsAt.nil _ _ _, ⟨own_base_le H6.out.1 g04.size, fun j hj hU => ?_⟩, g04.trans H6.out.2, fun j hj => ?_⟩
    · have q1 := (H6.out.1.lt j hj).1
      have q2 := t4.lt j hU
      omega
    · have q1 := H2.out.2.1.size
      have q2 := H3.out.2.1.size
      rcases hj with q | q | q
      · exact H2.out.2.2 j q
      · have := H3.out.2.2 j q; omega
      · have := H4.out.2.2 j q; omega
  have HC6 := Lib.hid hC6
  clear hC6
  go_wp2_with fail
  go_loopw [12, 13] (fun u i wr => ∃ q : Nat, q ≤ m.length ∧ q ≤ 150 ∧ i = .int .i64 q ∧ Hid (Cp3 w G X Y s1 (runS s1 (m.take q)) s1 (outsS s1 (m.take q)) u (addrs s1) A7 c7 wr)) (fun _ i _ => m.length - (intOf i).toNat)
  case atStart => exact ⟨0, Nat.zero_le _, by omega, rfl, HC6.out⟩
  case round =>
    obtain ⟨q, hq, hq150, rfl, HQ⟩ := hrel
    by_cases hql : q < m.length ∧ q < 150
    · obtain ⟨hql, hql2⟩ := hql
      have hqi : (q : Int) < (m.length : Int) := by omega
      have hqi2 : (q : Int) < 150 := by omega
      obtain ⟨y, hy⟩ : ∃ y, m[q]? = some y := ⟨m[q], by simp [hql]⟩
      obtain ⟨E1, E2, E3, ht, ho, hw, hg, hF⟩ := HQ.out
      obtain ⟨b9, o9, rfl, hcs⟩ := HD.out.resolve_left (by intro e; rw [e] at hql; simp at hql)
      obtain ⟨p0, p1, p2, p3⟩ := hcs q y hy
      have c0 := hg.cell p0
      have c1 := hg.cell p1
      have c2 := hg.cell p2
      have c3 := hg.cell p3
      have hsm := (HBk.out q hq150).1
      have hfw := (HBk.out q hq150).2
      have hbl := back_le _ hfw.2.2 y
      have hbl2 : (doS (runS s1 (m.take q)) y).back.length ≤ 1000000 := by have := hfw.1; omega
      have hsucc := runS_succ (s := s1) hy
      have hosucc := outsS_succ (s := s1) hy
      have hol : (outsS s1 (m.take q)).length = q := by rw [outsS_len, List.length_take]; omega
      have HDo := Lib.hid (gmDo ht.x hsm y)
      have HSz0 := Lib.hid hg.size
      generalize runS s1 (m.take q) = sq at ht hsucc hosucc hbl2 HDo
      generalize doS sq y = r at hsucc hosucc hbl2 HDo
      have HSu := Lib.hid (And.intro hsucc hosucc)
      have HOl := Lib.hid hol
      have H1 := Lib.hid (And.intro ht (And.intro ho (And.intro hw (And.intro hg hF))))
      clear hy ht ho hw hg hF hcs p0 p1 p2 p3 hsm hfw hbl hsucc hosucc hol
      go_wp2_with (first | (go_at_call 20; refine HDo.out.mono ?_; intro e w8 ho8; obtain ⟨A8, c8, F8, rfl, o8, a8, s8, d8⟩ := ho8.ints; obtain ⟨t8, S8⟩ := H1.out.1.xS a8 s8; have hO8 := H1.out.2.1.step S8; have hW8 := H1.out.2.2.1.step S8; obtain ⟨vs, v1, v2, v3, v4⟩ := hO8; have HV := Lib.hid (And.intro v1 (And.intro v2 (And.intro v3 v4))); have g8 := grow_step H1.out.2.2.2.1 H1.out.2.2.2.2 S8; have HSz := Lib.hid g8.1.size; have hd8 : ∀ j, (Value.slice A8 r.back.length c8).ownBlock = some j → ¬ U3 E1 F8 E3 j := (fun j hj hU => by rcases hU with q | q | q; exact (by have := (o8.lt j hj).1; have := (GM.local G).lt H1.out.1.g j q; omega); exact d8 j hj q; exact (by have := (o8.lt j hj).1; have := (GM.local Y).lt H1.out.1.y j q; omega)); have H8 := Lib.hid (And.intro o8 (And.intro t8 (And.intro hW8 (And.intro g8 hd8)))); clear o8 a8 s8 d8 t8 S8 hW8 v1 v2 v3 v4 g8 hd8 ho8) | (at_builtin; refine wpList_append_own_at _ rfl (.tmp 76) (.tmp 78) 24 rfl w.heap.size 34 iL (.slice none 0 0) 1 24 Tryz.underlying24 HL.out.1 HL.out.2.1 HL.out.2.2.1 HL.out.2.2.2 rfl (by decide) _ (outsS s1 (m.take q)).length vs rfl (HV.out.2.1.alloc _) ⟨w8.heap.size, 0, none⟩ 1 1 [.slice A8 r.back.length c8] rfl rfl (cell_one_new w8 _ _) (by simp [Value.oneCell']) (by unfold maxLen; rw [HOl.out]; omega) (by rw [HOl.out]; omega) (by have := HSz.out; simp; omega) ?_; intro v7 w7 hown hgrow _ hat; have H7 := Lib.hid (And.intro hown (And.intro hgrow hat)); clear hown hgrow hat))
      go_roundw
      case rel =>
        refine ⟨q + 1, by omega, by omega, by go_num, E1, F8, E3, ?_, ?_, H8.out.2.2.1.grown HV.out.2.1 H7.out.2.1, (H8.out.2.2.2.1.1.alloc _).grown H7.out.2.1 (fun j e => (HV.out.2.1.lt j e).1), H8.out.2.2.2.1.2⟩
        · rw [HSu.out.1]
          exact H8.out.2.1.grown HV.out.2.2.1 H7.out.2.1
        · rw [HSu.out.2]
          exact OutsAt.app HV.out.1 HV.out.2.1 HV.out.2.2.1 HV.out.2.2.2 H8.out.1 HSz0.out H8.out.2.2.2.2 H7.out.1 H7.out.2.1 H7.out.2.2 H8.out.2.1.lt
      case measure => simp [intOf] <;> omega
    · obtain ⟨wx, hwx⟩ : ∃ x, x = wr := ⟨_, rfl⟩
      subst hwx
      obtain ⟨D, hD⟩ : ∃ D, m.take 150 = D := ⟨_, rfl⟩
      have e1 : m.take q = m.take 150 := by
        by_cases h : q < m.length
        · have : q = 150 := by omega
          rw [this]
        · rw [List.take_of_length_le (by omega), List.take_of_length_le (by omega)]
      have hDl : D.length = q := by rw [← hD, ← e1]; simp; omega
      have hDm : ∀ i y, D[i]? = some y → m[i]? = some y := fun i y hy => by
        rw [← hD, List.getElem?_take] at hy
        split at hy
        · exact hy
        · cases hy
      have hCx := HQ.out
      rw [e1, hD] at hCx
      have hsl : ∃ A14 c14, u12 = .slice A14 D.length c14 := by
        obtain ⟨E1, E2, E3, ht, ho, hw, hg, hF⟩ := hCx
        obtain ⟨A14, c14, e⟩ := outs_slE ho
        exact ⟨A14, c14, by rw [e, outsS_len]⟩
      obtain ⟨A14, c14, hu⟩ := hsl
      subst hu
      have hD150 : D.length ≤ 150 := by omega
      have hbD : ∀ q, q ≤ D.length → Small (runS s1 (D.take q)) ∧ Few 300 (runS s1 (D.take q)) := fun q hq => by
        have := HBk.out q (by omega)
        rw [show m.take q = D.take q by rw [← hD, List.take_take]; congr 1; omega] at this
        exact this
      have HBD := Lib.hid hbD
      have HDm := Lib.hid hDm
      have hwg : Calls Tryz.prog 21 #[.pointer (some ⟨G, 0, none⟩)] wx (WaitP wx s1) := by
        obtain ⟨E1, E2, E3, ht, ho, hw, hg, hF⟩ := hCx
        exact gmWaiting ht.g HSm.out
      have hwy : ∀ W, Grow wx W → Calls Tryz.prog 21 #[.pointer (some ⟨Y, 0, none⟩)] W (WaitP W s1) := fun W hW => by
        obtain ⟨E1, E2, E3, ht, ho, hw, hg, hF⟩ := hCx
        exact gmWaiting (ht.grow hW).y HSm.out
      have hix : IntsAt wx A7 (addrs s1) := by
        obtain ⟨E1, E2, E3, ht, ho, hw, hg, hF⟩ := hCx
        exact hw.ints
      have HWg2 := Lib.hid hwg
      have HWy := Lib.hid hwy
      have HIx := Lib.hid hix
      have HCx := Lib.hid hCx
      have hDm2 : (D.length : Int) ≤ (m.length : Int) := by omega
      have d12 : (¬ (q : Int) < (m.length : Int)) ∨ ((q : Int) < (m.length : Int) ∧ ¬ (q : Int) < 150) := by omega
      clear hwg hwy hix hCx hDm hbD e1 hD hql
      rcases d12 with hki | ⟨hki, hki2⟩
      case' inl => have d1 := decide_eq_false hki
      case' inr => have d2 := decide_eq_false hki2
      all_goals
        go_wp2_with (first | (go_at_call 16; refine HSb.out.mono ?_; rintro e w13 ⟨rfl, g13⟩; have H13 := Lib.hid (H12.out.trans g13); clear g13) | (go_at_call 21; refine (HWy.out _ H11.out).mono ?_; intro e w12 ho12; obtain ⟨A12, c12, rfl, o12, g12⟩ := ho12.ints; have hs := sameI_any (ca := c12) (cb := c7) (ints_own o12) (HIx.out.grow (H11.out.trans g12)) hal hal; rw [decide_eq_true rfl] at hs; have HSb := Lib.hid hs; have H12 := Lib.hid (H11.out.trans g12); clear o12 g12 ho12 hs) | (go_at_call 16; refine HSa.out.mono ?_; rintro e w11 ⟨rfl, g11⟩; have H11 := Lib.hid (H10.out.trans g11); clear g11) | (go_at_call 21; refine HWg2.out.mono ?_; intro e w10 ho10; obtain ⟨A10, c10, rfl, o10, g10⟩ := ho10.ints; have hs := sameI_any (ca := c10) (cb := c7) (ints_own o10) (HIx.out.grow g10) hal hal; rw [decide_eq_true rfl] at hs; have HSa := Lib.hid hs; have H10 := Lib.hid g10; clear o10 g10 ho10 hs))
        go_loopw [16] (fun i wr => ∃ q : Nat, q ≤ D.length ∧ i = .int .i64 q ∧ Hid (Cp3 w G X Y (runS s1 (D.take q)) (runS s1 D) s1 (outsS s1 D) (.slice A14 D.length c14) (addrs s1) A7 c7 wr)) (fun i _ => D.length - (intOf i).toNat)
        case atStart => exact ⟨0, Nat.zero_le _, rfl, HCx.out.grow H13.out⟩
        case round =>
          obtain ⟨p, hp, rfl, HP⟩ := hrel
          by_cases hpl : p < D.length
          · have hpi : (p : Int) < (D.length : Int) := by omega
            have hpm : (p : Int) < (m.length : Int) := by omega
            obtain ⟨y, hy⟩ : ∃ y, D[p]? = some y := ⟨D[p], by simp [hpl]⟩
            obtain ⟨E1, E2, E3, ht, ho, hw, hg, hF⟩ := HP.out
            obtain ⟨b9, o9, rfl, hcs⟩ := HD.out.resolve_left (by intro e; rw [e] at hpm; simp at hpm; omega)
            obtain ⟨p0, p1, p2, p3⟩ := hcs p y (HDm.out p y hy)
            have c0 := hg.cell p0
            have c1 := hg.cell p1
            have c2 := hg.cell p2
            have c3 := hg.cell p3
            have hat := outsS_at (s := s1) hy
            obtain ⟨b14, A', c', rfl, -, -, -⟩ := ho.at_ hat
            have hsm := (HBD.out p hp).1
            have hfw := (HBD.out p hp).2
            have hbl := back_le _ hfw.2.2 y
            have hbl2 : (doS (runS s1 (D.take p)) y).back.length ≤ 1000000 := by have := hfw.1; omega
            have HSu := Lib.hid (runS_succ (s := s1) hy)
            have HDo := Lib.hid (gmDo ht.g hsm y)
            generalize runS s1 (D.take p) = sq at ht HSu hbl2 HDo hat
            generalize doS sq y = r at HSu hbl2 HDo hat
            have H1 := Lib.hid (And.intro ht (And.intro ho (And.intro hw (And.intro hg (And.intro hF hat)))))
            clear hy ht ho hw hg hF hcs p0 p1 p2 p3 hsm hfw hbl hat
            go_wp2_with (first | (go_at_call 20; refine HDo.out.mono ?_; intro e w8 ho8; obtain ⟨A8, c8, F8, rfl, o8, a8, s8, d8⟩ := ho8.ints; obtain ⟨t8, S8⟩ := H1.out.1.gS a8 s8; have hO8 := H1.out.2.1.step S8; have hW8 := H1.out.2.2.1.step S8; obtain ⟨bq, Aq, cq, e1, -, hcq, hiq⟩ := hO8.at_ H1.out.2.2.2.2.2; injection e1 with e2; injection e2 with e3; subst e3; have hs := sameI_any (ca := c8) (cb := cq) (ints_own o8) hiq hbl2 hbl2; rw [decide_eq_true rfl] at hs; have HS8 := Lib.hid hs; have g8 := grow_step H1.out.2.2.2.1 H1.out.2.2.2.2.1 S8; have H8 := Lib.hid (And.intro t8 (And.intro hO8 (And.intro hW8 g8))); clear o8 a8 s8 d8 t8 S8 hW8 hO8 hiq hs g8 ho8) | (go_at_call 16; refine HS8.out.mono ?_; rintro e w9 ⟨rfl, g9⟩; have HG9 := Lib.hid g9; clear g9))
            go_roundw
            case rel =>
              have hc : Cp3 w G X Y r.st (runS s1 D) s1 (outsS s1 D) (.slice (some ⟨b14, 0, none⟩) D.length c14) (addrs s1) A7 c7 w8 := ⟨F8, E2, E3, H8.out.1, H8.out.2.1, H8.out.2.2.1, H8.out.2.2.2.1, H8.out.2.2.2.2⟩
              refine ⟨p + 1, by omega, by go_num, ?_⟩
              rw [HSu.out]
              exact hc.grow HG9.out
            case measure => simp [intOf] <;> omega
          · obtain rfl : p = D.length := by omega
            have hpi : ¬ (D.length : Int) < (D.length : Int) := by omega
            have hCz := HP.out
            rw [List.take_length] at hCz
            have hbz := HBD.out D.length (Nat.le_refl _)
            rw [List.take_length] at hbz
            have hal2 : (addrs (runS s1 D)).length ≤ 1000000 := by rw [addrs_len]; have := hbz.1.1; omega
            obtain ⟨wz, hwz⟩ : ∃ x, x = wr := ⟨_, rfl⟩
            rw [← hwz] at hCz ⊢
            have hwy : Calls Tryz.prog 21 #[.pointer (some ⟨Y, 0, none⟩)] wz (WaitP wz s1) := by
              obtain ⟨E1, E2, E3, ht, ho, hw, hg, hF⟩ := hCz
              exact gmWaiting ht.y HSm.out
            have hwg : ∀ W, Grow wz W → Calls Tryz.prog 21 #[.pointer (some ⟨G, 0, none⟩)] W (WaitP W (runS s1 D)) := fun W hW => by
              obtain ⟨E1, E2, E3, ht, ho, hw, hg, hF⟩ := hCz
              exact gmWaiting (ht.grow hW).g hbz.1
            have hwx : ∀ W, Grow wz W → Calls Tryz.prog 21 #[.pointer (some ⟨X, 0, none⟩)] W (WaitP W (runS s1 D)) := fun W hW => by
              obtain ⟨E1, E2, E3, ht, ho, hw, hg, hF⟩ := hCz
              exact gmWaiting (ht.grow hW).x hbz.1
            have hix : IntsAt wz A7 (addrs s1) ∧ Grow w wz := by
              obtain ⟨E1, E2, E3, ht, ho, hw, hg, hF⟩ := hCz
              exact ⟨hw.ints, hg⟩
            have HWy2 := Lib.hid hwy
            have HWg3 := Lib.hid hwg
            have HWx3 := Lib.hid hwx
            have HIz := Lib.hid hix
            clear hwy hwg hwx hix hCz hbz HP hwz
            go_wp2_with (first | (go_at_call 16; refine HSd.out.mono ?_; rintro e w24 ⟨rfl, g24⟩; have H24 := Lib.hid (H23.out.trans g24); clear g24) | (go_at_call 21; refine (HWx3.out _ H22.out.1).mono ?_; intro e w23 ho23; obtain ⟨A23, c23, rfl, o23, g23⟩ := ho23.ints; have hs := sameI_any (ca := c22) (cb := c23) (H22.out.2.grow g23) (ints_own o23) hal2 hal2; rw [decide_eq_true rfl] at hs; have HSd := Lib.hid hs; have H23 := Lib.hid (H22.out.1.trans g23); clear o23 g23 ho23 hs) | (go_at_call 21; refine (HWg3.out _ H21.out).mono ?_; intro e w22 ho22; obtain ⟨A22, c22, rfl, o22, g22⟩ := ho22.ints; have H22 := Lib.hid (And.intro (H21.out.trans g22) (ints_own o22)); clear o22 g22 ho22) | (go_at_call 16; refine HSc.out.mono ?_; rintro e w21 ⟨rfl, g21⟩; have H21 := Lib.hid (H20.out.trans g21); clear g21) | (go_at_call 21; refine HWy2.out.mono ?_; intro e w20 ho20; obtain ⟨A20, c20, rfl, o20, g20⟩ := ho20.ints; have hs := sameI_any (ca := c20) (cb := c7) (ints_own o20) (HIz.out.1.grow g20) hal hal; rw [decide_eq_true rfl] at hs; have HSc := Lib.hid hs; have H20 := Lib.hid g20; clear o20 g20 ho20 hs))
            exact HR.out _ _ ⟨rfl, HIz.out.2.trans H24.out⟩
end Go.Proofs.YtcgcljmnnjalpaaGreat
