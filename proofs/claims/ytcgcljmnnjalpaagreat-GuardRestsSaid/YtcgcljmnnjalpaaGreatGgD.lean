/- Deeds, plainly; the statements' do, same, has. -/
import Derived.Test.YtcgcljmnnjalpaaGreatGgC
set_option linter.unusedVariables false
set_option linter.unusedSimpArgs false
namespace Go.Proofs.YtcgcljmnnjalpaaGreat
open Go.RowKit Go.Kx
open Go.ChangeMaps (setBlock)
structure Dd where
  do_ : Int
  th : Int
  ho : Int
  ad : Int
def encD (d : Dd) : List Value := [.int .i64 d.do_, .int .i64 d.th, .int .i64 d.ho, .int .i64 d.ad]
def doS (s : RS) (d : Dd) : RO :=
  if d.do_ = 0 then inS s d.th
  else if d.do_ = 1 then outS s d.th
  else if d.do_ = 2 then holdS s d.th d.ho d.ad
  else if d.do_ = 3 then ⟨(bornS s d.ad).st, [], (bornS s d.ad).err⟩
  else if d.do_ = 4 then retS s d.th d.ad
  else if d.do_ = 5 then ⟨(restS s).st, (restS s).back, 0⟩
  else ⟨s, [], 0⟩
theorem seq_len : ∀ (l : List (RS → RO)) (s : RS), (∀ f ∈ l, ∀ s, (f s).st.items.length ≤ s.items.length ∧ (f s).st.now ≤ s.now + 1) → (seqS s l).st.items.length ≤ s.items.length ∧ (seqS s l).st.now ≤ s.now + l.length
  | [], s, _ => ⟨Nat.le_refl _, by simp [seqS]⟩
  | f :: l, s, h => by
    have h1 := h f (by simp) s
    have h2 := seq_len l (f s).st fun g hg => h g (by simp [hg])
    show (seqS (f s).st l).st.items.length ≤ _ ∧ (seqS (f s).st l).st.now ≤ _
    simp only [List.length_cons]
    omega
theorem sweep_sz (s : RS) (p : Itm → Bool) : (sweepS s p).st.items.length ≤ s.items.length ∧ (sweepS s p).st.now = s.now := ⟨List.length_filter_le _ _, rfl⟩
theorem try_sz (s : RS) : (tryS s).st.items.length ≤ s.items.length ∧ (tryS s).st.now ≤ s.now + 1 := ⟨by have := tryS_len s; omega, (tryS_now s).1⟩
theorem rest_sz (s : RS) (hn : s.n ≤ 4) : (restS s).st.items.length ≤ s.items.length ∧ (restS s).st.now ≤ s.now + 4 := by
  unfold restS
  split
  · have := seq_len ((List.range s.n).map fun (t : Nat) (s : RS) => sweepS s (fun x => x.thr == (t : Int))) s fun f hf s => by
      obtain ⟨t, _, rfl⟩ := List.mem_map.1 hf
      exact ⟨(sweep_sz s _).1, by rw [(sweep_sz s _).2]; omega⟩
    simp only [List.length_map, List.length_range] at this
    omega
  · split
    · have := seq_len [tryS, tryS, tryS] s fun f hf s => by
        rw [show f = tryS by simpa using hf]; exact try_sz s
      simp only [List.length_cons, List.length_nil] at this
      omega
    · have := sweep_sz s fun _ => true
      omega
theorem do_sz (s : RS) (hn : s.n ≤ 4) (d : Dd) : (doS s d).st.items.length ≤ s.items.length + 1 ∧ (doS s d).st.now ≤ s.now + 4 := by
  have hr0 : ∀ t a, (retS0 s t a).items.length = s.items.length + 1 ∧ (retS0 s t a).now = s.now := fun t a => ⟨by simp [retS0], rfl⟩
  unfold doS
  split
  · unfold inS; split <;> exact ⟨by dsimp only; omega, by dsimp only; omega⟩
  split
  · unfold outS
    split
    · split
      · have h1 := sweep_sz (outS0 s d.th.toNat) fun _ => true
        have h2 : (outS0 s d.th.toNat).items.length = s.items.length ∧ (outS0 s d.th.toNat).now = s.now := ⟨by simp [outS0], rfl⟩
        omega
      · have h2 : (outS0 s d.th.toNat).items.length = s.items.length ∧ (outS0 s d.th.toNat).now = s.now := ⟨by simp [outS0], rfl⟩
        dsimp only; omega
    · dsimp only; omega
  split
  · unfold holdS
    split
    · split
      · dsimp only; omega
      · split
        · have h1 := sweep_sz (holdS0 s d.th.toNat d.ho.toNat d.ad) fun _ => true
          have h2 : (holdS0 s d.th.toNat d.ho.toNat d.ad).items.length = s.items.length ∧ (holdS0 s d.th.toNat d.ho.toNat d.ad).now = s.now := ⟨rfl, rfl⟩
          omega
        · have h2 : (holdS0 s d.th.toNat d.ho.toNat d.ad).items.length = s.items.length ∧ (holdS0 s d.th.toNat d.ho.toNat d.ad).now = s.now := ⟨rfl, rfl⟩
          dsimp only; omega
    · dsimp only; omega
  split
  · unfold bornS
    split
    · split <;> (dsimp only; omega)
    · dsimp only; omega
  split
  · have h0 := hr0 d.th d.ad
    unfold retS
    split
    · split
      · dsimp only; omega
      · split
        · split
          · have := sweep_sz (retS0 s d.th d.ad) fun x => x.thr == d.th
            omega
          · dsimp only; omega
        · split
          · have := try_sz (retS0 s d.th d.ad); omega
          · have := sweep_sz (retS0 s d.th d.ad) fun _ => true; omega
    · dsimp only; omega
  split
  · have := rest_sz s hn
    dsimp only; omega
  · dsimp only; omega
theorem OpP.from {At : World → FP → RS → Prop} {w wa w' : World} {F F1 : FP} {r : RO} {e : Ending} (h : OpP At wa F1 r e w') (hs : Step F w F1 wa) : OpP At w F r e w' := by
  obtain ⟨v, F', rfl, h1, h2, h3, h4⟩ := h
  exact ⟨v, F', rfl, own_base_le h1 hs.fr.size, h2, hs.trans h3, h4⟩
set_option maxRecDepth 100000 in
set_option maxHeartbeats 4000000 in
theorem gmDo {G : Nat} {w : World} {F : FP} {s : RS} (hgm : GM G w F s) (hs : Small s) (d : Dd) : Calls Tryz.prog 20 #[.pointer (some ⟨G, 0, none⟩), .agg #[.int .i64 d.do_, .int .i64 d.th, .int .i64 d.ho, .int .i64 d.ad]] w (OpP (GM G) w F (doS s d)) := by
  refine cph fun R HR => ?_
  have hga := (Grow.refl w).alloc (Obj.cells #[.int .i64 d.do_, .int .i64 d.th, .int .i64 d.ho, .int .i64 d.ad] 32)
  obtain ⟨wa, hwa⟩ : ∃ wa, w.alloc (Obj.cells #[.int .i64 d.do_, .int .i64 d.th, .int .i64 d.ho, .int .i64 d.ad] 32) = wa := ⟨_, rfl⟩
  rw [hwa] at hga
  have hna := blk_new w (Obj.cells #[.int .i64 d.do_, .int .i64 d.th, .int .i64 d.ho, .int .i64 d.ad] 32)
  rw [hwa] at hna
  have a0 := (blk_cell hna 0).trans (rfl : _ = some (Value.int .i64 d.do_))
  have a1 := (blk_cell hna 1).trans (rfl : _ = some (Value.int .i64 d.th))
  have a2 := (blk_cell hna 2).trans (rfl : _ = some (Value.int .i64 d.ho))
  have a3 := (blk_cell hna 3).trans (rfl : _ = some (Value.int .i64 d.ad))
  have HSt : Hid (Step F w F wa) := ⟨hga.mono fun _ _ h => h.elim, fun k hk => .inl hk⟩
  have hq := (GM.local G).fr hgm (G := fun _ => False) hga (fun _ _ h => h)
  have HQ := Lib.hid hq
  have H0 := Lib.hid (gmIn hq hs d.th)
  have H1 := Lib.hid (gmOut hq hs d.th)
  have H2 := Lib.hid (gmHold hq hs d.th d.ho d.ad)
  have H3 := Lib.hid (gmBorn hq hs d.ad)
  have H4 := Lib.hid (gmRetire hq hs d.th d.ad)
  have H5 := Lib.hid (gmRest hq hs)
  obtain ⟨x, th, ho, ad⟩ := d
  dsimp only at *
  clear hq hgm hna hga
  unfold doS at HR
  dsimp only at HR
  by_cases c0 : x = 0
  · subst c0
    rw [if_pos rfl] at HR
    go_enter Tryz.func20, Tryz.ntmps20
    go_wp2_with (go_at_call 23; refine H0.out.mono ?_; rintro e w1 ho; have hp := ho; obtain ⟨v, F', rfl, _⟩ := ho; have H9 := Lib.hid hp; clear hp)
    exact HR.out _ _ (H9.out.from HSt.out)
  rw [if_neg c0] at HR
  by_cases c1 : x = 1
  · subst c1
    rw [if_pos rfl] at HR
    go_enter Tryz.func20, Tryz.ntmps20
    go_wp2_with (go_at_call 26; refine H1.out.mono ?_; rintro e w1 ho; have hp := ho; obtain ⟨v, F', rfl, _⟩ := ho; have H9 := Lib.hid hp; clear hp)
    exact HR.out _ _ (H9.out.from HSt.out)
  rw [if_neg c1] at HR
  by_cases c2 : x = 2
  · subst c2
    rw [if_pos rfl] at HR
    go_enter Tryz.func20, Tryz.ntmps20
    go_wp2_with (go_at_call 25; refine H2.out.mono ?_; rintro e w1 ho; have hp := ho; obtain ⟨v, F', rfl, _⟩ := ho; have H9 := Lib.hid hp; clear hp)
    exact HR.out _ _ (H9.out.from HSt.out)
  rw [if_neg c2] at HR
  by_cases c3 : x = 3
  · subst c3
    rw [if_pos rfl] at HR
    go_enter Tryz.func20, Tryz.ntmps20
    go_wp2_with (go_at_call 37; refine H3.out.mono ?_; rintro e w1 ⟨F', rfl, hA, hSt⟩; have H9 := Lib.hid (And.intro hA hSt); clear hA hSt)
    exact HR.out _ _ (OpP.none H9.out.1 (HSt.out.trans H9.out.2))
  rw [if_neg c3] at HR
  by_cases c4 : x = 4
  · subst c4
    rw [if_pos rfl] at HR
    go_enter Tryz.func20, Tryz.ntmps20
    go_wp2_with (go_at_call 38; refine H4.out.mono ?_; rintro e w1 ho; have hp := ho; obtain ⟨v, F', rfl, _⟩ := ho; have H9 := Lib.hid hp; clear hp)
    exact HR.out _ _ (H9.out.from HSt.out)
  rw [if_neg c4] at HR
  by_cases c5 : x = 5
  · subst c5
    rw [if_pos rfl] at HR
    go_enter Tryz.func20, Tryz.ntmps20
    go_wp2_with (go_at_call 27; refine H5.out.mono ?_; intro e w9 ho; obtain ⟨v9, rfl, hp9⟩ := ho.toP2 HSt.out; have H9 := Lib.hid hp9; clear hp9 ho)
    exact HR.out _ _ H9.out
  rw [if_neg c5] at HR
  have e0 : (x == 0) = false := by simpa using c0
  have e1 : (x == 1) = false := by simpa using c1
  have e2 : (x == 2) = false := by simpa using c2
  have e3 : (x == 3) = false := by simpa using c3
  have e4 : (x == 4) = false := by simpa using c4
  have e5 : (x == 5) = false := by simpa using c5
  clear c0 c1 c2 c3 c4 c5
  go_enter Tryz.func20, Tryz.ntmps20
  go_wp2_with fail
  exact HR.out _ _ (OpP.none HQ.out HSt.out)
end Go.Proofs.YtcgcljmnnjalpaaGreat
