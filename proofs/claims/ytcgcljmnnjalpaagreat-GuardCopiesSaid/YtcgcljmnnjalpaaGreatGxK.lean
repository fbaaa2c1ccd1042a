/- Deeds, plainly; the statements' do, same, has. The statements' same, has, kindOf. -/
import Derived.Test.YtcgcljmnnjalpaaGreatGxJ
set_option linter.unusedVariables false
set_option linter.unusedSimpArgs false
namespace Go.Proofs.YtcgcljmnnjalpaaGreat
open Go.RowKit Go.Kx
open Go.ChangeMaps (setBlock)
structure Dd where
  do_ : Int
  th : Int
  ho : Int
  ad : Int
def encD (d : Dd) : List Value := [.int .i64 d.do_, .int .i64 d.th, .int .i64 d.ho, .int .i64 d.ad]
def doS (s : RS) (d : Dd) : RO :=
  if d.do_ = 0 then inS s d.th
  else if d.do_ = 1 then outS s d.th
  else if d.do_ = 2 then holdS s d.th d.ho d.ad
  else if d.do_ = 3 then ⟨(bornS s d.ad).st, [], (bornS s d.ad).err⟩
  else if d.do_ = 4 then retS s d.th d.ad
  else if d.do_ = 5 then ⟨(restS s).st, (restS s).back, 0⟩
  else ⟨s, [], 0⟩
theorem seq_len : ∀ (l : List (RS → RO)) (s : RS), (∀ f ∈ l, ∀ s, (f s).st.items.length ≤ s.items.length ∧ (f s).st.now ≤ s.now + 1) → (seqS s l).st.items.length ≤ s.items.length ∧ (seqS s l).st.now ≤ s.now + l.length
  | [], s, _ => ⟨Nat.le_refl _, by simp [seqS]⟩
  | f :: l, s, h => by
    have h1 := h f (by simp) s
    have h2 := seq_len l (f s).st fun g hg => h g (by simp [hg])
    show (seqS (f s).st l).st.items.length ≤ _ ∧ (seqS (f s).st l).st.now ≤ _
    simp only [List.length_cons]
    omega
theorem sweep_sz (s : RS) (p : Itm → Bool) : (sweepS s p).st.items.length ≤ s.items.length ∧ (sweepS s p).st.now = s.now := ⟨List.length_filter_le _ _, rfl⟩
theorem try_sz (s : RS) : (tryS s).st.items.length ≤ s.items.length ∧ (tryS s).st.now ≤ s.now + 1 := ⟨by have := tryS_len s; omega, (tryS_now s).1⟩
theorem rest_sz (s : RS) (hn : s.n ≤ 4) : (restS s).st.items.length ≤ s.items.length ∧ (restS s).st.now ≤ s.now + 4 := by
  unfold restS
  split
  · have := seq_len ((List.range s.n).map fun (t : Nat) (s : RS) => sweepS s (fun x => x.thr == (t : Int))) s fun f hf s => by
      obtain ⟨t, _, rfl⟩ := List.mem_map.1 hf
      exact ⟨(sweep_sz s _).1, by rw [(sweep_sz s _).2]; omega⟩
    simp only [List.length_map, List.length_range] at this
    omega
  · split
    · have := seq_len [tryS, tryS, tryS] s fun f hf s => by
        rw [show f = tryS by simpa using hf]; exact try_sz s
      simp only [List.length_cons, List.length_nil] at this
      omega
    · have := sweep_sz s fun _ => true
      omega
theorem do_sz (s : RS) (hn : s.n ≤ 4) (d : Dd) : (doS s d).st.items.length ≤ s.items.length + 1 ∧ (doS s d).st.now ≤ s.now + 4 := by
  have hr0 : ∀ t a, (retS0 s t a).items.length = s.items.length + 1 ∧ (retS0 s t a).now = s.now := fun t a => ⟨by simp [retS0], rfl⟩
  unfold doS
  split
  · unfold inS; split <;> exact ⟨by dsimp only; omega, by dsimp only; omega⟩
  split
  · unfold outS
    split
    · split
      · have h1 := sweep_sz (outS0 s d.th.toNat) fun _ => true
        have h2 : (outS0 s d.th.toNat).items.length = s.items.length ∧ (outS0 s d.th.toNat).now = s.now := ⟨by simp [outS0], rfl⟩
        omega
      · have h2 : (outS0 s d.th.toNat).items.length = s.items.length ∧ (outS0 s d.th.toNat).now = s.now := ⟨by simp [outS0], rfl⟩
        dsimp only; omega
    · dsimp only; omega
  split
  · unfold holdS
    split
    · split
      · dsimp only; omega
      · split
        · have h1 := sweep_sz (holdS0 s d.th.toNat d.ho.toNat d.ad) fun _ => true
          have h2 : (holdS0 s d.th.toNat d.ho.toNat d.ad).items.length = s.items.length ∧ (holdS0 s d.th.toNat d.ho.toNat d.ad).now = s.now := ⟨rfl, rfl⟩
          omega
        · have h2 : (holdS0 s d.th.toNat d.ho.toNat d.ad).items.length = s.items.length ∧ (holdS0 s d.th.toNat d.ho.toNat d.ad).now = s.now := ⟨rfl, rfl⟩
          dsimp only; omega
    · dsimp only; omega
  split
  · unfold bornS
    split
    · split <;> (dsimp only; omega)
    · dsimp only; omega
  split
  · have h0 := hr0 d.th d.ad
    unfold retS
    split
    · split
      · dsimp only; omega
      · split
        · split
          · have := sweep_sz (retS0 s d.th d.ad) fun x => x.thr == d.th
            omega
          · dsimp only; omega
        · split
          · have := try_sz (retS0 s d.th d.ad); omega
          · have := sweep_sz (retS0 s d.th d.ad) fun _ => true; omega
    · dsimp only; omega
  split
  · have := rest_sz s hn
    dsimp only; omega
  · dsimp only; omega
theorem OpP.from {At : World → FP → RS → Prop} {w wa w' : World} {F F1 : FP} {r : RO} {e : Ending} (h : OpP At wa F1 r e w') (hs : Step F w F1 wa) : OpP At w F r e w' := by
  obtain ⟨v, F', rfl, h1, h2, h3, h4⟩ := h
  exact ⟨v, F', rfl, own_base_le h1 hs.fr.size, h2, hs.trans h3, h4⟩
set_option maxRecDepth 100000 in
set_option maxHeartbeats 4000000 in
theorem gmDo {G : Nat} {w : World} {F : FP} {s : RS} (hgm : GM G w F s) (hs : Small s) (d : Dd) : Calls Tryz.prog 20 #[.pointer (some ⟨G, 0, none⟩), .agg #[.int .i64 d.do_, .int .i64 d.th, .int .i64 d.ho, .int .i64 d.ad]] w (OpP (GM G) w F (doS s d)) := by
  refine cph fun R HR => ?_
  have hga := (Grow.refl w).alloc (Obj.cells #[.int .i64 d.do_, .int .i64 d.th, .int .i64 d.ho, .int .i64 d.ad] 32)
  obtain ⟨wa, hwa⟩ : ∃ wa, w.alloc (Obj.cells #[.int .i64 d.do_, .int .i64 d.th, .int .i64 d.ho, .int .i64 d.ad] 32) = wa := ⟨_, rfl⟩
  rw [hwa] at hga
  have hna := blk_new w (Obj.cells #[.int .i64 d.do_, .int .i64 d.th, .int .i64 d.ho, .int .i64 d.ad] 32)
  rw [hwa] at hna
  have a0 := (blk_cell hna 0).trans (rfl : _ = some (Value.int .i64 d.do_))
  have a1 := (blk_cell hna 1).trans (rfl : _ = some (Value.int .i64 d.th))
  have a2 := (blk_cell hna 2).trans (rfl : _ = some (Value.int .i64 d.ho))
  have a3 := (blk_cell hna 3).trans (rfl : _ = some (Value.int .i64 d.ad))
  have HSt : Hid (Step F w F wa) := ⟨hga.mono fun _ _ h => h.elim, fun k hk => .inl hk⟩
  have hq := (GM.local G).fr hgm (G := fun _ => False) hga (fun _ _ h => h)
  have HQ := Lib.hid hq
  have H0 := Lib.hid (gmIn hq hs d.th)
  have H1 := Lib.hid (gmOut hq hs d.th)
  have H2 := Lib.hid (gmHold hq hs d.th d.ho d.ad)
  have H3 := Lib.hid (gmBorn hq hs d.ad)
  have H4 := Lib.hid (gmRetire hq hs d.th d.ad)
  have H5 := Lib.hid (gmRest hq hs)
  obtain ⟨x, th, ho, ad⟩ := d
  dsimp only at *
  clear hq hgm hna hga
  unfold doS at HR
  dsimp only at HR
  by_cases c0 : x = 0
  · subst c0
    rw [if_pos rfl] at HR
    go_enter Tryz.func20, Tryz.ntmps20
    go_wp2_with (go_at_call 23; refine H0.out.mono ?_; rintro e w1 ho; have hp := ho; obtain ⟨v, F', rfl, _⟩ := ho; have H9 := Lib.hid hp; clear hp)
    exact HR.out _ _ (H9.out.from HSt.out)
  rw [if_neg c0] at HR
  by_cases c1 : x = 1
  · subst c1
    rw [if_pos rfl] at HR
    go_enter Tryz.func20, Tryz.ntmps20
    go_wp2_with (go_at_call 26; refine H1.out.mono ?_; rintro e w1 ho; have hp := ho; obtain ⟨v, F', rfl, _⟩ := ho; have H9 := Lib.hid hp; clear hp)
    exact HR.out _ _ (H9.out.from HSt.out)
  rw [if_neg c1] at HR
  by_cases c2 : x = 2
  · subst c2
    rw [if_pos rfl] at HR
    go_enter Tryz.func20, Tryz.ntmps20
    go_wp2_with (go_at_call 25; refine H2.out.mono ?_; rintro e w1 ho; have hp := ho; obtain ⟨v, F', rfl, _⟩ := ho; have H9 := Lib.hid hp; clear hp)
    exact HR.out _ _ (H9.out.from HSt.out)
  rw [if_neg c2] at HR
  by_cases c3 : x = 3
  · subst c3
    rw [if_pos rfl] at HR
    go_enter Tryz.func20, Tryz.ntmps20
    go_wp2_with (go_at_call 37; refine H3.out.mono ?_; rintro e w1 ⟨F', rfl, hA, hSt⟩; have H9 := Lib.hid (And.intro hA hSt); clear hA hSt)
    exact HR.out _ _ (OpP.none H9.out.1 (HSt.out.trans H9.out.2))
  rw [if_neg c3] at HR
  by_cases c4 : x = 4
  · subst c4
    rw [if_pos rfl] at HR
    go_enter Tryz.func20, Tryz.ntmps20
    go_wp2_with (go_at_call 38; refine H4.out.mono ?_; rintro e w1 ho; have hp := ho; obtain ⟨v, F', rfl, _⟩ := ho; have H9 := Lib.hid hp; clear hp)
    exact HR.out _ _ (H9.out.from HSt.out)
  rw [if_neg c4] at HR
  by_cases c5 : x = 5
  · subst c5
    rw [if_pos rfl] at HR
    go_enter Tryz.func20, Tryz.ntmps20
    go_wp2_with (go_at_call 27; refine H5.out.mono ?_; intro e w9 ho; obtain ⟨v9, rfl, hp9⟩ := ho.toP2 HSt.out; have H9 := Lib.hid hp9; clear hp9 ho)
    exact HR.out _ _ H9.out
  rw [if_neg c5] at HR
  have e0 : (x == 0) = false := by simpa using c0
  have e1 : (x == 1) = false := by simpa using c1
  have e2 : (x == 2) = false := by simpa using c2
  have e3 : (x == 3) = false := by simpa using c3
  have e4 : (x == 4) = false := by simpa using c4
  have e5 : (x == 5) = false := by simpa using c5
  clear c0 c1 c2 c3 c4 c5
  go_enter Tryz.func20, Tryz.ntmps20
  go_wp2_with fail
  exact HR.out _ _ (OpP.none HQ.out HSt.out)
end Go.Proofs.YtcgcljmnnjalpaaGreat
set_option linter.unusedVariables false
set_option linter.unusedSimpArgs false
namespace Go.Proofs.YtcgcljmnnjalpaaGreat
open Go.RowKit Go.Kx
open Go.ChangeMaps (setBlock)
theorem hasI_any {w : World} {A : Option Addr} {cap : Nat} {l : List Int} (x : Int) (h : IntsAt w A l) (hl : l.length ≤ 1000000) : Calls Tryz.prog 24 #[.slice A l.length cap, .int .i64 x] w fun e w' => e = .returned (.bool (decide (x ∈ l))) ∧ w = w' := by
  refine cph fun R HR => ?_
  have H := Lib.hid h
  clear h
  go_enter Tryz.func24, Tryz.ntmps24
  go_wp2_with fail
  go_loop [5] (fun i => ∃ k : Nat, k ≤ l.length ∧ i = .int .i64 k ∧ Hid (x ∉ l.take k)) (fun i => l.length - (intOf i).toNat)
  case atStart => exact ⟨0, Nat.zero_le _, rfl, by simp [Lib.hid, Hid]⟩
  case round =>
    obtain ⟨k, hk, rfl, HK⟩ := hrel
    by_cases hlt : k < l.length
    · obtain ⟨b, off, rfl, hc⟩ := H.out.at_ hlt
      have hki : (k : Int) < (l.length : Int) := by omega
      obtain ⟨y, hy⟩ : ∃ y, y = l[k] := ⟨_, rfl⟩
      rw [← hy] at hc
      have HY := Lib.hid hy
      clear hy
      by_cases hxy : y = x
      · subst hxy
        have hm : decide (y ∈ l) = true := decide_eq_true (by rw [HY.out]; exact List.getElem_mem _)
        rw [hm] at HR
        clear hm
        go_wp2_with fail
        exact HR.out _ _ ⟨rfl, rfl⟩
      · have HX := Lib.hid hxy
        have e1 : (y == x) = false := by simpa using hxy
        clear hxy
        go_wp2_with fail
        go_round
        case rel => exact ⟨k + 1, by omega, by go_num, by
          rw [List.take_succ_eq_append_getElem hlt]
          intro hm
          rcases List.mem_append.1 hm with h | h
          · exact HK.out h
          · exact HX.out (by rw [HY.out]; exact (List.mem_singleton.1 h).symm)⟩
        case measure => simp [intOf] <;> omega
    · have hki : ¬ (k : Int) < (l.length : Int) := by omega
      have hm : decide (x ∈ l) = false := decide_eq_false fun h => HK.out (by rw [List.take_of_length_le (by omega)]; exact h)
      rw [hm] at HR
      clear hm
      go_wp2_with fail
      exact HR.out _ _ ⟨rfl, rfl⟩
set_option maxHeartbeats 1000000 in
theorem sameI_any {w : World} {A B : Option Addr} {ca cb : Nat} {l m : List Int} (h : IntsAt w A l) (h2 : IntsAt w B m) (hl : l.length ≤ 1000000) (hm : m.length ≤ 1000000) : Calls Tryz.prog 16 #[.slice A l.length ca, .slice B m.length cb] w fun e w' => e = .returned (.bool (decide (l = m))) ∧ Grow w w' := by
  refine cph fun R HR => ?_
  have H := Lib.hid (And.intro h h2)
  clear h h2
  by_cases hlen : l.length = m.length
  · go_enter Tryz.func16, Tryz.ntmps16
    go_wp2_with fail
    go_loopw [5] (fun i wr => ∃ k : Nat, k ≤ l.length ∧ i = .int .i64 k ∧ Hid (l.take k = m.take k ∧ Grow w wr)) (fun i _ => l.length - (intOf i).toNat)
    case atStart => exact ⟨0, Nat.zero_le _, rfl, by simp, Grow.refl _⟩
    case round =>
      obtain ⟨k, hk, rfl, HK⟩ := hrel
      by_cases hlt : k < l.length
      · obtain ⟨b, off, rfl, hc⟩ := H.out.1.at_ hlt
        have hlt2 : k < m.length := by omega
        obtain ⟨b2, off2, rfl, hc2⟩ := H.out.2.at_ hlt2
        have hki : (k : Int) < (l.length : Int) := by omega
        have hki2 : (k : Int) < (m.length : Int) := by omega
        have hc' := HK.out.2.cell hc
        have hc2' := HK.out.2.cell hc2
        obtain ⟨y, hy⟩ : ∃ y, y = l[k] := ⟨_, rfl⟩
        obtain ⟨z, hz⟩ : ∃ z, z = m[k] := ⟨_, rfl⟩
        rw [← hy] at hc'
        rw [← hz] at hc2'
        have HY := Lib.hid (And.intro hy hz)
        clear hy hz hc hc2
        go_upto_region 6 with fail
        go_quiet (fail)
        by_cases hxy : y = z
        · subst hxy
          go_wp2_with fail
          go_roundw
          case rel => exact ⟨k + 1, by omega, by go_num, by rw [List.take_succ_eq_append_getElem hlt, List.take_succ_eq_append_getElem hlt2, HK.out.1, ← HY.out.1, ← HY.out.2], HK.out.2.drewN nq⟩
          case measure => simp [intOf] <;> omega
        · have hm : decide (l = m) = false := decide_eq_false fun e => hxy (by
            rw [HY.out.1, HY.out.2]
            simp [e])
          rw [hm] at HR
          have e1 : (y == z) = false := by simpa using hxy
          have e2 : (y != z) = true := by simpa using hxy
          clear hm hxy
          go_wp2_with fail
          exact HR.out _ _ ⟨rfl, HK.out.2.drewN nq⟩
      · have hki : ¬ (k : Int) < (l.length : Int) := by omega
        have hm : decide (l = m) = true := decide_eq_true (by
          have := HK.out.1
          rwa [List.take_of_length_le (by omega), List.take_of_length_le (by omega)] at this)
        rw [hm] at HR
        clear hm
        go_wp2_with fail
        exact HR.out _ _ ⟨rfl, HK.out.2⟩
  · have hm : decide (l = m) = false := decide_eq_false fun e => hlen (by rw [e])
    rw [hm] at HR
    have e1 : ((l.length : Int) == (m.length : Int)) = false := by simp; omega
    have e2 : ((l.length : Int) != (m.length : Int)) = true := by simp; omega
    clear hm
    go_enter Tryz.func16, Tryz.ntmps16
    go_wp2_with fail
    exact HR.out _ _ ⟨rfl, Grow.refl _⟩
/-- A kind of a raw number. -/
def kind6 (n : Int) : Int := wrap64 ((IntKind.u64.wrap n).tmod 6)
theorem kind6_le (n : Int) : 0 ≤ kind6 n ∧ kind6 n ≤ 5 := by
  have h0 : 0 ≤ IntKind.u64.wrap n := by simp [IntKind.wrap, IntKind.bits, IntKind.signed]; omega
  have h1 : 0 ≤ (IntKind.u64.wrap n).tmod 6 ∧ (IntKind.u64.wrap n).tmod 6 ≤ 5 := by
    rw [Int.tmod_eq_emod_of_nonneg h0]
    omega
  unfold kind6 wrap64
  omega
theorem kindOf_any (n : Int) (w : World) : Calls Tryz.prog 28 #[.int .i64 n] w fun e w' => e = .returned (.int .i64 (kind6 n)) ∧ w = w' := by
  refine cph fun R HR => ?_
  unfold kind6 at HR
  go_enter Tryz.func28, Tryz.ntmps28
  go_wp2_with fail
  exact HR.out _ _ ⟨rfl, rfl⟩
/-- Deeds in memory. -/
def DdAt (w : World) (A : Option Addr) (l : List Dd) : Prop := l = [] ∨ ∃ b off, A = some ⟨b, off, none⟩ ∧ ∀ j d, l[j]? = some d → w.cell? ⟨b, off + j * 4, none⟩ = some (.int .i64 d.do_) ∧ w.cell? ⟨b, off + j * 4 + 1, none⟩ = some (.int .i64 d.th) ∧ w.cell? ⟨b, off + j * 4 + 2, none⟩ = some (.int .i64 d.ho) ∧ w.cell? ⟨b, off + j * 4 + 3, none⟩ = some (.int .i64 d.ad)
theorem DdAt.fr {w w' : World} {A : Option Addr} {l : List Dd} {S : FP} (h : DdAt w A l) (hf : Fr S w w') (hS : ∀ k, S k → w.heap.size ≤ k) : DdAt w' A l := by
  rcases h with h | ⟨b, off, h1, h2⟩
  · exact .inl h
  · have hc : ∀ {o : Nat} {v : Value}, w.cell? ⟨b, o, none⟩ = some v → w'.cell? ⟨b, o, none⟩ = some v := fun {o v} hv => by
      have hl := World.block_lt_of_cell? w _ hv
      exact (World.cell?_of_block (w := w) (hf.blk _ hl (fun e => by have := hS _ e; omega))).trans hv
    exact .inr ⟨b, off, h1, fun j d hd => by
      obtain ⟨q0, q1, q2, q3⟩ := h2 j d hd
      exact ⟨hc q0, hc q1, hc q2, hc q3⟩⟩
/-- The state behind some deeds. -/
def runS (s : RS) (l : List Dd) : RS := l.foldl (fun s d => (doS s d).st) s
theorem runS_succ {s : RS} {l : List Dd} {k : Nat} {d : Dd} (h : l[k]? = some d) : runS s (l.take (k + 1)) = (doS (runS s (l.take k)) d).st := by
  unfold runS
  rw [List.take_add_one, h, List.foldl_append]
  rfl
theorem do_n (s : RS) (d : Dd) : (doS s d).st.n = s.n := by
  have ht : ∀ s, (tryS s).st.n = s.n := fun s => by unfold tryS; split <;> rfl
  have hq : ∀ (l : List (RS → RO)) (s : RS), (∀ f ∈ l, ∀ s, (f s).st.n = s.n) → (seqS s l).st.n = s.n := by
    intro l
    induction l with
    | nil => intro s _; rfl
    | cons f l ih =>
      intro s h
      show (seqS (f s).st l).st.n = s.n
      rw [ih _ fun g hg => h g (by simp [hg]), h f (by simp)]
  unfold doS
  split
  · unfold inS; split <;> rfl
  split
  · unfold outS; split <;> (try split) <;> rfl
  split
  · unfold holdS; split <;> (try split) <;> (try split) <;> rfl
  split
  · unfold bornS; split <;> (try split) <;> rfl
  split
  · unfold retS
    split
    · split
      · rfl
      · split
        · split <;> rfl
        · split
          · rw [ht]; rfl
          · rfl
    · rfl
  split
  · unfold restS
    dsimp only
    split
    · exact hq _ _ fun f hf s => by obtain ⟨t, _, rfl⟩ := List.mem_map.1 hf; rfl
    · split
      · exact hq _ _ fun f hf s => by rw [show f = tryS by simpa using hf]; exact ht s
      · rfl
  · rfl
theorem do_kind (s : RS) (d : Dd) : (doS s d).st.kind = s.kind := by
  unfold doS
  split
  · exact in_kind _ _
  split
  · exact out_kind _ _
  split
  · exact hold_kind _ _ _ _
  split
  · exact born_kind _ _
  split
  · exact ret_kind _ _ _
  split
  · exact rest_kind _
  · rfl
/-- How much m deeds can lay up. -/
def Few (m : Nat) (s : RS) : Prop := s.items.length ≤ m ∧ s.now ≤ 4 * m ∧ s.n ≤ 4
theorem Few.do {m : Nat} {s : RS} (h : Few m s) (d : Dd) : Few (m + 1) (doS s d).st := by
  have h1 := do_sz s h.2.2 d
  have h2 := do_n s d
  obtain ⟨a, b, c⟩ := h
  exact ⟨by omega, by push_cast; omega, by rw [h2]; exact c⟩
theorem Few.small {m : Nat} {s : RS} (h : Few m s) (hm : m ≤ 1000) : Small s := ⟨by have := h.1; omega, by have := h.2.1; omega⟩
theorem Few.mono {m m' : Nat} {s : RS} (h : Few m s) (hm : m ≤ m') : Few m' s := ⟨by have := h.1; omega, by have := h.2.1; omega, h.2.2⟩
theorem Few.run {m : Nat} {s : RS} (h : Few m s) : ∀ l : List Dd, Few (m + l.length) (runS s l) := by
  intro l
  induction l generalizing m s with
  | nil => exact h
  | cons d l ih =>
    have := ih (h.do d)
    rw [List.length_cons]
    exact this.mono (by omega)
theorem few_new (k : Int) {n : Nat} (h : n ≤ 4) : Few 0 (newS k n) := ⟨Nat.le_refl _, by simp [newS], h⟩
end Go.Proofs.YtcgcljmnnjalpaaGreat
