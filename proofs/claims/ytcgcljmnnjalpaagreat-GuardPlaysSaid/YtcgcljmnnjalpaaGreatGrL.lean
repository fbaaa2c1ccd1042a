/- The reference's manager: Rest. -/
import Derived.Test.YtcgcljmnnjalpaaGreatGrK
set_option linter.unusedVariables false
set_option linter.unusedSimpArgs false
namespace Go.Proofs.YtcgcljmnnjalpaaGreat
open Go.RowKit Go.Kx
open Go.ChangeMaps (setBlock)
def tryK (s : RS) (k : Nat) : RO := seqS s ((List.range k).map fun _ => tryS)
theorem tryK_succ (s : RS) (k : Nat) : tryK s (k + 1) = ⟨(tryS (tryK s k).st).st, (tryK s k).back ++ (tryS (tryK s k).st).back, 0⟩ := by
  unfold tryK
  rw [List.range_succ, List.map_append]
  exact seqS_snoc _ _ _
theorem restT {s : RS} (h : s.kind = 2) : restS s = tryK s 3 := by
  unfold restS tryK
  rw [if_neg (by omega), if_pos h]
  rfl
theorem tryK_sz (s : RS) (k : Nat) : (tryK s k).back.length + (tryK s k).st.items.length = s.items.length ∧ (tryK s k).st.now ≤ s.now + k := by
  induction k with
  | zero => exact ⟨by simp [tryK, seqS], by simp [tryK, seqS]⟩
  | succ k ih =>
    rw [tryK_succ]
    have h1 := tryS_len (tryK s k).st
    have h2 := (tryS_now (tryK s k).st).1
    simp only [List.length_append]
    omega
theorem scanK_now (s : RS) (k : Nat) : (scanK s k).st.now = s.now := by
  induction k with
  | zero => rfl
  | succ k ih => rw [scanK_succ]; exact ih
set_option maxRecDepth 100000 in
set_option maxHeartbeats 4000000 in
theorem rRest {b : Nat} {w : World} {F : FP} {s : RS} (h : RM b w F s) (hs : s.items.length ≤ 100000) (hs2 : s.now ≤ 1000000) : Calls Tryz.prog 99 #[.pointer (some ⟨b, 0, none⟩)] w (OpL (RM b) w F (restS s)) := by
  refine cph fun R HR => ?_
  have HQ := Lib.hid h
  have c0 := h.cellI
  have c1 := h.cellK
  have hn4 : s.n ≤ 4 := h.ok.n4
  have hkk := h.kind
  obtain ⟨i0, hi, hz0, hz1, hz2⟩ := info_parts info3x
  have HI := Lib.hid (And.intro hi (And.intro hz0 (And.intro hz1 hz2)))
  clear hi hz0 hz1 hz2
  by_cases hk1 : s.kind = 1
  · rw [restZ hk1] at HR
    rw [hk1] at c1
    have HLN := Lib.hid (scanK_len s)
    clear h hk1
    go_enter Tryz.func99, Tryz.ntmps99
    go_wp2_with fail
    go_loopw [3, 4] (fun u i wr => ∃ k : Nat, k ≤ s.n ∧ i = .int .i64 k ∧ Hid (wr.ownsRow w.heap.size 3 1 u (scanK s k).back.length ((scanK s k).back.map (Value.int .i64)) ∧ ∃ Fk, RM b wr Fk (scanK s k).st ∧ Step F w Fk wr ∧ ∀ j, u.ownBlock = some j → ¬ Fk j)) (fun _ i _ => s.n - (intOf i).toNat)
    case atStart => exact ⟨0, by omega, rfl, World.ownsRow_nil _ _ _ _, F, HQ.out, Step.refl _ _, fun j hj => by simp [Value.ownBlock] at hj⟩
    case round =>
      obtain ⟨k, hk, rfl, HO⟩ := hrel
      obtain ⟨ho, Fk, hz, hst, hd⟩ := HO.out
      have n2 := hz.cellN
      rw [scanK_n] at n2
      by_cases hlt : k < s.n
      · have hki : (k : Int) < (s.n : Int) := by omega
        have hl := HLN.out k
        have hl2 := HLN.out (k + 1)
        have hS := Lib.hid (rSweepOf hz (by omega) (by rw [scanK_now]; omega) (k : Int) (by omega))
        have hsk := scanK_succ s k
        rw [hsk] at hl2
        simp only [List.length_append] at hl2
        have HK := Lib.hid hsk
        have H1 := Lib.hid (And.intro ho (And.intro hst hd))
        have hgs := hst.fr.size
        clear ho hz hst hd hsk
        generalize hr : sweepS (scanK s k).st (fun x => x.thr == (k : Int)) = r at hS HK hl2
        clear hr
        go_wp2_with (first | (go_at_call 123; refine hS.out.mono ?_; rintro e w2 ⟨v2, F2, rfl, o2, a2, st2, n2⟩; have k1 := own_keep H1.out.1 H1.out.2.2 st2; obtain ⟨A2, c2, hv2, i2, z2, _⟩ := ints_of_own o2; subst hv2; have hsz2 := st2.fr.size; have H2 := Lib.hid (And.intro k1.1 (And.intro k1.2 (And.intro (ints_news i2) (And.intro a2 (H1.out.2.1.trans st2))))); have HZn : Hid (A2 = none → r.back.length = 0 ∧ c2 = 0) := fun e => ⟨ints_nil i2 e, z2 e⟩; clear k1 o2 i2 z2 a2 st2 n2) | (at_builtin; refine wpList_append_any _ rfl (.tmp 30) (.tmp 31) 34 rfl w.heap.size 3 i0 (.int .i64 0) 1 8 Tryz.underlying34 HI.out.1 HI.out.2.1 HI.out.2.2.1 HI.out.2.2.2 rfl (by decide) u3 (scanK s k).back.length ((scanK s k).back.map (Value.int .i64)) rfl H2.out.1 A2 r.back.length c2 (r.back.map (Value.int .i64)) rfl (by simp) HZn.out H2.out.2.2.1 (by intro u hu; obtain ⟨x, _, rfl⟩ := List.mem_map.1 hu; rfl) (by unfold maxLen; omega) (by omega) (by omega) ?_))
        intro v' w3 hown hgrow _ hat
        have H7 : Hid (w3.ownsRow w.heap.size 3 1 v' (scanK s (k + 1)).back.length ((scanK s (k + 1)).back.map (Value.int .i64)) ∧ ∃ Fk, RM b w3 Fk (scanK s (k + 1)).st ∧ Step F w Fk w3 ∧ ∀ j, v'.ownBlock = some j → ¬ Fk j) := by
          rw [HK.out]
          refine ⟨by simpa using hown, F2, (RM.local b).fr H2.out.2.2.2.1 (G := fun j => u3.ownBlock = some j) (fr_grown hgrow) (fun j hf e => H2.out.2.1 j e hf), ⟨Fr.grown H2.out.2.2.2.2.fr hgrow (fun j hj => .inl (H2.out.1.lt j hj).1), H2.out.2.2.2.2.sub⟩, fun j hj hf => ?_⟩
          rcases hat with e | e
          · exact H2.out.2.1 j (e ▸ hj) hf
          · rw [e] at hj
            have := (RM.local b).lt H2.out.2.2.2.1 j hf
            simp at hj
            omega
        clear hown hgrow hat
        go_wp2_with fail
        go_roundw
        case rel => exact ⟨k + 1, by omega, by go_num, H7.out⟩
        case measure => simp [intOf] <;> omega
      · obtain rfl : k = s.n := by omega
        have hki : ¬ (s.n : Int) < (s.n : Int) := by omega
        clear ho hz hst hd
        go_wp2_with fail
        obtain ⟨ho, Fk, hz, hst, hd⟩ := HO.out
        exact HR.out _ _ ⟨_, Fk, rfl, ho, hz, hst, hd⟩
  · by_cases hk2 : s.kind = 2
    · rw [restT hk2] at HR
      rw [hk2] at c1
      have HLN := Lib.hid (tryK_sz s)
      clear h hk1 hk2
      go_enter Tryz.func99, Tryz.ntmps99
      go_wp2_with fail
      go_loopw [3, 6] (fun u i wr => ∃ k : Nat, k ≤ 3 ∧ i = .int .i64 k ∧ Hid (wr.ownsRow w.heap.size 3 1 u (tryK s k).back.length ((tryK s k).back.map (Value.int .i64)) ∧ ∃ Fk, RM b wr Fk (tryK s k).st ∧ Step F w Fk wr ∧ ∀ j, u.ownBlock = some j → ¬ Fk j)) (fun _ i _ => 3 - (intOf i).toNat)
      case atStart => exact ⟨0, by omega, rfl, World.ownsRow_nil _ _ _ _, F, HQ.out, Step.refl _ _, fun j hj => by simp [Value.ownBlock] at hj⟩
      case round =>
        obtain ⟨k, hk, rfl, HO⟩ := hrel
        by_cases hlt : k < 3
        · have hki : (k : Int) < 3 := by omega
          obtain ⟨ho, Fk, hz, hst, hd⟩ := HO.out
          have hl := HLN.out k
          have hl2 := (HLN.out (k + 1)).1
          have hS := Lib.hid (rTry hz (by omega) (by omega))
          have hsk := tryK_succ s k
          rw [hsk] at hl2
          simp only [List.length_append] at hl2
          have HK := Lib.hid hsk
          have H1 := Lib.hid (And.intro ho (And.intro hst hd))
          have hgs := hst.fr.size
          clear ho hz hst hd hsk
          generalize hr : tryS (tryK s k).st = r at hS HK hl2
          clear hr
          go_wp2_with (first | (go_at_call 127; refine hS.out.mono ?_; rintro e w2 ⟨v2, F2, rfl, o2, a2, st2, n2⟩; have k1 := own_keep H1.out.1 H1.out.2.2 st2; obtain ⟨A2, c2, hv2, i2, z2, _⟩ := ints_of_own o2; subst hv2; have hsz2 := st2.fr.size; have H2 := Lib.hid (And.intro k1.1 (And.intro k1.2 (And.intro (ints_news i2) (And.intro a2 (H1.out.2.1.trans st2))))); have HZn : Hid (A2 = none → r.back.length = 0 ∧ c2 = 0) := fun e => ⟨ints_nil i2 e, z2 e⟩; clear k1 o2 i2 z2 a2 st2 n2) | (at_builtin; refine wpList_append_any _ rfl (.tmp 42) (.tmp 43) 34 rfl w.heap.size 3 i0 (.int .i64 0) 1 8 Tryz.underlying34 HI.out.1 HI.out.2.1 HI.out.2.2.1 HI.out.2.2.2 rfl (by decide) u3 (tryK s k).back.length ((tryK s k).back.map (Value.int .i64)) rfl H2.out.1 A2 r.back.length c2 (r.back.map (Value.int .i64)) rfl (by simp) HZn.out H2.out.2.2.1 (by intro u hu; obtain ⟨x, _, rfl⟩ := List.mem_map.1 hu; rfl) (by unfold maxLen; omega) (by omega) (by omega) ?_))
          intro v' w3 hown hgrow _ hat
          have H7 : Hid (w3.ownsRow w.heap.size 3 1 v' (tryK s (k + 1)).back.length ((tryK s (k + 1)).back.map (Value.int .i64)) ∧ ∃ Fk, RM b w3 Fk (tryK s (k + 1)).st ∧ Step F w Fk w3 ∧ ∀ j, v'.ownBlock = some j → ¬ Fk j) := by
            rw [HK.out]
            refine ⟨by simpa using hown, F2, (RM.local b).fr H2.out.2.2.2.1 (G := fun j => u3.ownBlock = some j) (fr_grown hgrow) (fun j hf e => H2.out.2.1 j e hf), ⟨Fr.grown H2.out.2.2.2.2.fr hgrow (fun j hj => .inl (H2.out.1.lt j hj).1), H2.out.2.2.2.2.sub⟩, fun j hj hf => ?_⟩
            rcases hat with e | e
            · exact H2.out.2.1 j (e ▸ hj) hf
            · rw [e] at hj
              have := (RM.local b).lt H2.out.2.2.2.1 j hf
              simp at hj
              omega
          clear hown hgrow hat
          go_wp2_with fail
          go_roundw
          case rel => exact ⟨k + 1, by omega, by go_num, H7.out⟩
          case measure => simp [intOf] <;> omega
        · obtain rfl : k = 3 := by omega
          go_wp2_with fail
          obtain ⟨ho, Fk, hz, hst, hd⟩ := HO.out
          exact HR.out _ _ ⟨_, Fk, rfl, ho, hz, hst, hd⟩
    · have hr : restS s = sweepS s (fun _ => true) := by unfold restS; rw [if_neg hk1, if_neg hk2]
      rw [hr] at HR
      have HSw := Lib.hid (rSweepAll h (by omega) (by omega))
      have e1 : (s.kind == 1) = false := by simp [hk1]
      have e2 : (s.kind == 2) = false := by simp [hk2]
      clear h hr hk1 hk2
      go_enter Tryz.func99, Tryz.ntmps99
      go_wp2_with (go_at_call 123; refine HSw.out.mono ?_; intro e w9 ho; obtain ⟨v9, F9, rfl, hp9⟩ := ho; have H9 := Lib.hid hp9; clear hp9)
      exact HR.out _ _ ⟨v9, F9, rfl, H9.out⟩
end Go.Proofs.YtcgcljmnnjalpaaGreat
