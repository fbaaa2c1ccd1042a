/- The hazard manager: Rest. -/
import Derived.Test.YtcgcljmnnjalpaaGreatGfN
set_option linter.unusedVariables false
set_option linter.unusedSimpArgs false
namespace Go.Proofs.YtcgcljmnnjalpaaGreat
open Go.RowKit Go.Kx
open Go.ChangeMaps (setBlock)
theorem ints_nil {w : World} {A : Option Addr} {l : List Int} (h : IntsAt w A l) (e : A = none) : l.length = 0 := by
  rcases h with rfl | ⟨b, off, h1, _⟩
  · rfl
  · rw [e] at h1; cases h1
theorem seqS_snoc (f : RS → RO) : ∀ (l : List (RS → RO)) (s : RS), seqS s (l ++ [f]) = ⟨(f (seqS s l).st).st, (seqS s l).back ++ (f (seqS s l).st).back, 0⟩
  | [], s => by simp [seqS]
  | g :: l, s => by
    have := seqS_snoc f l (g s).st
    simp only [List.cons_append, seqS, this, List.append_assoc]
/-- The first k lists scanned. -/
def scanK (s : RS) (k : Nat) : RO := seqS s ((List.range k).map fun (t : Nat) (s : RS) => sweepS s (fun x => x.thr == (t : Int)))
theorem scanK_succ (s : RS) (k : Nat) : scanK s (k + 1) = ⟨(sweepS (scanK s k).st (fun x => x.thr == (k : Int))).st, (scanK s k).back ++ (sweepS (scanK s k).st (fun x => x.thr == (k : Int))).back, 0⟩ := by
  unfold scanK
  rw [List.range_succ, List.map_append]
  exact seqS_snoc _ _ _
theorem scanK_len (s : RS) (k : Nat) : (scanK s k).back.length + (scanK s k).st.items.length = s.items.length := by
  induction k with
  | zero => simp [scanK, seqS]
  | succ k ih =>
    rw [scanK_succ]
    have := sweep_len (scanK s k).st (fun x => x.thr == (k : Int))
    simp only [List.length_append]
    omega
theorem restZ {s : RS} (h : s.kind = 1) : restS s = scanK s s.n := by
  unfold restS scanK
  rw [if_pos h]
theorem scanK_err (s : RS) (k : Nat) : (scanK s k).err = 0 := by
  cases k with
  | zero => rfl
  | succ k => rw [scanK_succ]
set_option maxRecDepth 100000 in
set_option maxHeartbeats 4000000 in
theorem hzRest {b : Nat} {w : World} {F : FP} {s : RS} (h : HZ b w F s) (hs : s.items.length ≤ 100000) : Calls Tryz.prog 57 #[.pointer (some ⟨b, 0, none⟩)] w (OpL (HZ b) w F (restS s)) := by
  refine cph fun R HR => ?_
  have hQ : HZ b w F s := h
  have HQ := Lib.hid hQ
  obtain ⟨H, v, hv⟩ := h
  rw [restZ hv.kind] at HR
  have e0 := (blk_cell hv.blk 0).trans (rfl : _ = some (Value.slice (some ⟨H, 0, none⟩) s.n s.n))
  have hn4 : s.n ≤ 4 := hv.ok.n4
  have HLN := Lib.hid (scanK_len s)
  obtain ⟨i0, hi, hz0, hz1, hz2⟩ := info_parts info3x
  have HI := Lib.hid (And.intro hi (And.intro hz0 (And.intro hz1 hz2)))
  clear hv hQ hi hz0 hz1 hz2
  go_enter Tryz.func57, Tryz.ntmps57
  go_wp2_with fail
  go_loopw [3, 12] (fun u i wr => ∃ k : Nat, k ≤ s.n ∧ i = .int .i64 k ∧ Hid (wr.ownsRow w.heap.size 3 1 u (scanK s k).back.length ((scanK s k).back.map (Value.int .i64)) ∧ ∃ Fk, HZ b wr Fk (scanK s k).st ∧ Step F w Fk wr ∧ ∀ j, u.ownBlock = some j → ¬ Fk j)) (fun _ i _ => s.n - (intOf i).toNat)
  case atStart => exact ⟨0, by omega, rfl, World.ownsRow_nil _ _ _ _, F, HQ.out, Step.refl _ _, fun j hj => by simp [Value.ownBlock] at hj⟩
  case round =>
    obtain ⟨k, hk, rfl, HO⟩ := hrel
    by_cases hlt : k < s.n
    · have hki : (k : Int) < (s.n : Int) := by omega
      obtain ⟨ho, Fk, hz, hst, hd⟩ := HO.out
      have hl := HLN.out k
      have hl2 := HLN.out (k + 1)
      have hS := Lib.hid (hzScan hz (by omega) (k : Int))
      have hsk := scanK_succ s k
      rw [hsk] at hl2
      simp only [List.length_append] at hl2
      have HK := Lib.hid hsk
      have H1 := Lib.hid (And.intro ho (And.intro hst hd))
      have hgs := hst.fr.size
      clear ho hz hst hd hsk
      generalize hr : sweepS (scanK s k).st (fun x => x.thr == (k : Int)) = r at hS HK hl2
      clear hr
      go_wp2_with (first | (go_at_call 104; refine hS.out.mono ?_; rintro e w2 ⟨v2, F2, rfl, o2, a2, st2, n2⟩; have k1 := own_keep H1.out.1 H1.out.2.2 st2; obtain ⟨A2, c2, hv2, i2, z2, _⟩ := ints_of_own o2; subst hv2; have hsz2 := st2.fr.size; have H2 := Lib.hid (And.intro k1.1 (And.intro k1.2 (And.intro (ints_news i2) (And.intro a2 (H1.out.2.1.trans st2))))); have HZn : Hid (A2 = none → r.back.length = 0 ∧ c2 = 0) := fun e => ⟨ints_nil i2 e, z2 e⟩; clear k1 o2 i2 z2 a2 st2 n2) | (at_builtin; refine wpList_append_any _ rfl (.tmp 15) (.tmp 18) 34 rfl w.heap.size 3 i0 (.int .i64 0) 1 8 Tryz.underlying34 HI.out.1 HI.out.2.1 HI.out.2.2.1 HI.out.2.2.2 rfl (by decide) u3 (scanK s k).back.length ((scanK s k).back.map (Value.int .i64)) rfl H2.out.1 A2 r.back.length c2 (r.back.map (Value.int .i64)) rfl (by simp) HZn.out H2.out.2.2.1 (by intro u hu; obtain ⟨x, _, rfl⟩ := List.mem_map.1 hu; rfl) (by unfold maxLen; omega) (by omega) (by omega) ?_))
      intro v' w3 hown hgrow _ hat
      have H7 : Hid (w3.ownsRow w.heap.size 3 1 v' (scanK s (k + 1)).back.length ((scanK s (k + 1)).back.map (Value.int .i64)) ∧ ∃ Fk, HZ b w3 Fk (scanK s (k + 1)).st ∧ Step F w Fk w3 ∧ ∀ j, v'.ownBlock = some j → ¬ Fk j) := by
        rw [HK.out]
        refine ⟨by simpa using hown, F2, (HZ.local b).fr H2.out.2.2.2.1 (G := fun j => u3.ownBlock = some j) (fr_grown hgrow) (fun j hf e => H2.out.2.1 j e hf), ⟨Fr.grown H2.out.2.2.2.2.fr hgrow (fun j hj => .inl (H2.out.1.lt j hj).1), H2.out.2.2.2.2.sub⟩, fun j hj hf => ?_⟩
        rcases hat with e | e
        · exact H2.out.2.1 j (e ▸ hj) hf
        · rw [e] at hj
          have := (HZ.local b).lt H2.out.2.2.2.1 j hf
          simp at hj
          omega
      clear hown hgrow hat
      go_wp2_with fail
      go_roundw
      case rel => exact ⟨k + 1, by omega, by go_num, H7.out⟩
      case measure => simp [intOf] <;> omega
    · obtain rfl : k = s.n := by omega
      have hki : ¬ (s.n : Int) < (s.n : Int) := by omega
      go_wp2_with fail
      obtain ⟨ho, Fk, hz, hst, hd⟩ := HO.out
      exact HR.out _ _ ⟨_, Fk, rfl, ho, hz, hst, hd⟩
end Go.Proofs.YtcgcljmnnjalpaaGreat
