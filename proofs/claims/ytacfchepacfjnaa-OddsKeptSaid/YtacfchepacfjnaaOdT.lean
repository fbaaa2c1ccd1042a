/- Counts made of raw numbers; the reference's Mod; Spread. -/
import Derived.Test.YtacfchepacfjnaaOdQ
import Derived.Test.YtacfchepacfjnaaOdS
import Derived.Deep.RegionHeld3
set_option linter.unusedVariables false
set_option linter.unusedSimpArgs false
namespace Go.Proofs.Ytacfchepacfjnaa
open Go.RowKit Go.Kx Go.Maps Go.Sort Go.Shelf
def cnt7 (x : Int) : Int := wrap64 ((IntKind.u64.wrap x).tmod 7)
def cntOf (raw : List Int) : List Int := if tot ((raw.take 4).map cnt7) = 0 then [2, 1] else (raw.take 4).map cnt7
theorem cntOf_pos (raw : List Int) : 0 < tot (cntOf raw) := by
  unfold cntOf
  split
  · decide
  · have := tot_bd ((raw.take 4).map cnt7); omega
theorem last_row {w wr : World} {v : Value} {k : Nat} {l l2 : List Int} (h : wr.ownsRow w.heap.size 3 1 v k (l.map (Value.int .i64))) (e : l = l2) : ∃ A c, v = .slice A l2.length c ∧ IntsAt wr A l2 ∧ wr.ownsRow w.heap.size 3 1 (.slice A l2.length c) l2.length (l2.map (Value.int .i64)) := by
  subst e
  have hl : l.length = k := by have := h.1; simpa using this
  obtain ⟨A, c, rfl, h1, _⟩ := ints_of_own h
  exact ⟨A, c, rfl, h1, by rw [hl] at h ⊢; exact h⟩
set_option maxRecDepth 20000 in
set_option maxHeartbeats 2000000 in
theorem countsOf_any {w : World} {A : Option Addr} {cap : Nat} {raw : List Int} (h : IntsAt w A raw) : Calls Try.prog 29 #[.slice A raw.length cap] w (Made w (cntOf raw)) := by
  refine cph fun R HR => ?_
  have H := Lib.hid h
  clear h
  obtain ⟨i0, hi, hz0, hz1, hz2⟩ := info_parts info3x
  have HI := Lib.hid (And.intro hi (And.intro hz0 (And.intro hz1 hz2)))
  clear hi hz0 hz1 hz2
  go_enter Try.func29, Try.ntmps29
  go_wp2_with fail
  go_loopw [3, 4] (fun v i wr => ∃ k : Nat, k ≤ raw.length ∧ k ≤ 4 ∧ i = .int .i64 k ∧ Hid (wr.ownsRow w.heap.size 3 1 v k (((raw.take k).map cnt7).map (Value.int .i64)) ∧ Grow w wr)) (fun _ i _ => 4 - (intOf i).toNat)
  case atStart => exact ⟨0, Nat.zero_le _, by omega, rfl, by simpa using World.ownsRow_nil _ _ _ _, Grow.refl _⟩
  case round =>
    obtain ⟨k, hk, hk4, rfl, HO⟩ := hrel
    by_cases hlt : k < raw.length
    · have hki : (k : Int) < (raw.length : Int) := by omega
      by_cases h4 : k < 4
      · have h4i : (k : Int) < 4 := by omega
        have hgs := HO.out.2.size
        obtain ⟨b, off, rfl, hc⟩ := (H.out.grow HO.out.2).at_ hlt
        have HX := Lib.hid (show (raw.take (k + 1)).map cnt7 = (raw.take k).map cnt7 ++ [cnt7 raw[k]] by rw [List.take_succ_eq_append_getElem hlt, List.map_append]; rfl)
        generalize raw[k] = x at hc HX
        go_wp2_with (at_builtin; refine wpList_append_own_at _ rfl (.tmp 15) (.tmp 23) 22 rfl w.heap.size 3 i0 (.int .i64 0) 1 8 Try.underlying22 HI.out.1 HI.out.2.1 HI.out.2.2.1 HI.out.2.2.2 rfl (by decide) _ _ _ rfl (HO.out.1.alloc _) ⟨wr.heap.size, 0, none⟩ 1 1 [.int .i64 (cnt7 x)] rfl rfl (cell_one_new _ _ _) (by simp [Value.oneCell']) (by unfold maxLen; omega) (by omega) (by rw [World.size_alloc]; omega) ?_; intro v' w1 hown hgrow _ hat; have H7 := Lib.hid (And.intro (show w1.ownsRow w.heap.size 3 1 v' (k + 1) (((raw.take (k + 1)).map cnt7).map (Value.int .i64)) by rw [HX.out, List.map_append]; exact hown) ((HO.out.2.alloc _).grown hgrow (fun j e => (HO.out.1.lt j e).1))); clear hown hgrow hat)
        go_roundw
        case rel => exact ⟨k + 1, by omega, by omega, by go_num, H7.out⟩
        case measure => simp [intOf]; omega
      · have h4i : ¬ (k : Int) < 4 := by omega
        have HT := Lib.hid (show (raw.take k).map cnt7 = (raw.take 4).map cnt7 by rw [show k = 4 by omega])
        have HG := Lib.hid HO.out.2
        obtain ⟨A2, c2, rfl, hi2, hrow2⟩ := last_row HO.out.1 HT.out
        have HT2 := Lib.hid (total_any (cap := c2) hi2)
        have H2 := Lib.hid hrow2
        clear hi2 hrow2 HO
        have HC := Lib.hid (show cntOf raw = if tot ((raw.take 4).map cnt7) = 0 then [2, 1] else (raw.take 4).map cnt7 from rfl)
        clear HT
        generalize (raw.take 4).map cnt7 = L at HT2 H2 HC
        by_cases hz : tot L = 0
        · rw [hz] at HT2 HC
          rw [show cntOf raw = [2, 1] from HC.out.trans (if_pos rfl)] at HR
          clear HC hz
          go_wp2_with (go_at_call 17; refine HT2.out.mono ?_; rintro e w' ⟨rfl, rfl⟩)
          exact HR.out _ _ ⟨_, rfl, own_base_le (World.ownsRow_lit wr #[.int .i64 2, .int .i64 1] 2 (Nat.le_refl _) (by unfold maxLen; omega) rfl) HG.out.size, HG.out.alloc _⟩
        · rw [show cntOf raw = L from HC.out.trans (if_neg hz)] at HR
          generalize tot L = T at HT2 hz
          go_wp2_with (go_at_call 17; refine HT2.out.mono ?_; rintro e w' ⟨rfl, rfl⟩)
          exact HR.out _ _ ⟨_, rfl, H2.out, HG.out⟩
    · have hki : ¬ (k : Int) < (raw.length : Int) := by omega
      have HT := Lib.hid (show (raw.take k).map cnt7 = (raw.take 4).map cnt7 by rw [List.take_of_length_le (show raw.length ≤ k by omega), List.take_of_length_le (show raw.length ≤ 4 by omega)])
      have HG := Lib.hid HO.out.2
      obtain ⟨A2, c2, rfl, hi2, hrow2⟩ := last_row HO.out.1 HT.out
      have HT2 := Lib.hid (total_any (cap := c2) hi2)
      have H2 := Lib.hid hrow2
      clear hi2 hrow2 HO
      have HC := Lib.hid (show cntOf raw = if tot ((raw.take 4).map cnt7) = 0 then [2, 1] else (raw.take 4).map cnt7 from rfl)
      clear HT
      generalize (raw.take 4).map cnt7 = L at HT2 H2 HC
      by_cases hz : tot L = 0
      · rw [hz] at HT2 HC
        rw [show cntOf raw = [2, 1] from HC.out.trans (if_pos rfl)] at HR
        clear HC hz
        go_wp2_with (go_at_call 17; refine HT2.out.mono ?_; rintro e w' ⟨rfl, rfl⟩)
        exact HR.out _ _ ⟨_, rfl, own_base_le (World.ownsRow_lit wr #[.int .i64 2, .int .i64 1] 2 (Nat.le_refl _) (by unfold maxLen; omega) rfl) HG.out.size, HG.out.alloc _⟩
      · rw [show cntOf raw = L from HC.out.trans (if_neg hz)] at HR
        generalize tot L = T at HT2 hz
        go_wp2_with (go_at_call 17; refine HT2.out.mono ?_; rintro e w' ⟨rfl, rfl⟩)
        exact HR.out _ _ ⟨_, rfl, H2.out, HG.out⟩
theorem pick_eq (x n : Int) (h : 0 < n) : (x.tmod n + n).tmod n = x % n ∧ -n < x.tmod n ∧ x.tmod n < n := by
  have h1 := Int.lt_tmod_of_pos x h
  have h2 := Int.tmod_lt_of_pos x h
  refine ⟨?_, h1, h2⟩
  rw [Int.tmod_eq_emod_of_nonneg (a := x.tmod n + n) (by omega), Int.add_emod_right]
  have h3 := Int.mul_tdiv_add_tmod x n
  have h4 : (n * x.tdiv n + x.tmod n) % n = x.tmod n % n := by rw [Int.add_comm, Int.add_mul_emod_self_left]
  rw [h3] at h4
  exact h4.symm
theorem mod_eq (x n : Int) (h : 0 < n) : (if x.tmod n < 0 then x.tmod n + n else x.tmod n) = x % n := by
  obtain ⟨h3, h1, h2⟩ := pick_eq x n h
  generalize x.tmod n = r at *
  rw [← h3, Int.tmod_eq_emod_of_nonneg (by omega)]
  split
  · rw [Int.emod_eq_of_lt (by omega) (by omega)]
  · rw [Int.add_emod_right, Int.emod_eq_of_lt (by omega) (by omega)]
def pickN (nums : List Int) (i : Nat) (n : Int) : Int := (nums[i]?.getD 0) % n
set_option maxHeartbeats 1000000 in
theorem number_any {w : World} {Bs : Nat} {A : Option Addr} {cap : Nat} {nums : List Int} (hB : Boxed w Bs 22 (.slice A nums.length cap)) (h : IntsAt w A nums) (i : Nat) (n : Int) (hn : 0 < n) (hn2 : n ≤ 1000) :
    Calls Try.prog 52 #[.int .i64 i, .int .i64 n, .pointer (some ⟨Bs, 0, none⟩)] w fun e w' => e = .returned (.int .i64 (pickN nums i n)) ∧ w = w' := by
  refine cph fun R HR => ?_
  have hc := hB.cell
  by_cases hlt : i < nums.length
  · have hki : ¬ (nums.length : Int) ≤ (i : Int) := by omega
    have hki2 : (i : Int) < (nums.length : Int) := by omega
    obtain ⟨b, off, rfl, hcx⟩ := h.at_ hlt
    have hp : pickN nums i n = nums[i] % n := by unfold pickN; rw [List.getElem?_eq_getElem hlt]; rfl
    rw [hp] at HR
    generalize nums[i] = x at hcx HR
    obtain ⟨e1, e2, e3⟩ := pick_eq x n hn
    have hw : IntKind.i64.wrap (x.tmod n + n) = x.tmod n + n := by rw [IntKind.wrap_i64]; omega
    have hw2 : IntKind.i64.wrap (x.tmod n) = x.tmod n := by rw [IntKind.wrap_i64]; omega
    have hn0 : n ≠ 0 := by omega
    have hx := Int.emod_nonneg x hn0
    have hx2 := Int.emod_lt_of_pos x hn
    have hw3 : IntKind.i64.wrap (x % n) = x % n := by rw [IntKind.wrap_i64]; omega
    clear h hB hp
    go_enter Try.func52, Try.ntmps52
    go_wp2_with fail
    exact HR.out _ _ ⟨rfl, rfl⟩
  · have hki : (nums.length : Int) ≤ (i : Int) := by omega
    have hp : pickN nums i n = 0 := by unfold pickN; rw [List.getElem?_eq_none (by omega)]; simp
    rw [hp] at HR
    clear h hB hp
    go_enter Try.func52, Try.ntmps52
    go_wp2_with fail
    exact HR.out _ _ ⟨rfl, rfl⟩
theorem mod_any (w : World) (x n : Int) (hn : 0 < n) (hn2 : n ≤ 1000) :
    Calls Try.prog 31 #[.int .i64 x, .int .i64 n] w fun e w' => e = .returned (.int .i64 (x % n)) ∧ w = w' := by
  refine cph fun R HR => ?_
  rw [← mod_eq x n hn] at HR
  obtain ⟨e1, e2, e3⟩ := pick_eq x n hn
  have hn0 : n ≠ 0 := by omega
  clear e1
  by_cases hs : x.tmod n < 0
  · rw [if_pos hs] at HR
    go_enter Try.func31, Try.ntmps31
    go_wp2_with fail
    exact HR.out _ _ ⟨rfl, rfl⟩
  · rw [if_neg hs] at HR
    go_enter Try.func31, Try.ntmps31
    go_wp2_with fail
    exact HR.out _ _ ⟨rfl, rfl⟩
def sprP (cs nums : List Int) : List Int := (ords cs.length (numL cs.length))[(pickN nums 0 ((ords cs.length (numL cs.length)).length : Int)).toNat]?.getD []
def sprC (cs nums : List Int) : List Int := [pickN nums 1 (tot cs + 1) - 1, pickN nums 2 (tot cs + 1) - 1]
/-- What Spread leaves. -/
def SprP (w : World) (p c : List Int) (e : Ending) (w' : World) : Prop := ∃ A a B b, e = .returned (.tuple #[.slice A p.length a, .slice B c.length b, .int .i64 0]) ∧ IntsAt w' A p ∧ IntsAt w' B c ∧ Grow w w' ∧ (A = none → a = 0) ∧ (B = none → b = 0)
theorem pickN_bd (nums : List Int) (i : Nat) {n : Int} (h : 0 < n) : 0 ≤ pickN nums i n ∧ pickN nums i n < n := ⟨Int.emod_nonneg _ (by omega), Int.emod_lt_of_pos _ h⟩
theorem ords_pos (m : Nat) (h : m ≤ 4) : 0 < (ords m (numL m)).length := by
  match m, h with
  | 0, _ => decide +kernel
  | 1, _ => decide +kernel
  | 2, _ => decide +kernel
  | 3, _ => decide +kernel
  | 4, _ => decide +kernel
theorem spread_no {w : World} {A B : Option Addr} {ca cb : Nat} {cs nums : List Int} (h1 : IntsAt w A cs) (h : ¬ 0 < tot cs ∨ 20 < nums.length) :
    Calls Try.prog 30 #[.slice A cs.length ca, .slice B nums.length cb] w fun e w' => e = .returned (.tuple #[.slice none 0 0, .slice none 0 0, .int .i64 1]) ∧ Grow w w' := by
  refine cph fun R HR => ?_
  have HV := Lib.hid (fun (w1 : World) (hg : Grow w w1) => valid_any (w := w1) (cap := ca) (h1.grow hg))
  clear h1
  by_cases hv : 0 < tot cs
  · have hd : decide (0 < tot cs) = true := by simp [hv]
    rw [hd] at HV
    have h20 : (20 : Int) < nums.length := by omega
    clear h hd hv
    go_enter Try.func30, Try.ntmps30
    go_wp2_with (go_at_call 16; refine (HV.out _ ((Grow.refl _).alloc _)).mono ?_; rintro e w' ⟨rfl, rfl⟩)
    go_ret3
    exact HR.out _ _ ⟨rfl, (Grow.refl w).alloc _⟩
  · have hd : decide (0 < tot cs) = false := by simpa using hv
    rw [hd] at HV
    clear h hd hv
    go_enter Try.func30, Try.ntmps30
    go_wp2_with (go_at_call 16; refine (HV.out _ ((Grow.refl _).alloc _)).mono ?_; rintro e w' ⟨rfl, rfl⟩)
    go_ret3
    exact HR.out _ _ ⟨rfl, (Grow.refl w).alloc _⟩
set_option maxRecDepth 20000 in
set_option maxHeartbeats 400000 in
theorem spread_yes {w : World} {A B : Option Addr} {ca cb : Nat} {cs nums : List Int} (h1 : IntsAt w A cs) (h2 : IntsAt w B nums) (hv : 0 < tot cs) (h20 : nums.length ≤ 20) :
    Calls Try.prog 30 #[.slice A cs.length ca, .slice B nums.length cb] w (SprP w (sprP cs nums) (sprC cs nums)) := by
  refine cph fun R HR => ?_
  obtain ⟨hm1, hm4, hvs, hts⟩ := tot_pos hv
  have HV := Lib.hid (fun (w1 : World) (hg : Grow w w1) => valid_any (w := w1) (cap := ca) (h1.grow hg))
  rw [show decide (0 < tot cs) = true by simp [hv]] at HV
  have HS := Lib.hid (fun (w1 : World) (hg : Grow w w1) => sum_any (w := w1) (cap := ca) (h1.grow hg) hvs (by omega))
  rw [← hts] at HS
  have HO := Lib.hid (fun (w1 : World) => orders_yes w1 cs.length hm1 hm4)
  have hN0 := ords_pos cs.length hm4
  have hN24 := ords_len24 cs.length hm4
  have htb := (tot_bd cs).2
  have HN := Lib.hid (fun (w1 : World) (hg : Grow (w.alloc (.cells #[.slice B nums.length cb] 22)) w1) (i : Nat) (n : Int) (hn : 0 < n) (hn2 : n ≤ 1000) => number_any (Bs := w.heap.size) (cap := cb) (hg.at_ (Boxed.new w 22 (.slice B nums.length cb))) (h2.grow (((Grow.refl w).alloc _).trans hg)) i n hn hn2)
  have hn20 : ¬ (20 : Int) < nums.length := by omega
  have HPC : Hid (sprP cs nums = (ords cs.length (numL cs.length))[(pickN nums 0 ((ords cs.length (numL cs.length)).length : Int)).toNat]?.getD [] ∧ sprC cs nums = [pickN nums 1 (tot cs + 1) - 1, pickN nums 2 (tot cs + 1) - 1]) := ⟨rfl, rfl⟩
  clear h1 h2 hvs hts
  generalize ords cs.length (numL cs.length) = ls at HO hN0 hN24 HPC
  generalize sprP cs nums = p at HPC HR
  generalize sprC cs nums = c at HPC HR
  generalize tot cs = T at HS hv htb HPC
  have hp0 := pickN_bd nums 0 (n := (ls.length : Int)) (by omega)
  have hp1 := pickN_bd nums 1 (n := T + 1) (by omega)
  have hp2 := pickN_bd nums 2 (n := T + 1) (by omega)
  have HN0 : Hid (∀ w1, Grow (w.alloc (.cells #[.slice B nums.length cb] 22)) w1 → Calls Try.prog 52 #[.int .i64 0, .int .i64 (ls.length : Int), .pointer (some ⟨w.heap.size, 0, none⟩)] w1 fun e w' => e = .returned (.int .i64 (pickN nums 0 (ls.length : Int))) ∧ w1 = w') := fun w1 hg => HN.out w1 hg 0 (ls.length : Int) (by omega) (by omega)
  have HN1 : Hid (∀ w1, Grow (w.alloc (.cells #[.slice B nums.length cb] 22)) w1 → Calls Try.prog 52 #[.int .i64 1, .int .i64 (T + 1), .pointer (some ⟨w.heap.size, 0, none⟩)] w1 fun e w' => e = .returned (.int .i64 (pickN nums 1 (T + 1))) ∧ w1 = w') := fun w1 hg => HN.out w1 hg 1 (T + 1) (by omega) (by omega)
  have HN2 : Hid (∀ w1, Grow (w.alloc (.cells #[.slice B nums.length cb] 22)) w1 → Calls Try.prog 52 #[.int .i64 2, .int .i64 (T + 1), .pointer (some ⟨w.heap.size, 0, none⟩)] w1 fun e w' => e = .returned (.int .i64 (pickN nums 2 (T + 1))) ∧ w1 = w') := fun w1 hg => HN.out w1 hg 2 (T + 1) (by omega) (by omega)
  clear HN
  obtain ⟨q0, hq0⟩ := Int.eq_ofNat_of_zero_le hp0.1
  rw [hq0] at HN0 hp0 HPC
  generalize pickN nums 1 (T + 1) = q1 at HN1 hp1 HPC
  generalize pickN nums 2 (T + 1) = q2 at HN2 hp2 HPC
  clear hq0
  have hq : q0 < ls.length := by omega
  go_enter Try.func30, Try.ntmps30
  go_wp2_with (first | (go_at_call 16; refine (HV.out _ ((Grow.refl _).alloc _)).mono ?_; rintro e w' ⟨rfl, rfl⟩) | (go_at_call 26; refine (HO.out _).mono ?_; rintro e w2 hp; obtain ⟨A2, c2, rfl, hl2, hg2⟩ := ordP_yes hp; have H2 := Lib.hid (And.intro hl2 hg2); clear hp hg2 hl2) | (go_at_call 35; refine (HS.out _ (((Grow.refl _).alloc _).trans H2.out.2)).mono ?_; rintro e w' ⟨rfl, rfl⟩))
  obtain ⟨b, off, rfl, A3, c3, hcell, hint, hnone⟩ := H2.out.1.at_ hq
  have hpe : p = ls[q0] := by have := HPC.out.1; rw [Int.toNat_natCast, List.getElem?_eq_getElem hq] at this; exact this
  have hce := HPC.out.2
  subst hpe hce
  have H3 := Lib.hid (And.intro hint hnone)
  generalize ls[q0] = p at *
  clear hint hnone
  have HG : Hid (∀ w', Grow w2 w' → Grow (w.alloc (.cells #[.slice B nums.length cb] 22)) w') := fun w' h => H2.out.2.trans h
  have hq0i : (q0 : Int) < (ls.length : Int) := by omega
  have hw1 : IntKind.i64.wrap (q1 - 1) = q1 - 1 := by rw [IntKind.wrap_i64]; omega
  have hw2 : IntKind.i64.wrap (q2 - 1) = q2 - 1 := by rw [IntKind.wrap_i64]; omega
  have hg0 : Grow w2 w2 := Grow.refl w2
  clear hp0 hp1 hp2 htb hN24
  go_region_held3 (fun w' => w'.cell? ⟨b, off + q0, none⟩ = some (.slice A3 p.length c3) ∧ Grow w2 w') (refine ⟨?_, ?_⟩ <;> first | assumption | exact hcell | exact (Grow.refl _).drew | exact Grow.drew (by assumption) | exact (Grow.alloc (by assumption) _) | exact Grow.cell (Grow.alloc (Grow.refl _) _) (by assumption) | exact Grow.drew (Grow.alloc (by assumption) _) | exact Grow.cell (Grow.drew (Grow.alloc (Grow.refl _) _)) (by assumption)) ((go_at_call 52; (first | with_reducible refine Calls.mono (HN0.out _ ?_) ?_ | with_reducible refine Calls.mono (HN1.out _ ?_) ?_ | with_reducible refine Calls.mono (HN2.out _ ?_) ?_); (first | exact HG.out _ (by assumption) | exact HG.out _ (by assumption : _ ∧ _).2); rintro e w' ⟨rfl, rfl⟩))
  have HZ := Lib.hid (show IntsAt (w2.alloc (.cells #[.int .i64 (q1 - 1), .int .i64 (q2 - 1)] 3)).drew (some ⟨w2.heap.size, 0, none⟩) [q1 - 1, q2 - 1] from ints_lit w2 [q1 - 1, q2 - 1])
  have hgz : Grow w2 (w2.alloc (.cells #[.int .i64 (q1 - 1), .int .i64 (q2 - 1)] 3)).drew := ((Grow.refl w2).alloc _).drew
  go_wp2
  first | go_ret3 | skip
  exact HR.out _ _ ⟨_, _, _, _, rfl, H3.out.1.grow hgz, HZ.out, ((Grow.refl w).alloc _).trans (H2.out.2.trans hgz), H3.out.2, fun e => by cases e⟩
end Go.Proofs.Ytacfchepacfjnaa
