/- The reference's Hits. -/
import Derived.Test.YtacfchepacfjnaaOfI
set_option linter.unusedVariables false
set_option linter.unusedSimpArgs false
namespace Go.Proofs.Ytacfchepacfjnaa
open Go.RowKit Go.Kx Go.Maps Go.Sort Go.Shelf
open Go.ChangeMaps (setBlock)
def ext1 (l : List Int) (p : Nat) : List (List Int) := (List.range p).map fun (m : Nat) => l ++ [Int.ofNat m]
theorem ext1_succ (l : List Int) (p : Nat) : ext1 l (p + 1) = ext1 l p ++ [l ++ [(p : Int)]] := by
  unfold ext1; rw [List.range_succ, List.map_append]; rfl
def extn (k : Nat) (ls : List (List Int)) : List (List Int) := ls.flatMap fun l => ext1 l k
theorem extn_take {k : Nat} {ls : List (List Int)} {i : Nat} (h : i < ls.length) : extn k (ls.take (i + 1)) = extn k (ls.take i) ++ ext1 ls[i] k := by
  unfold extn; rw [List.take_succ_eq_append_getElem h, List.flatMap_append]; simp
def rls (k : Nat) : Nat → List (List Int)
  | 0 => [[]]
  | n + 1 => extn k (rls k n)
theorem ext1_len (l : List Int) (p : Nat) : (ext1 l p).length = p := by simp [ext1]
theorem extn_len (k : Nat) (ls : List (List Int)) : (extn k ls).length = ls.length * k := by
  unfold extn
  induction ls with
  | nil => simp
  | cons l ls ih => rw [List.flatMap_cons, List.length_append, ih, ext1_len, List.length_cons, Nat.add_mul, Nat.one_mul, Nat.add_comm]
theorem rls_len (k n : Nat) : (rls k n).length = k ^ n := by
  induction n with
  | zero => rfl
  | succ n ih => rw [rls, extn_len, ih, Nat.pow_succ]
theorem rls_el (k : Nat) : ∀ n, ∀ l ∈ rls k n, l.length = n
  | 0, l, h => by simp [rls] at h; simp [h]
  | n + 1, l, h => by
    unfold rls extn at h
    obtain ⟨r, hr, hl⟩ := List.mem_flatMap.1 h
    unfold ext1 at hl
    obtain ⟨m, _, rfl⟩ := List.mem_map.1 hl
    rw [List.length_append, rls_el k n r hr]; rfl
theorem rls_lsts {n k : Nat} (h : n ≤ 2) : rls k n = lsts n k := by
  match n, h with
  | 0, _ => rfl
  | 1, _ =>
    show extn k [[]] = _
    unfold extn ext1 lsts lsts
    simp only [List.flatMap_cons, List.flatMap_nil, List.append_nil, List.nil_append, List.map_cons, List.map_nil]
    induction (List.range k) with
    | nil => rfl
    | cons a r ih => simp only [List.map_cons, List.flatMap_cons, ih]; rfl
  | 2, _ =>
    have h1 : rls k 1 = (List.range k).map fun (m : Nat) => [Int.ofNat m] := by
      show extn k [[]] = _
      simp [extn, ext1]
    have h2 : lsts 1 k = (List.range k).map fun (m : Nat) => [Int.ofNat m] := by
      unfold lsts lsts
      induction (List.range k) with
      | nil => rfl
      | cons a r ih => rw [List.flatMap_cons, List.map_cons, ih]; rfl
    show extn k (rls k 1) = _
    rw [h1]
    unfold lsts
    rw [h2]
    unfold extn ext1
    rw [List.flatMap_map]
    congr 1
    funext a
    rw [List.map_map]
    rfl
def RefHitsP (w : World) (cs : List Int) (d i s j u : Int) (e : Ending) (w' : World) : Prop :=
  e = .returned (.tuple #[.int .i64 (hitN cs i s j u (ords cs.length (numL cs.length)) (lsts d.toNat (tot cs).toNat) : Nat), .int .i64 ((ords cs.length (numL cs.length)).length * (lsts d.toNat (tot cs).toNat).length : Nat)]) ∧ Grow w w'
set_option maxRecDepth 100000 in
set_option maxHeartbeats 4000000 in
theorem refHits_any {w : World} {A : Option Addr} {ca : Nat} {cs : List Int} (h1 : IntsAt w A cs) (dn : Nat) (hd : dn ≤ 2) (zi s j u : Int) (hv : 0 < tot cs) (hb : bugB cs zi s j u = true) :
    Calls Try.prog 33 #[.slice A cs.length ca, .int .i64 (dn : Int), bugV zi s j u] w (RefHitsP w cs dn zi s j u) := by
  refine cph fun R HR => ?_
  obtain ⟨hm1, hm4, hvs, hts⟩ := tot_pos hv
  obtain ⟨K, hK⟩ := Int.eq_ofNat_of_zero_le (show 0 ≤ tot cs by omega)
  have hK24 : K ≤ 24 := by have := (tot_bd cs).2; omega
  have hs6 := bugB_s hv hb
  obtain ⟨_, _, _, _, hij, hs0, _⟩ := bugB_ok hb
  have HFE := Lib.hid (fun l : List Int => fnd_eq (l := l) (u := u) hs0 hij)
  have HTT := Lib.hid (fun (W : World) (hg : Grow w W) => total_any (w := W) (cap := ca) (h1.grow hg))
  rw [hK] at HTT
  have HRS : Hid (∀ (W : World), Grow w W → ∀ (B C : Option Addr) (cb cc : Nat) (ps chs : List Int), IntsAt W B ps → IntsAt W C chs → ps.length = cs.length → chs.length ≤ 2 → Calls Try.prog 20 #[.slice A cs.length ca, .slice B ps.length cb, .slice C chs.length cc] W (Made W (sched cs ps chs))) := fun W hg B C cb cc ps chs hp hc hpl hcl => by
    rw [hpl]
    exact refSchedule_any (h1.grow hg) hp hc hv rfl hpl hcl
  have HRF := Lib.hid (fun (W : World) (B : Option Addr) (cb : Nat) (l : List Int) (hB : IntsAt W B l) (hl : l.length ≤ 1000) => refFinds_any (w := W) (ca := cb) hB hl zi s j u hs0 hs6)
  have HLen : Hid (∀ ps chs, (sched cs ps chs).length ≤ 1000) := fun ps chs => by rw [sched_len hv]; omega
  have HRO := Lib.hid (fun (W : World) => refOrders_any W cs.length hm4)
  rw [outs_ords cs.length hm4] at HRO
  have HOl := Lib.hid (ords_ok cs.length hm4)
  have hO24 := ords_len24 cs.length hm4
  have hdk : (dn : Int).toNat = dn := Int.toNat_natCast dn
  have hKt : (tot cs).toNat = K := by omega
  unfold RefHitsP at HR
  rw [hdk, hKt, ← rls_lsts hd] at HR
  unfold bugV at HRF ⊢
  generalize ords cs.length (numL cs.length) = OL at HR HRO HOl hO24
  have hr576 : ∀ n, n ≤ dn → (rls K n).length ≤ 576 := fun n hn => by rw [rls_lsts (by omega)]; exact lsts_len2 (by omega) hK24
  have HLL := Lib.hid (And.intro hr576 (rls_el K))
  clear hvs hts hK hb hv h1 hij hs0 hs6 hdk hKt hr576
  obtain ⟨i0, hi, hz0, hz1, hz2⟩ := info_parts info3x
  obtain ⟨j0, hj, hy0, hy1, hy2⟩ := info_parts info22x
  have HI := Lib.hid (And.intro hi (And.intro hz0 (And.intro hz1 hz2)))
  have HJ := Lib.hid (And.intro hj (And.intro hy0 (And.intro hy1 hy2)))
  clear hi hz0 hz1 hz2 hj hy0 hy1 hy2
  have hG0 : Grow w (w.alloc (.cells #[.int .i64 zi, .int .i64 s, .int .i64 j, .int .i64 u] 35)) := (Grow.refl w).alloc _
  obtain ⟨w0, hw0⟩ : ∃ w0, w0 = w.alloc (.cells #[.int .i64 zi, .int .i64 s, .int .i64 j, .int .i64 u] 35) := ⟨_, rfl⟩
  have hB5 : w0.heap[w.heap.size]? = some (.cells #[.int .i64 zi, .int .i64 s, .int .i64 j, .int .i64 u] 35 (0, 0)) := by rw [hw0]; exact blk_new w _
  rw [← hw0] at hG0
  have H0 := Lib.hid (And.intro hG0 (And.intro hB5 hw0))
  have hw00 := hw0.symm
  clear hG0 hB5 hw0
  go_enter Try.func33, Try.ntmps33
  go_wp2_with (go_at_call 17; refine (HTT.out _ H0.out.1).mono ?_; rintro e w' ⟨rfl, rfl⟩)
  clear hw00
  have hrow : Hid (Lst (w0.alloc (.cells #[.slice none 0 0] 22)) w0.heap.size (.slice (some ⟨w0.heap.size, 0, none⟩) 1 1) [((none, 0, 0), [])]) := ⟨World.ownsRow_lit w0 #[.slice none 0 0] 1 (Nat.le_refl _) (by unfold maxLen; omega) rfl, fun x hx => by rw [List.mem_singleton.1 hx]; exact World.ownsRow_nil _ _ _ _⟩
  go_loopw [9, 10] (fun v i wr => ∃ (n : Nat) (xs : List Elt), n ≤ dn ∧ i = .int .i64 n ∧ Hid (Lst wr w0.heap.size v xs ∧ xs.map Prod.snd = rls K n ∧ Grow w0 wr)) (fun _ i _ => dn - (intOf i).toNat)
  case atStart => exact ⟨0, _, Nat.zero_le _, rfl, hrow.out, rfl, (Grow.refl w0).alloc _⟩
  case round =>
    obtain ⟨n, xs, hn, rfl, HO⟩ := hrel
    rename World => wo
    obtain ⟨A9, c9, hv9, hls, _⟩ := lists_of_lst HO.out.1
    rw [HO.out.2.1] at hv9 hls
    subst hv9
    have HA := Lib.hid hls
    clear hls
    have h576 := HLL.out.1 n hn
    by_cases hlt : n < dn
    · have hki : (n : Int) < (dn : Int) := by omega
      go_wp2_with fail
      go_loopw [11, 12] (fun v i w1 => ∃ (b : Nat) (ys : List Elt), b ≤ (rls K n).length ∧ i = .int .i64 b ∧ Hid (NextSt w1 wo.heap.size v ys ∧ ys.map Prod.snd = extn K ((rls K n).take b) ∧ Grow wo w1)) (fun _ i _ => (rls K n).length - (intOf i).toNat)
      case atStart => exact ⟨0, [], Nat.zero_le _, rfl, ⟨World.ownsRow_nil _ _ _ _, by simp⟩, rfl, Grow.refl _⟩
      case round =>
        obtain ⟨b, ys, hbl, rfl, HN⟩ := hrel
        rename World => wn
        by_cases hblt : b < (rls K n).length
        · have hbi : (b : Int) < ((rls K n).length : Int) := by omega
          obtain ⟨l, hl⟩ : ∃ l, l = (rls K n)[b] := ⟨_, rfl⟩
          have hl4 : l.length ≤ 4 := by rw [hl, HLL.out.2 n _ (List.getElem_mem hblt)]; omega
          have HL := Lib.hid hl
          clear hl
          go_wp2_with fail
          go_loopw [11, 13] (fun v i w2 => ∃ (p : Nat) (zs : List Elt), p ≤ K ∧ i = .int .i64 p ∧ Hid (NextSt w2 wo.heap.size v zs ∧ zs.map Prod.snd = extn K ((rls K n).take b) ++ ext1 l p ∧ Grow wo w2)) (fun _ i _ => K - (intOf i).toNat)
          case atStart => exact ⟨0, ys, Nat.zero_le _, rfl, HN.out.1, by rw [HN.out.2.1]; simp [ext1], HN.out.2.2⟩
          case round =>
            obtain ⟨p, zs, hpm, rfl, HZ⟩ := hrel
            by_cases hplt : p < K
            · have hpi : (p : Int) < (K : Int) := by omega
              obtain ⟨bb, off, rfl, A1, c1, hc1, hi1, hA1⟩ := (HA.out.grow HZ.out.2.2).at_ hblt
              rw [← HL.out] at hc1 hi1
              have HC := Lib.hid (fun (w' : World) (h : Grow wr w') => copy_any (cap := c1) (hi1.grow h) hA1 (by omega))
              have hzl : zs.length ≤ 24 * 576 + 24 := by
                have h1 := congrArg List.length HZ.out.2.1
                rw [List.length_map, List.length_append, extn_len, ext1_len] at h1
                have h5 : ((rls K n).take b).length ≤ 576 := by rw [List.length_take]; omega
                have h6 : ((rls K n).take b).length * K ≤ 576 * 24 := Nat.mul_le_mul h5 hK24
                omega
              have hso := HZ.out.2.2.size
              have HE := Lib.hid (ext1_succ l p)
              clear hi1 hA1
              go_wp2_with (first | (go_at_call 41; refine (HC.out _ (Grow.refl _)).mono ?_; rintro e w1 ⟨cv, rfl, hrow1, hg1⟩; have H1 := Lib.hid (And.intro hrow1 hg1); have hs1 := hg1.size; clear hrow1 hg1) | (at_builtin; refine wpList_append_own_at _ rfl (.tmp 42) (.tmp 44) 22 rfl wr.heap.size 3 i0 (.int .i64 0) 1 8 Try.underlying22 HI.out.1 HI.out.2.1 HI.out.2.2.1 HI.out.2.2.2 rfl (by decide) _ _ _ rfl (H1.out.1.alloc _) ⟨w1.heap.size, 0, none⟩ 1 1 [.int .i64 (p : Int)] rfl rfl (cell_one_new _ _ _) (by simp [Value.oneCell']) (by unfold maxLen; omega) (by omega) (by rw [World.size_alloc]; omega) ?_; intro c2 w2 hown2 hgrow2 _ _; obtain ⟨g2, k2, rfl⟩ := own_form hown2 (by omega); have H2 := Lib.hid (app2 H1.out.1 H1.out.2 hown2 hgrow2); have hs2 := H2.out.2.1.size; clear hown2 hgrow2) | (at_builtin; refine wpList_append_own_at _ rfl (.tmp 37) (.tmp 46) 40 rfl wo.heap.size 22 j0 (.slice none 0 0) 1 24 Try.underlying40 HJ.out.1 HJ.out.2.1 HJ.out.2.2.1 HJ.out.2.2.2 rfl (by decide) _ _ _ rfl ((owns_fr HZ.out.1.1 H2.out.2.1 (fun _ _ h => h)).alloc _) ⟨w2.heap.size, 0, none⟩ 1 1 [.slice (some ⟨g2, 0, none⟩) (l.length + 1) k2] rfl rfl (cell_one_new _ _ _) (by simp [Value.oneCell']) (by unfold maxLen; omega) (by omega) (by rw [World.size_alloc]; omega) ?_; intro v3 w3 hown3 hgrow3 _ hat3; have H3 := Lib.hid (app3 HZ.out.1 HZ.out.2.2 H2.out hown3 hgrow3 hat3); clear hown3 hgrow3 hat3))
              go_roundw
              case rel => exact ⟨p + 1, zs ++ [((some ⟨g2, 0, none⟩, l.length + 1, k2), l ++ [(p : Int)])], by omega, by go_num, H3.out.1, by rw [List.map_append, HZ.out.2.1, HE.out, List.append_assoc]; rfl, H3.out.2⟩
              case measure => simp [intOf]; omega
            · have hpi : ¬ (p : Int) < (K : Int) := by omega
              obtain rfl : p = K := by omega
              go_wp2_with fail
              go_roundw
              case rel => exact ⟨b + 1, zs, by omega, by go_num, HZ.out.1, by rw [HZ.out.2.1, extn_take hblt, ← HL.out], HZ.out.2.2⟩
              case measure => simp [intOf]; omega
        · have hbi : ¬ (b : Int) < ((rls K n).length : Int) := by omega
          go_wp2_with fail
          go_roundw
          case rel =>
            refine ⟨n + 1, ys, by omega, by go_num, ⟨own_base_le HN.out.1.1 HO.out.2.2.size, fun y hy => (HN.out.1.2 y hy).1⟩, ?_, HO.out.2.2.trans HN.out.2.2⟩
            rw [HN.out.2.1, List.take_of_length_le (by omega)]
            rfl
          case measure => simp [intOf]; omega
    · have hki : ¬ (n : Int) < (dn : Int) := by omega
      obtain rfl : n = dn := by omega
      have HRO2 := Lib.hid (HRO.out wo)
      go_wp2_with (go_at_call 28; refine (HRO2.out).mono ?_; rintro e w3 hp; obtain ⟨A3, c3, rfl, hl3, hg3⟩ := refOrdP_form hp; have H3 := Lib.hid (And.intro hl3 (And.intro (HA.out.grow hg3) (HO.out.2.2.trans hg3))); clear hp hg3 hl3)
      go_loopw [15, 16] (fun h q wr => ∃ b : Nat, b ≤ OL.length ∧ q = .int .i64 b ∧ h = .int .i64 (hitN cs zi s j u (OL.take b) (rls K n) : Nat) ∧ Hid (Grow w3 wr)) (fun _ q _ => OL.length - (intOf q).toNat)
      case atStart => exact ⟨0, Nat.zero_le _, rfl, rfl, Grow.refl _⟩
      case round =>
        obtain ⟨b, hb, rfl, rfl, HG⟩ := hrel
        by_cases hbl : b < OL.length
        · have hbi : (b : Int) < (OL.length : Int) := by omega
          have hN1 : hitN cs zi s j u (OL.take b) (rls K n) ≤ 24 * 576 := by
            refine Nat.le_trans (hitN_le _ _ _ _ _ _ _) ?_
            exact Nat.mul_le_mul (by rw [List.length_take]; omega) h576
          have HN2 := Lib.hid (hitN_snoc cs zi s j u (OL.take b) (rls K n) OL[b])
          have hol := (HOl.out OL[b] (List.getElem_mem hbl)).1
          have HBo := Lib.hid (And.intro hol (List.take_succ_eq_append_getElem hbl))
          have HBx := Lib.hid (fun (W : World) (hg : Grow w3 W) => (H3.out.1.grow hg).at_ hbl)
          clear hol
          generalize OL[b] = o at HN2 HBo HBx
          generalize hitN cs zi s j u (OL.take b) (rls K n) = N1 at hN1 HN2 ⊢
          go_wp2_with fail
          go_loopw [15, 17] (fun h q wr => ∃ c : Nat, c ≤ (rls K n).length ∧ q = .int .i64 c ∧ h = .int .i64 ((N1 + hitO cs zi s j u ((rls K n).take c) o : Nat)) ∧ Hid (Grow w3 wr)) (fun _ q _ => (rls K n).length - (intOf q).toNat)
          case atStart => exact ⟨0, Nat.zero_le _, rfl, rfl, HG.out⟩
          case round =>
            obtain ⟨c, hc, rfl, rfl, HG2⟩ := hrel
            by_cases hcl : c < (rls K n).length
            · have hci : (c : Int) < ((rls K n).length : Int) := by omega
              have hO1 : hitO cs zi s j u ((rls K n).take c) o ≤ 576 := Nat.le_trans (hitO_le _ _ _ _ _ _ _) (by rw [List.length_take]; omega)
              have hO2 := hitO_snoc cs zi s j u ((rls K n).take c) o (rls K n)[c]
              have hll := HLL.out.2 n (rls K n)[c] (List.getElem_mem hcl)
              obtain ⟨b3, o3, rfl, A1, c1, hc1, hi1, _⟩ := HBx.out wr HG2.out
              obtain ⟨b9, o9, rfl, A2, c2, hc2, hi2, _⟩ := (H3.out.2.1.grow HG2.out).at_ hcl
              rw [← List.take_succ_eq_append_getElem hcl] at hO2
              have HO2 := Lib.hid hO2
              have HLl := Lib.hid hll
              clear hO2 hll
              generalize (rls K n)[c] = l at HO2 HLl hc2 hi2
              generalize hitO cs zi s j u ((rls K n).take c) o = M1 at hO1 HO2 ⊢
              have HII := Lib.hid (And.intro hi1 hi2)
              have HRS2 : Hid (∀ W, Grow wr W → Calls Try.prog 20 #[.slice A cs.length ca, .slice A1 o.length c1, .slice A2 l.length c2] W (Made W (sched cs o l))) := fun W hg => HRS.out W (H0.out.1.trans (H3.out.2.2.trans (HG2.out.trans hg))) A1 A2 c1 c2 o l (HII.out.1.grow hg) (HII.out.2.grow hg) HBo.out.1 (by rw [HLl.out]; exact hd)
              have HLs := Lib.hid (HLen.out o l)
              have HC5 : Hid (∀ W', Grow wr W' → W'.cell? ⟨w.heap.size, 0, none⟩ = some (.int .i64 zi) ∧ W'.cell? ⟨w.heap.size, 1, none⟩ = some (.int .i64 s) ∧ W'.cell? ⟨w.heap.size, 2, none⟩ = some (.int .i64 j) ∧ W'.cell? ⟨w.heap.size, 3, none⟩ = some (.int .i64 u)) := by
                intro W' hg
                have hbb := (H3.out.2.2.trans (HG2.out.trans hg)).at_ H0.out.2.1
                refine ⟨?_, ?_, ?_, ?_⟩ <;> · rw [blk_cell hbb]; rfl
              have HFE2 := HFE.out (sched cs o l)
              have HFF := Lib.hid HFE2
              clear hi1 hi2 HFE2
              generalize sched cs o l = SL at HRS2 HLs HFF HO2
              have HSX : Hid (∀ W', Grow wr W' → W'.cell? ⟨w.heap.size, 0, none⟩ = some (.int .i64 zi) ∧ W'.cell? ⟨w.heap.size, 1, none⟩ = some (.int .i64 s) ∧ W'.cell? ⟨w.heap.size, 2, none⟩ = some (.int .i64 j) ∧ W'.cell? ⟨w.heap.size, 3, none⟩ = some (.int .i64 u) ∧ W'.cell? ⟨b3, o3 + b, none⟩ = some (.slice A1 o.length c1) ∧ W'.cell? ⟨b9, o9 + c, none⟩ = some (.slice A2 l.length c2) ∧ Grow wr W') := fun W' hg => by
                obtain ⟨e0, e1, e2, e3⟩ := HC5.out W' hg
                exact ⟨e0, e1, e2, e3, hg.cell hc1, hg.cell hc2, hg⟩
              have HRF2 : Hid (∀ W B cb, IntsAt W B SL → Calls Try.prog 25 #[.slice B SL.length cb, .agg #[.int .i64 zi, .int .i64 s, .int .i64 j, .int .i64 u]] W (BoolG W (fnd SL zi s j u))) := fun W B cb hB => by
                rw [HFF.out]
                exact HRF.out W B cb SL hB HLs.out
              have hgr0 : Grow wr wr := Grow.refl _
              go_wp2_with fail
              go_region_held3 (fun w' => w'.cell? ⟨w.heap.size, 0, none⟩ = some (.int .i64 zi) ∧ w'.cell? ⟨w.heap.size, 1, none⟩ = some (.int .i64 s) ∧ w'.cell? ⟨w.heap.size, 2, none⟩ = some (.int .i64 j) ∧ w'.cell? ⟨w.heap.size, 3, none⟩ = some (.int .i64 u) ∧ w'.cell? ⟨b3, o3 + b, none⟩ = some (.slice A1 o.length c1) ∧ w'.cell? ⟨b9, o9 + c, none⟩ = some (.slice A2 l.length c2) ∧ Grow wr w') (first | exact HSX.out _ (by assumption) | exact HSX.out _ (Grow.refl _).drew | exact HSX.out _ (Grow.drew (by assumption))) ((first | (go_at_call 20; (with_reducible refine Calls.mono (HRS2.out _ ?_) ?_); (first | assumption | exact (by assumption : _ ∧ _ ∧ _ ∧ _ ∧ _ ∧ _ ∧ Grow wr _).2.2.2.2.2.2); rintro e w4 ⟨v4, rfl, hrow4, hg4⟩; obtain ⟨A4, c4, rfl, hi4, _⟩ := ints_of_own hrow4; have H44 := Lib.hid hi4; have hgg4 : Grow wr w4 := Grow.trans (by first | assumption | exact (by assumption : _ ∧ _ ∧ _ ∧ _ ∧ _ ∧ _ ∧ Grow wr _).2.2.2.2.2.2) hg4; clear hrow4 hi4) | (go_at_call 25; (with_reducible refine Calls.mono (HRF2.out _ _ _ ?_) ?_); (first | exact H44.out | exact H44.out.grow (Grow.refl _).drew | exact H44.out.grow (by assumption)); rintro e w5 ⟨rfl, hg5⟩; have hgg5 : Grow wr w5 := Grow.trans (by first | assumption | exact (by assumption : _ ∧ _ ∧ _ ∧ _ ∧ _ ∧ _ ∧ Grow wr _).2.2.2.2.2.2 | exact Grow.drew (by assumption)) hg5)))
              have HG5 := Lib.hid (HG2.out.trans hgg5)
              clear hg4 hgg4 hg5 hgg5 hgr0
              cases hf : fnd SL zi s j u
              · have HF := Lib.hid hf
                clear hf
                go_wp2_with fail
                go_roundw
                case rel => exact ⟨c + 1, by omega, by go_num, by rw [HO2.out, HF.out]; simp, HG5.out⟩
                case measure => simp [intOf]; omega
              · have HF := Lib.hid hf
                clear hf
                go_wp2_with fail
                go_roundw
                case rel => exact ⟨c + 1, by omega, by go_num, by rw [HO2.out, HF.out]; simp; omega, HG5.out⟩
                case measure => simp [intOf]; omega
            · have hci : ¬ (c : Int) < ((rls K n).length : Int) := by omega
              have e : (rls K n).take c = rls K n := List.take_of_length_le (by omega)
              rw [e]
              rw [← HBo.out.2] at HN2
              clear e
              go_wp2_with fail
              go_roundw
              case rel => exact ⟨b + 1, by omega, by go_num, by rw [HN2.out], HG2.out⟩
              case measure => simp [intOf]; omega
        · have hbi : ¬ (b : Int) < (OL.length : Int) := by omega
          have e : OL.take b = OL := List.take_of_length_le (by omega)
          rw [e]
          clear e
          generalize hitN cs zi s j u OL (rls K n) = N1 at HR ⊢
          have hm1 : (0 : Int) ≤ (OL.length : Int) * ((rls K n).length : Int) := Int.mul_nonneg (by omega) (by omega)
          have hm2 : (OL.length : Int) * ((rls K n).length : Int) ≤ 13824 := by
            have := Nat.mul_le_mul hO24 h576
            have h2 : ((OL.length * (rls K n).length : Nat) : Int) ≤ ((24 * 576 : Nat) : Int) := by omega
            rw [Int.natCast_mul] at h2
            exact h2
          rw [Int.natCast_mul] at HR
          have hw := Lib.hid (show wrap64 ((OL.length : Int) * ((rls K n).length : Int)) = (OL.length : Int) * ((rls K n).length : Int) by
            generalize (OL.length : Int) * ((rls K n).length : Int) = PP at hm1 hm2
            unfold wrap64; omega)
          clear hm1 hm2
          go_wp2_with fail
          rw [hw.out]
          exact HR.out _ _ ⟨rfl, H0.out.1.trans (H3.out.2.2.trans HG.out)⟩
end Go.Proofs.Ytacfchepacfjnaa
