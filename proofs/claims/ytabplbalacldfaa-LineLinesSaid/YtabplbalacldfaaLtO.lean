/- The contract of Lines, for every size and every list of accesses that memory holds. -/
import Derived.Test.YtabplbalacldfaaLtN
import Derived.Test.YtabplbalacldfaaLPlayed
set_option linter.unusedVariables false
set_option linter.unusedSimpArgs false
namespace Go.Proofs.Ytabplbalacldfaa
open Go.RowKit Go.Kx
open Go.ChangeMaps (setBlock)
def prCells (L : List (Int × Int)) : List Value := L.flatMap fun p => [.int .i64 p.1, .int .i64 p.2]
theorem prCells_snoc (L : List (Int × Int)) (p : Int × Int) : prCells (L ++ [p]) = prCells L ++ [.int .i64 p.1, .int .i64 p.2] := by simp [prCells]
theorem prCells_length (L : List (Int × Int)) : (prCells L).length = L.length * 2 := by
  induction L with
  | nil => rfl
  | cons p L ih => simp [prCells] at ih ⊢; omega
theorem info55 : (Try.prog.info? 55).map (fun i => (i.zero, i.size, i.bytes)) = some (some (.agg #[.int .i64 0, .int .i64 0]), 2, 16) := by kernel_rfl
/-- What Lines leaves. -/
def PairsE (w : World) (ok : Bool) (L : List (Int × Int)) (e : Ending) (w' : World) : Prop :=
  ∃ v, e = .returned (.tuple #[v, .int .i64 (if ok then 0 else 1)]) ∧ w'.ownsRow w.heap.size 55 2 v (if ok then L else []).length (prCells (if ok then L else [])) ∧ Grow w w'
theorem PairsE.no {w w' : World} {L : List (Int × Int)} (hg : Grow w w') : PairsE w false L (.returned (.tuple #[.slice none 0 0, .int .i64 1])) w' := ⟨_, rfl, World.ownsRow_nil _ _ _ _, hg⟩
theorem zero3 (w : World) : (zeroValue 3).run Try.prog w = .ok (.int .i64 0) w := by kernel_rfl
theorem keys_lines {size : Int} {l : List A3} {ks : List Int} (hn : ks.Nodup) (hk : ∀ q, q ∈ ks ↔ 0 < trK size l q l.length) : srt ks = dist (lnsL size l) :=
  asc_eq (srt_asc hn) (dist_asc _) fun q => by
    rw [(srt_perm ks).mem_iff, hk, dist_mem]
    exact trn_pos
set_option maxRecDepth 100000 in
set_option maxHeartbeats 8000000 in
theorem linesP_any (w : World) (A : Option Addr) (l : List A3) (cap : Nat) (size : Int) (hA : Acc w A l) (hn : l.length ≤ 300) :
    Calls Try.prog 23 #[.int .i64 size, .slice A l.length cap] w (PairsE w (goodB size l) (lnP size l)) := by
  refine cph fun R HR => ?_
  have HV := fun wx (g : Grow w wx) => Lib.hid (valid_any wx A l cap (hA.grow g) (by unfold maxLen; omega))
  have HL := Lib.hid hA
  clear hA
  cases hs : (decide (1 ≤ size) && decide (size ≤ 16))
  · have e : goodB size l = false := by simp [goodB, hs]
    rw [e] at HR
    clear e
    go_enter Try.func23, Try.ntmps23
    go_wp2_with (go_at_call 27; refine (isSize_any _ _).mono ?_; rintro e w' ⟨rfl, rfl⟩)
    exact HR.out _ _ (PairsE.no (Grow.refl _))
  · cases hv : okL l
    · have e : goodB size l = false := by simp [goodB, hv]
      rw [e] at HR
      clear e
      go_enter Try.func23, Try.ntmps23
      go_wp2_with (first | (go_at_call 27; refine (isSize_any _ _).mono ?_; rintro e w' ⟨rfl, rfl⟩) | (go_at_call 15; refine (HV _ (Grow.refl _)).out.mono ?_; rintro e w1 ⟨rfl, hg⟩))
      exact HR.out _ _ (PairsE.no hg)
    · have hg0 : goodB size l = true := by simp [goodB, hs, hv]
      rw [hg0] at HR
      have HG := Lib.hid hg0
      clear hg0
      have hmm := @run_makeMap Try.prog
      go_enter Try.func23, Try.ntmps23
      go_wp2_with (first | (go_at_call 27; refine (isSize_any _ _).mono ?_; rintro e w' ⟨rfl, rfl⟩) | (go_at_call 15; refine (HV _ (Grow.refl _)).out.mono ?_))
      rintro e w1 ⟨rfl, hg⟩
      have H1 := Lib.hid hg
      clear hg HV hs
      obtain ⟨p1, p2, p3, p4⟩ := good_parts HG.out
      have HK := Lib.hid p4
      clear p3 p4
      have hM : Hid (IMap (w1.alloc (.map #[] 0)) w1.heap.size []) := IMap.new w1
      have HP := Lib.hid (played_any (w1.alloc (.map #[] 0)) A l cap size ((HL.out.grow H1.out).grow ((Grow.refl _).alloc _)) (by omega) p1 p2 HK.out)
      go_wp2_with (go_at_call 28; refine HP.out.mono ?_)
      rintro e w2 ⟨v1, v2, rfl, hpi⟩
      have ho1 := hpi.own1
      have hgp := hpi.g
      rw [List.take_length] at ho1
      have H2 := Lib.hid (And.intro ho1 (H1.out.trans (((Grow.refl _).alloc _).trans hgp)))
      have hM2 := Lib.hid (hM.out.fr hgp (fun h => h))
      have hszU := H1.out.size
      clear hpi ho1 hgp HP hM
      generalize w1.heap.size = U at hM2 hszU ⊢
      have H0 : Hid (CntS w2 U size l 0 ∧ Grow w w2 ∧ w2.ownsRow (w1.alloc (.map #[] 0)).heap.size 4 1 v1 l.length (bools (mvs size l))) := ⟨⟨[], hM2.out, fun q => by simp [trK]⟩, H2.out.2, H2.out.1⟩
      clear hM2 H2
      generalize (w1.alloc (.map #[] 0)).heap.size = B4 at H0
      go_wp2_with fail
      go_loopw [31] (fun i wr => ∃ k : Nat, k ≤ l.length ∧ i = .int .i64 k ∧ Hid (CntS wr U size l k ∧ Grow w wr ∧ wr.ownsRow B4 4 1 v1 l.length (bools (mvs size l)))) (fun i _ => l.length - (intOf i).toNat)
      case atStart => exact ⟨0, by omega, rfl, H0.out⟩
      case round =>
        obtain ⟨k, hk, rfl, HC⟩ := hrel
        by_cases hlt : k < l.length
        · obtain ⟨⟨x, y, z⟩, hx⟩ : ∃ x, l[k]? = some x := ⟨l[k], by simp [hlt]⟩
          obtain ⟨b, off, hAe, hacc⟩ := HL.out.resolve_left (by rintro rfl; simp at hlt)
          subst hAe
          obtain ⟨c0, c1, c2⟩ := (hacc.grow HC.out.2.1) k _ hx
          dsimp only at c0 c1 c2
          have hb := HK.out _ (List.mem_of_getElem? hx)
          simp [bad] at hb
          obtain ⟨⟨⟨⟨⟨b1, b2⟩, b3⟩, b4⟩, b5⟩, b6⟩ := hb
          have hki : (k : Int) < (l.length : Int) := by omega
          obtain ⟨g7, c7, hv7, hc7, cur7, hg7, hcur7⟩ := bools_at HC.out.2.2 (by omega)
          have hmv := mvs_at (size := size) hx
          generalize mvOf size ((l.take k).foldl (stepSt size) st0) (x, y, z) = mv at hmv
          have hm7 := (blk_cell hg7 k).trans (hcur7 k mv hmv)
          have hl7 : g7 < wr.heap.size := (Array.getElem?_eq_some_iff.1 hg7).1
          subst hv7
          have HX := Lib.hid (And.intro hx hmv)
          obtain ⟨ks, hu, hu2⟩ := HC.out.1
          have HU := Lib.hid (And.intro hu hu2)
          clear hx hmv hu hu2 hacc hg7 hcur7
          cases mv
          · go_wp2_with fail
            go_roundw
            case rel => exact ⟨k + 1, by omega, by go_num, ⟨ks, by
                have : (ks.map fun n => (n, Value.int .i64 (trK size l n (k + 1)))) = ks.map fun n => (n, Value.int .i64 (trK size l n k)) := List.map_congr_left fun n _ => by rw [cnt_same HX.out.1 HX.out.2]
                rw [this]; exact HU.out.1.alloc _, fun q => by rw [cnt_same HX.out.1 HX.out.2]; exact HU.out.2 q⟩, HC.out.2.1.alloc _, owns_grow HC.out.2.2 ((Grow.refl _).alloc _)⟩
            case measure => simp [intOf] <;> omega
          · have hbx := HU.out.1.alloc (.cells #[.int .i64 x, .int .i64 y, .int .i64 z] 24)
            have hlook := hbx.lookup Try.underlying71 Try.underlying3 (zero3 _) (y / size) false
            simp only [Bool.false_eq_true, if_false] at hlook
            rw [cnt_get HU.out.2] at hlook
            obtain ⟨ks', hput, hk'⟩ := cnt_put HU.out.2 HX.out.1 HX.out.2
            dsimp only at hput
            have hbd := trK_bound size l (y / size) k
            generalize trK size l (y / size) k = tv at hlook hput hbd
            obtain ⟨bd1, bd2⟩ := hbd
            have HB := Lib.hid (And.intro hbx (And.intro hput hk'))
            clear hbx hput hk'
            go_wp2_with (at_mapUpdate; refine wpList_mput rfl _ _ _ rfl HB.out.1 Try.underlying71 Try.underlying3 (y / size) (.int .i64 (tv + 1)) rfl rfl rfl ?_; intro ob him; rw [HB.out.2.1] at him; have HF := Lib.hid him; clear him)
            go_roundw
            case rel =>
              refine ⟨k + 1, by omega, by go_num, ⟨ks', HF.out, HB.out.2.2⟩, (HC.out.2.1.alloc _).block U ob (by omega), ?_⟩
              refine owns_fr (owns_grow HC.out.2.2 ((Grow.refl _).alloc _)) ((Fr.refl (· = U) _).block U ob (.inr rfl)) fun j hj hs => ?_
              obtain ⟨c, hc⟩ := owns_blk (owns_grow HC.out.2.2 ((Grow.refl _).alloc (.cells #[.int .i64 x, .int .i64 y, .int .i64 z] 24))) hj
              exact HB.out.1.ne hc hs.symm
            case measure => simp [intOf] <;> omega
        · obtain rfl : k = l.length := by omega
          have hki : ¬ (l.length : Int) < (l.length : Int) := by omega
          obtain ⟨ks, hu, hu2⟩ := HC.out.1
          have hfst : (ks.map fun n => (n, Value.int .i64 (trK size l n l.length))).map Prod.fst = ks := by simp [Function.comp_def]
          have hnd : ks.Nodup := by have := hu.nodup; rwa [hfst] at this
          have hkd := keys_lines hnd hu2
          have hlen : ks.length ≤ 300 := by
            have h1 := srt_len ks
            rw [hkd] at h1
            have h2 := dist_len (lnsL size l)
            rw [lnsL_len] at h2
            omega
          have hsort := sortedA_any hu (fun p hp => by
            obtain ⟨q, hq, rfl⟩ := List.mem_map.1 hp
            obtain ⟨a, ha, e⟩ := List.mem_map.1 (trn_pos.1 ((hu2 q).1 hq))
            have hb2 := HK.out a ha
            simp [bad] at hb2
            have h0 : 0 ≤ a.2.1 / size := Int.ediv_nonneg (by omega) (by omega)
            have h1 : a.2.1 / size ≤ a.2.1 := Int.ediv_le_self _ (by omega)
            dsimp only
            omega) (by simp; omega) _ rfl
          rw [hfst] at hsort
          unfold KeysP at hsort
          rw [hkd] at hsort
          have HSo := Lib.hid hsort
          have hd := dist_len (lnsL size l)
          rw [lnsL_len] at hd
          have HU := Lib.hid (And.intro hu hu2)
          have HE : Hid (((dist (lnsL size l)).take (dist (lnsL size l)).length).map (fun q => (q, trn size l q)) = lnP size l) := by show _ = _; rw [List.take_length]; rfl
          clear hsort hu hu2 hkd hnd hfst
          generalize dist (lnsL size l) = D at HSo HE hd
          go_wp2_with (first | (go_at_call 40; refine (keysA_any _ _).mono ?_; rintro e w' ⟨rfl, rfl⟩) | (go_at_call 39; refine HSo.out.mono ?_))
          rintro e w6 ⟨v6, rfl, hown, hg6⟩
          have hG := ((Grow.refl wr).alloc (.cells #[.map (some U)] 71)).trans hg6
          obtain ⟨A6, c6, he, hints, _⟩ := ints_of_own hown
          subst he
          have H6 := Lib.hid (And.intro hints (And.intro (HU.out.1.fr hG (fun h => h)) (HC.out.2.1.trans hG)))
          have hu2 := Lib.hid HU.out.2
          clear hown hg6 hG hints HU HSo HC
          obtain ⟨i0, hi, hz0, hz1, hz2⟩ := info_parts info55
          have HI := Lib.hid (And.intro hi (And.intro hz0 (And.intro hz1 hz2)))
          clear hi hz0 hz1 hz2
          go_wp2_with fail
          go_loopw [11, 52] (fun v i wr => ∃ k : Nat, k ≤ D.length ∧ i = .int .i64 k ∧ Hid (wr.ownsRow w6.heap.size 55 2 v k (prCells ((D.take k).map fun q => (q, trn size l q))) ∧ Grow w6 wr)) (fun _ i _ => D.length - (intOf i).toNat)
          case atStart => exact ⟨0, by omega, rfl, World.ownsRow_nil _ _ _ _, Grow.refl _⟩
          case round =>
            obtain ⟨k, hk, rfl, HO⟩ := hrel
            by_cases hlk : k < D.length
            · have hki : (k : Int) < (D.length : Int) := by omega
              obtain ⟨b6, off6, hA6, hcq⟩ := (H6.out.1.grow HO.out.2).at_ hlk
              subst hA6
              have hlook := (H6.out.2.1.fr HO.out.2 (fun h => h)).lookup Try.underlying71 Try.underlying3 (zero3 _) D[k] false
              simp only [Bool.false_eq_true, if_false] at hlook
              rw [cnt_get hu2.out] at hlook
              have hnx : (D.take (k + 1)).map (fun q => (q, trn size l q)) = (D.take k).map (fun q => (q, trn size l q)) ++ [(D[k], trK size l D[k] l.length)] := by
                rw [List.take_succ_eq_append_getElem hlk, List.map_append]; rfl
              have HNX := Lib.hid hnx
              clear hnx
              generalize trK size l D[k] l.length = tv at hlook HNX
              generalize D[k] = q at hlook hcq HNX
              generalize (D.take k).map (fun q => (q, trn size l q)) = N at HO HNX
              have hgs := HO.out.2.size
              go_wp2_with (at_builtin; refine wpList_append_own_at _ rfl (.tmp 56) (.tmp 62) 51 rfl w6.heap.size 55 i0 (.agg #[.int .i64 0, .int .i64 0]) 2 16 Try.underlying51 HI.out.1 HI.out.2.1 HI.out.2.2.1 HI.out.2.2.2 rfl (by decide) _ _ _ rfl (HO.out.1.alloc _) ⟨wr.heap.size, 0, none⟩ 1 1 [.int .i64 q, .int .i64 tv] rfl rfl (cells_new _ _ _) (by simp [Value.oneCell']) (by unfold maxLen; omega) (by omega) (by simp; omega) ?_)
              intro v' w7 hown7 hgrow7 _ hat7
              have H7 : Hid (w7.ownsRow w6.heap.size 55 2 v' (k + 1) (prCells (N ++ [(q, tv)])) ∧ Grow w6 w7) := ⟨by rw [prCells_snoc]; exact hown7, (HO.out.2.alloc _).grown hgrow7 (fun j e => (HO.out.1.lt j e).1)⟩
              clear hown7 hgrow7 hat7
              go_wp2_with fail
              go_roundw
              case rel => exact ⟨k + 1, by omega, by go_num, by rw [HNX.out]; exact H7.out⟩
              case measure => simp [intOf] <;> omega
            · obtain rfl : k = D.length := by omega
              have hki : ¬ (D.length : Int) < (D.length : Int) := by omega
              have hln : (lnP size l).length = D.length := by rw [← HE.out]; simp
              have HF : Hid (PairsE w true (lnP size l) (.returned (.tuple #[u11, .int .i64 0])) wr) := by
                have h1 := HO.out.1
                rw [HE.out] at h1
                refine ⟨_, rfl, ?_, H6.out.2.2.trans HO.out.2⟩
                show wr.ownsRow w.heap.size 55 2 _ (lnP size l).length (prCells (lnP size l))
                rw [hln]
                exact own_base_le h1 H6.out.2.2.size
              go_wp2_with fail
              exact HR.out _ _ HF.out
end Go.Proofs.Ytabplbalacldfaa
