/- The contract of (*caches).access, for every line of four copies and every thread from 0 to 3. -/
import Derived.Test.YtabplbalacldfaaLSees
set_option linter.unusedVariables false
set_option linter.unusedSimpArgs false
namespace Go.Proofs.Ytabplbalacldfaa
open Go.RowKit Go.Kx
open Go.ChangeMaps (setBlock)
def Copy.moves (x : Copy) (writes : Bool) : Bool := !x.here || writes && !x.own
def Copy.wrong (x : Copy) (cell : Int) (writes : Bool) : Bool := x.moves writes && (!x.here && x.wasHere || x.here && writes && !x.own && x.wasOwn) && !(decide (cell ∈ x.others))
def Copy.mine (x : Copy) (writes : Bool) : Copy := ⟨true, x.own || writes, true, (x.here && x.wasOwn) || writes, x.listens && !(x.own || writes || x.moves writes), x.others⟩
def accessed (xs : Nat → Copy) (t : Nat) (cell : Int) (writes : Bool) (i : Nat) : Copy := if i = t then (xs t).mine writes else (xs i).sees cell writes
structure Four4 (w w' : World) (b : Nat) (T : TypeId) (Y : Nat → Copy) (ot : Nat → Option Nat) : Prop where
  ex : ∃ ot', Four w' b T Y ot' ∧ ∀ i, i < 4 → ot' i = ot i ∨ ∃ m, ot' i = some m ∧ w.heap.size ≤ m
  fr : Fr (fun j => j = b ∨ ∃ i, i < 4 ∧ some j = ot i) w w'
/-- Behind k rounds of the loop. -/
def half (xs : Nat → Copy) (t : Nat) (cell : Int) (writes : Bool) (k i : Nat) : Copy := if i = t then (xs t).mine writes else if i < k then (xs i).sees cell writes else xs i
theorem half_step (xs : Nat → Copy) (t : Nat) (cell : Int) (writes : Bool) (k : Nat) (h : k ≠ t) : upd (half xs t cell writes k) k ((half xs t cell writes k k).sees cell writes) = half xs t cell writes (k + 1) := by
  funext i
  by_cases hi : i = k
  · subst hi; rw [upd_same]; simp [half, h]
  · rw [upd_other _ _ _ hi]
    by_cases hit : i = t
    · simp [half, hit]
    · by_cases hik : i < k
      · simp [half, hit, hik, show i < k + 1 by omega]
      · simp [half, hit, hik, show ¬ i < k + 1 by omega]
theorem half_own (xs : Nat → Copy) (t : Nat) (cell : Int) (writes : Bool) : half xs t cell writes t = half xs t cell writes (t + 1) := by
  funext i
  by_cases hit : i = t
  · simp [half, hit]
  · by_cases hik : i < t
    · simp [half, hit, hik, show i < t + 1 by omega]
    · simp [half, hit, hik, show ¬ i < t + 1 by omega]
theorem half_four {w : World} {b : Nat} {T : TypeId} {xs : Nat → Copy} {ot o' : Nat → Option Nat} {t : Nat} {cell : Int} {writes : Bool} (h : Four w b T (half xs t cell writes 4) o') : Four w b T (accessed xs t cell writes) o' := by
  obtain ⟨⟨c, h1, h2⟩, h3, h4⟩ := h
  have e : ∀ i, i < 4 → half xs t cell writes 4 i = accessed xs t cell writes i := fun i hi => by simp [half, accessed, hi]
  exact ⟨⟨c, h1, fun i hi => e i hi ▸ h2 i hi⟩, fun i hi => e i hi ▸ h3 i hi, h4⟩
theorem zero4 (w : World) : (zeroValue 4).run Try.prog w = .ok (.bool false) w := by kernel_rfl
set_option maxRecDepth 100000 in
set_option maxHeartbeats 2000000 in
theorem access_any (w : World) (b : Nat) (T : TypeId) (xs : Nat → Copy) (ot : Nat → Option Nat) (t : Nat) (ht : t < 4) (cell : Int) (writes : Bool) (hF : Four w b T xs ot) :
    Calls Try.prog 50 #[.pointer (some ⟨b, 0, none⟩), .int .i64 t, .int .i64 cell, .bool writes] w fun e w' => e = .returned (.tuple #[.bool ((xs t).moves writes), .bool ((xs t).wrong cell writes)]) ∧ Four4 w w' b T (accessed xs t cell writes) ot := by
  obtain ⟨c, hb, hx⟩ := hF.ex
  have ho := hF.oth
  have hd := hF.inj
  refine cps fun R hR => ?_
  have h0 : (0 : Int) ≤ (t : Int) := by omega
  have h4 : (t : Int) < 4 := by omega
  have hlt := blk_lt hb
  have HB := Lib.hid hb
  have HX := Lib.hid hx
  have HO := Lib.hid ho
  have HD := Lib.hid hd
  have hxt := hx t ht
  have hot := ho t ht
  generalize hX : xs t = X at hxt hot
  generalize hM : ot t = M at hxt hot
  obtain ⟨he, ow, wh, wo, li, os⟩ := X
  have HXt := Lib.hid hX
  have HMt := Lib.hid hM
  have HOt := Lib.hid hot
  have c0 := (blk_cell hb (t * 6)).trans hxt.h0
  have c1 := (blk_cell hb (t * 6+1)).trans hxt.h1
  have c2 := (blk_cell hb (t * 6+2)).trans hxt.h2
  have c3 := (blk_cell hb (t * 6+3)).trans hxt.h3
  have c4 := (blk_cell hb (t * 6+4)).trans hxt.h4
  have c5 := (blk_cell hb (t * 6+5)).trans hxt.h5
  dsimp only at c0 c1 c2 c3 c4 c5
  have f0 := blk_free hb (t * 6)
  have f1 := blk_free hb (t * 6+1)
  have f2 := blk_free hb (t * 6+2)
  have f3 := blk_free hb (t * 6+3)
  have f4 := blk_free hb (t * 6+4)
  have f5 := blk_free hb (t * 6+5)
  have HT := Lib.hid hxt
  clear hb hx ho hd hX hxt hM hot
  go_enter Try.func50, Try.ntmps50
  go_upto_region 2 with fail
  go_cut [8] (fun m wx => ∃ mv, m = .bool mv ∧ Hid (mv = (!he || writes && !ow)) ∧ w = wx)
  case first =>
    cases he <;> cases writes <;> cases ow <;> (go_wp2; go_meet; exact ⟨_, rfl, rfl, rfl⟩)
  case rest =>
  obtain ⟨mv, rfl, hmv, rfl⟩ := hcut
  go_upto_region 3 with fail
  go_cut [11] (fun m wx => ∃ lo, m = .bool lo ∧ Hid (lo = (!he && wh || he && writes && !ow && wo)) ∧ w = wx)
  case first =>
    cases he <;> cases writes <;> cases ow <;> (go_wp2 <;> (go_meet; refine ⟨_, rfl, ?_, rfl⟩; show _ = _; first | rfl | simp_all))
  case rest =>
  obtain ⟨lo, rfl, hlo, rfl⟩ := hcut
  go_upto_region 4 with fail
  go_cut [9] (fun m wx => ∃ wr, m = .bool wr ∧ Hid (wr = (mv && lo && !(decide (cell ∈ os)))) ∧ w = wx)
  case first =>
    cases mv
    · go_wp2; go_meet; exact ⟨_, rfl, rfl, rfl⟩
    · cases lo
      · go_wp2; go_meet; exact ⟨_, rfl, rfl, rfl⟩
      · cases M with
        | none =>
          have hos : os = [] := HOt.out.1
          have HOS := Lib.hid hos
          clear hos
          have hl := mget_nil (P := Try.prog) (w := w) Try.underlying82 Try.underlying3 (zero4 w) cell
          go_wp2; go_meet; refine ⟨_, rfl, ?_, rfl⟩; show _ = _; rw [HOS.out]; rfl
        | some m =>
          have him : IMap w m (setKv os) := HOt.out
          have hl := him.lookup Try.underlying82 Try.underlying3 (zero4 _) cell false
          rw [if_neg (by simp), mget_set] at hl
          clear him
          by_cases hin : cell ∈ os
          · rw [if_pos hin, Option.getD_some] at hl
            go_wp2; go_meet; refine ⟨_, rfl, ?_, rfl⟩; show _ = _; simp [hin]
          · rw [if_neg hin, Option.getD_none] at hl
            go_wp2; go_meet; refine ⟨_, rfl, ?_, rfl⟩; show _ = _; simp [hin]
  case rest =>
  obtain ⟨wr, rfl, hwr, rfl⟩ := hcut
  go_upto_if 82 with fail
  go_cut [10] (fun m wx => m = .pointer (some ⟨b, t * 6, none⟩) ∧ Mid w wx b (t * 6) c T ⟨he, ow, wh, he && wo, li, os⟩ M)
  case first =>
    cases he
    · go_wp2; go_meet; exact ⟨rfl, ⟨_, blk_set HB.out _ _, HT.out.set3 false, (Out.refl c _).set 3 (by omega) _⟩, (Fr.refl _ _).setCell _ _ (.inr rfl)⟩
    · go_wp2; go_meet; exact ⟨rfl, ⟨c, HB.out, HT.out, Out.refl c _⟩, Fr.refl _ _⟩
  case rest =>
  obtain ⟨rfl, hmid⟩ := hcut
  clear c0 c1 c2 c3 c4 c5 f0 f1 f2 f3 f4 f5
  obtain ⟨⟨d1, hb1, hx1, ho1⟩, hf1⟩ := hmid
  have k0 := (blk_cell hb1 (t * 6)).trans hx1.h0
  have k1 := (blk_cell hb1 (t * 6+1)).trans hx1.h1
  have k2 := (blk_cell hb1 (t * 6+2)).trans hx1.h2
  have k3 := (blk_cell hb1 (t * 6+3)).trans hx1.h3
  have k4 := (blk_cell hb1 (t * 6+4)).trans hx1.h4
  dsimp only at k0 k1 k2 k3 k4
  have g0 := blk_free hb1 (t * 6)
  have g1 := blk_free hb1 (t * 6+1)
  have g2 := blk_free hb1 (t * 6+2)
  have g3 := blk_free hb1 (t * 6+3)
  have g4 := blk_free hb1 (t * 6+4)
  have G1 := Lib.hid (And.intro hb1 (And.intro hx1 (And.intro ho1 hf1)))
  clear hb1 hx1 ho1 hf1
  go_upto_if 92 with fail
  go_cut [10] (fun m wx => m = .pointer (some ⟨b, t * 6, none⟩) ∧ Mid w wx b (t * 6) c T ⟨true, ow || writes, true, (he && wo) || writes, li, os⟩ M)
  case first =>
    obtain ⟨hb1, hx1, ho1, hf1⟩ := G1.out
    cases writes
    · go_wp2; go_meet; exact ⟨rfl, ⟨_, blk_set (blk_set hb1 _ _) _ _, by simpa using (hx1.set0 true).set2 true, (ho1.set 0 (by omega) _).set 2 (by omega) _⟩, (hf1.setCell ⟨b, t * 6, none⟩ _ (.inr rfl)).setCell ⟨b, t * 6 + 2, none⟩ _ (.inr rfl)⟩
    · go_wp2; go_meet; exact ⟨rfl, ⟨_, blk_set (blk_set (blk_set (blk_set hb1 _ _) _ _) _ _) _ _, by simpa using (((hx1.set0 true).set2 true).set1 true).set3 true, (((ho1.set 0 (by omega) _).set 2 (by omega) _).set 1 (by omega) _).set 3 (by omega) _⟩, (((hf1.setCell ⟨b, t * 6, none⟩ _ (.inr rfl)).setCell ⟨b, t * 6 + 2, none⟩ _ (.inr rfl)).setCell ⟨b, t * 6 + 1, none⟩ _ (.inr rfl)).setCell ⟨b, t * 6 + 3, none⟩ _ (.inr rfl)⟩
  case rest =>
  obtain ⟨rfl, hmid⟩ := hcut
  clear k0 k1 k2 k3 k4 g0 g1 g2 g3 g4
  obtain ⟨⟨d2, hb2, hx2, ho2⟩, hf2⟩ := hmid
  have k0 := (blk_cell hb2 (t * 6)).trans hx2.h0
  have k1 := (blk_cell hb2 (t * 6+1)).trans hx2.h1
  have k2 := (blk_cell hb2 (t * 6+2)).trans hx2.h2
  have k3 := (blk_cell hb2 (t * 6+3)).trans hx2.h3
  have k4 := (blk_cell hb2 (t * 6+4)).trans hx2.h4
  dsimp only at k0 k1 k2 k3 k4
  have g0 := blk_free hb2 (t * 6)
  have g1 := blk_free hb2 (t * 6+1)
  have g2 := blk_free hb2 (t * 6+2)
  have g3 := blk_free hb2 (t * 6+3)
  have g4 := blk_free hb2 (t * 6+4)
  have G2 := Lib.hid (And.intro hb2 (And.intro hx2 (And.intro ho2 hf2)))
  clear hb2 hx2 ho2 hf2
  obtain ⟨w2, hw2⟩ : ∃ w2, w2 = wc := ⟨_, rfl⟩
  subst hw2
  go_upto_region 10 with fail
  go_cut [105] (fun m wx => m = .bool (ow || writes || mv) ∧ w2 = wx)
  case first =>
    cases how : ow || writes
    · rw [how] at k1; go_wp2; go_meet; exact ⟨by rw [how]; simp, rfl⟩
    · rw [how] at k1; go_wp2; go_meet; exact ⟨by rw [how]; simp, rfl⟩
  case rest =>
  obtain ⟨rfl, rfl⟩ := hcut
  go_upto_if 105 with fail
  go_cut [10] (fun m wx => m = .pointer (some ⟨b, t * 6, none⟩) ∧ Mid w wx b (t * 6) c T ⟨true, ow || writes, true, (he && wo) || writes, li && !(ow || writes || mv), os⟩ M)
  case first =>
    obtain ⟨hb2, hx2, ho2, hf2⟩ := G2.out
    cases how : ow || writes || mv
    · go_wp2; go_meet; exact ⟨rfl, ⟨_, hb2, by simpa [how] using hx2, ho2⟩, hf2⟩
    · go_wp2; go_meet; exact ⟨rfl, ⟨_, blk_set hb2 _ _, by simpa [how] using hx2.set4 false, ho2.set 4 (by omega) _⟩, hf2.setCell ⟨b, t * 6 + 4, none⟩ _ (.inr rfl)⟩
  case rest =>
  obtain ⟨rfl, hmid⟩ := hcut
  clear k0 k1 k2 k3 k4 g0 g1 g2 g3 g4
  obtain ⟨⟨d3, hb3, hx3, ho3⟩, hf3⟩ := hmid
  have G3 := Lib.hid (And.intro hb3 (And.intro hx3 (And.intro ho3 hf3)))
  clear hb3 hx3 ho3 hf3
  have hI0 : ∃ o', Four wc b T (half xs t cell writes 0) o' ∧ (∀ i, i < 4 → o' i = ot i ∨ ∃ m, o' i = some m ∧ w.heap.size ≤ m) ∧ Fr (fun j => j = b ∨ ∃ i, i < 4 ∧ some j = ot i) w wc := by
    obtain ⟨hb3, hx3, ho3, hf3⟩ := G3.out
    have hF : Four w b T xs ot := ⟨⟨c, HB.out, HX.out⟩, HO.out, HD.out⟩
    have hXt := HXt.out
    have hMt := HMt.out
    have hmine : (⟨true, ow || writes, true, (he && wo) || writes, li && !(ow || writes || mv), os⟩ : Copy) = (xs t).mine writes := by
      rw [hXt, hmv.out]; rfl
    rw [hmine] at hx3
    have hoth : Oth wc M ((xs t).mine writes) := by
      have h1 := HO.out t ht
      rw [hMt] at h1
      have h2 : Oth w M ((xs t).mine writes) := by
        cases M with
        | none =>
          refine ⟨h1.1, ?_⟩
          have := h1.2
          simp [Copy.mine, this]
        | some m => exact h1
      refine h2.blk fun m hm => hf3.blk m ?_ ?_
      · rw [hm] at h1; exact h1.lt
      · rw [hm] at h1; exact IMap.ne h1 HB.out
    have := hF.step ht HB.out hb3 hx3 ho3 hoth (.inl hMt.symm) (hf3.mono (fun _ _ h => .inl h))
    have e : upd xs t ((xs t).mine writes) = half xs t cell writes 0 := by
      funext i
      by_cases hi : i = t
      · subst hi; rw [upd_same]; simp [half]
      · rw [upd_other _ _ _ hi]; simp [half, hi]
    rw [e] at this
    refine ⟨_, this, fun i hi => ?_, hf3.mono (fun _ _ h => .inl h)⟩
    by_cases hit : i = t
    · subst hit; rw [upd_same]; exact .inl hMt.symm
    · rw [upd_other _ _ _ hit]; exact .inl rfl
  have HI0 := Lib.hid hI0
  have Hmv := Lib.hid (show mv = (xs t).moves writes by rw [HXt.out, hmv.out]; rfl)
  have Hwr := Lib.hid (show wr = (xs t).wrong cell writes by rw [hwr.out, hlo.out, hmv.out, HXt.out]; rfl)
  clear hI0 G1 G2 G3 hmv hlo hwr HB HX HO HD HXt HMt HOt HT
  obtain ⟨w3, hw3⟩ : ∃ w3, w3 = wc := ⟨_, rfl⟩
  subst hw3
  go_wp2_with fail
  go_loopw [109] (fun i wr => ∃ k : Nat, k ≤ 4 ∧ i = .int .i64 k ∧ Hid (∃ o', Four wr b T (half xs t cell writes k) o' ∧ (∀ i, i < 4 → o' i = ot i ∨ ∃ m, o' i = some m ∧ w.heap.size ≤ m) ∧ Fr (fun j => j = b ∨ ∃ i, i < 4 ∧ some j = ot i) w wr)) (fun i _ => 4 - (intOf i).toNat)
  case atStart => exact ⟨0, by omega, rfl, HI0⟩
  case round =>
    obtain ⟨k, hk, rfl, HI⟩ := hrel
    by_cases hlt : k < 4
    · by_cases hkt : k = t
      · subst hkt
        go_wp2_with fail
        go_roundw
        case rel => exact ⟨k + 1, by omega, by go_num, by rw [← half_own]; exact HI⟩
        case measure => simp [intOf]; omega
      · have hkt' : ((k : Int) != (t : Int)) = true := by simp; omega
        obtain ⟨o', hF, hn, hfr⟩ := HI.out
        obtain ⟨c', hc', hx'⟩ := hF.ex
        have hcall := sees_any wr b (k * 6) c' T (half xs t cell writes k k) (o' k) cell writes hc' (hx' k hlt) (hF.oth k hlt)
        have HC := Lib.hid hcall
        have HK := Lib.hid (And.intro hF (And.intro hn (And.intro hfr hc')))
        clear hcall hF hn hfr hc' hx'
        go_wp2_with (go_at_call 67; refine HC.out.mono ?_)
        rintro e w5 ⟨rfl, hS⟩
        have HS := Lib.hid hS
        clear hS
        go_wp2_with fail
        go_roundw
        case rel =>
          refine ⟨k + 1, by omega, by go_num, ?_⟩
          obtain ⟨hF, hn, hfr, hc'⟩ := HK.out
          obtain ⟨⟨c2, oth2, q1, q2, q3, q4, q5⟩, q6⟩ := HS.out
          have hF2 := hF.step hlt hc' q1 q2 q3 q4 q5 q6
          rw [half_step _ _ _ _ _ hkt] at hF2
          refine ⟨_, hF2, fun i hi => ?_, hfr.then q6 ?_⟩
          · by_cases hik : i = k
            · subst hik
              rw [upd_same]
              rcases q5 with q5 | ⟨m, q5, q7⟩
              · rw [q5]; exact hn i hi
              · exact .inr ⟨m, q5, Nat.le_trans hfr.size q7⟩
            · rw [upd_other _ _ _ hik]; exact hn i hi
          · rintro i hi (rfl | q)
            · exact .inl rfl
            · rcases hn k hlt with q8 | ⟨m, q8, q9⟩
              · exact .inr ⟨k, hlt, by rw [q, q8]⟩
              · rw [q8] at q
                cases q
                omega
        case measure => simp [intOf]; omega
    · obtain rfl : k = 4 := by omega
      go_wp2_with fail
      obtain ⟨o', h1, h2, h3⟩ := HI.out
      exact ⟨by rw [Hmv.out, Hwr.out]; rfl, ⟨⟨o', half_four (ot := ot) h1, h2⟩, h3⟩⟩
end Go.Proofs.Ytabplbalacldfaa
