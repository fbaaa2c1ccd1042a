/- The contract of the reference's judge, for every valid list and a size from 1 to 16. -/
import Derived.Test.YtabplbalacldfaaLBefore
set_option linter.unusedVariables false
set_option linter.unusedSimpArgs false
namespace Go.Proofs.Ytabplbalacldfaa
open Go.RowKit Go.Kx
def hitBy (x a : A3) : Bool := a.1 != x.1 && a.2.1 == x.2.1
def judgeOf (size : Int) (l : List A3) (at_ : Nat) (x : A3) : Bool × Bool :=
  let m := marks size x.1 (x.2.1 / size) l at_
  if (x.2.2 == 0 && m.inn) || (x.2.2 == 1 && m.own) then (false, false)
  else if decide (m.lost < 0) || (m.inn && !m.had) then (true, false)
  else (true, !((l.take at_).drop m.lost.toNat).any (hitBy x))
theorem any_hit {l : List A3} {x a : A3} {k p n : Nat} (h : l[k]? = some a) (hp : p ≤ k) (hk : k < n) (hh : hitBy x a = true) : ((l.take n).drop p).any (hitBy x) = true := by
  refine List.any_eq_true.2 ⟨a, List.mem_of_getElem? (i := k - p) ?_, hh⟩
  rw [List.getElem?_drop, List.getElem?_take, if_pos (by omega), show p + (k - p) = k by omega, h]
theorem any_none {l : List A3} {x : A3} {p n : Nat} (h : ∀ i a, p ≤ i → i < n → l[i]? = some a → hitBy x a = false) : ((l.take n).drop p).any (hitBy x) = false := by
  rw [List.any_eq_false]
  intro a ha
  obtain ⟨j, hj, rfl⟩ := List.getElem_of_mem ha
  have e : ((l.take n).drop p)[j]? = some ((l.take n).drop p)[j] := List.getElem?_eq_getElem hj
  have hj' := hj
  simp only [List.length_drop, List.length_take] at hj'
  rw [List.getElem?_drop, List.getElem?_take, if_pos (by omega)] at e
  simpa using h (p + j) _ (by omega) (by omega) e
set_option maxHeartbeats 4000000 in
theorem judge_any (w : World) (b off : Nat) (l : List A3) (cap : Nat) (size : Int) (at_ : Nat) (x : A3) (hA : AccAt w b off l) (hx : l[at_]? = some x) (hn : l.length ≤ 2000) (h1 : 1 ≤ size) (h16 : size ≤ 16) (hok : ∀ x ∈ l, bad x = false) :
    Calls Try.prog 31 #[.int .i64 size, .slice (some ⟨b, off, none⟩) l.length cap, .int .i64 at_] w fun e w' => e = .returned (.tuple #[.bool (judgeOf size l at_ x).1, .bool (judgeOf size l at_ x).2]) ∧ Grow w w' := by
  refine cph fun R HR => ?_
  have hat : at_ < l.length := (List.getElem?_eq_some_iff.1 hx).1
  have HB := Lib.hid (before_any w b off l cap size at_ x hA hx hn h1 h16 hok)
  have hbx := hok _ (List.mem_of_getElem? hx)
  have hcx := hA _ _ hx
  have HX := Lib.hid hx
  have HA := Lib.hid hA
  clear hA hx hok
  obtain ⟨t, cl, zz⟩ := x
  simp [bad] at hbx
  obtain ⟨⟨⟨⟨⟨bx1, bx2⟩, bx3⟩, bx4⟩, bx5⟩, bx6⟩ := hbx
  dsimp only at hcx HB
  have hbl := World.block_lt_of_cell? _ _ hcx.1
  dsimp only at hbl
  clear hcx
  obtain ⟨⟨inn, own, had, lost⟩, hm⟩ : ∃ m, m = marks size t (cl / size) l at_ := ⟨_, rfl⟩
  have hinv := marks_inv size t (cl / size) l at_
  rw [← hm] at HB hinv
  have HM := Lib.hid hm
  clear hm
  clear hinv
  dsimp only [markCells] at HB
  go_enter Try.func31, Try.ntmps31
  go_wp2_with (go_at_call 51; refine HB.out.mono ?_)
  rintro e w1 ⟨rfl, hg⟩
  have HG := Lib.hid hg
  obtain ⟨cx0, cx1, cx2⟩ := (HA.out.grow hg) _ _ HX.out
  dsimp only at cx0 cx1 cx2
  have hat0 : (0 : Int) ≤ (at_ : Int) := by omega
  have hati : (at_ : Int) < (l.length : Int) := by omega
  have hblr : b < w1.heap.size := by have := hg.size; omega
  clear hg
  have hneq : ¬ b = w1.heap.size := by omega
  have hneq' : ¬ b = w1.heap.size + 1 := by omega
  obtain ⟨w2, hw2⟩ : ∃ w2, w2 = (w1.alloc (Obj.cells #[Value.bool inn, .bool own, .bool had, .int .i64 lost] 94)).alloc (Obj.cells #[Value.int IntKind.i64 t, Value.int IntKind.i64 cl, Value.int IntKind.i64 zz] 24) := ⟨_, rfl⟩
  have HW := Lib.hid hw2
  go_upto_region 3 with fail
  go_cut [34] (fun v wx => v = .bool ((zz == 0 && inn) || (zz == 1 && own)) ∧ w2 = wx)
  case first =>
    rcases (show zz = 0 ∨ zz = 1 by omega) with hz | hz <;> subst hz <;> cases inn <;> cases own <;> (go_wp2; go_meet; exact ⟨rfl, HW.out⟩)
  case rest =>
  obtain ⟨rfl, rfl⟩ := hcut
  have m0 := HW.out.symm ▸ blk_alloc' (Obj.cells #[Value.int IntKind.i64 t, Value.int IntKind.i64 cl, Value.int IntKind.i64 zz] 24) (blk_new w1 (Obj.cells #[Value.bool inn, .bool own, .bool had, .int .i64 lost] 94))
  have m1 := blk_new (w1.alloc (Obj.cells #[Value.bool inn, .bool own, .bool had, .int .i64 lost] 94)) (Obj.cells #[Value.int IntKind.i64 t, Value.int IntKind.i64 cl, Value.int IntKind.i64 zz] 24)
  rw [← HW.out, size_alloc] at m1
  have hgw : Grow w1 w2 := by rw [HW.out]; exact ((Grow.refl _).alloc _).alloc _
  have HG2 := Lib.hid (HG.out.trans hgw)
  have hs2 : w1.heap.size + 1 < w2.heap.size := by have := blk_lt m1; omega
  have hs3 : b < w2.heap.size := by have := hgw.size; omega
  have e0 := blk_cell m0 0
  have e1 := blk_cell m0 1
  have e2 := blk_cell m0 2
  have e3 := blk_cell m0 3
  have a0 := blk_cell m1 0
  have a1 := blk_cell m1 1
  simp only [List.getElem?_toArray, List.getElem?_cons_zero, List.getElem?_cons_succ] at e0 e1 e2 e3 a0 a1
  clear m0 m1 hgw hw2 cx0 cx1 cx2
  cases hret : (zz == 0 && inn) || (zz == 1 && own)
  · go_upto_region 5 with fail
    go_cut [46] (fun v wx => v = .bool (decide (lost < 0) || (inn && !had)) ∧ w2 = wx)
    case first =>
      by_cases hlo : lost < 0 <;> cases inn <;> cases had <;> (go_wp2; go_meet; refine ⟨?_, rfl⟩; first | rfl | (simp [hlo]; done) | (simp; omega))
    case rest =>
    obtain ⟨rfl, rfl⟩ := hcut
    cases hr2 : decide (lost < 0) || (inn && !had)
    · have hlo : 0 ≤ lost := by simp at hr2; omega
      obtain ⟨p, rfl⟩ := Int.eq_ofNat_of_zero_le hlo
      go_wp2_with fail
      go_loopw [10] (fun i wr => ∃ k : Nat, p ≤ k ∧ i = .int .i64 k ∧ Hid (Grow w2 wr) ∧ Hid (∀ i a, p ≤ i → i < k → i < at_ → l[i]? = some a → hitBy (t, cl, zz) a = false)) (fun i _ => at_ - (intOf i).toNat)
      case atStart => exact ⟨p, Nat.le_refl _, rfl, Grow.refl _, fun i a h1 h2 => absurd h2 (by omega)⟩
      case round =>
        obtain ⟨k, hpk, rfl, HGR, HI⟩ := hrel
        by_cases hlt : k < at_
        · obtain ⟨⟨x, y, z⟩, hx⟩ : ∃ x, l[k]? = some x := ⟨l[k]'(by omega), by simp⟩
          obtain ⟨c0, c1, c2⟩ := (HA.out.grow (HG2.out.trans HGR.out)) k _ hx
          have a0 := HGR.out.cell a0
          have a1 := HGR.out.cell a1
          have hs2 : w1.heap.size + 1 < wr.heap.size := by have := HGR.out.size; omega
          have hs3 : b < wr.heap.size := by omega
          dsimp only at c0 c1 c2
          have HXK := Lib.hid hx
          clear hx c2
          have hlti : (k : Int) < (l.length : Int) := by omega
          have hk0 : (0 : Int) ≤ (k : Int) := by omega
          by_cases hth : x = t
          · have hd : (x != t) = false := by simp [hth]
            go_wp2_with fail
            go_quiet (fail)
            go_wp2_with fail
            go_roundw
            case rel =>
              refine ⟨k + 1, by omega, by go_num, HGR.out.drewN _, fun i a h1 h2 h3 h4 => ?_⟩
              by_cases hik : i = k
              · subst hik
                rw [HXK.out] at h4; cases h4
                simp [hitBy, hd]
              · exact HI.out i a h1 (by omega) h3 h4
            case measure => simp [intOf]; omega
          · have hd : (x != t) = true := by simp [hth]
            by_cases hcl : y = cl
            · have hd2 : (y == cl) = true := by simp [hcl]
              go_wp2_with fail
              go_quiet (fail)
              go_wp2_with fail
              refine HR.out _ _ ⟨?_, (HG2.out.trans HGR.out).drewN _⟩
              have ha := any_hit (x := (t, cl, zz)) HXK.out hpk hlt (by simp [hitBy, hd, hd2])
              simp [judgeOf, ← HM.out, hret, hr2, ha]
            · have hd2 : (y == cl) = false := by simp [hcl]
              go_wp2_with fail
              go_quiet (fail)
              go_wp2_with fail
              go_roundw
              case rel =>
                refine ⟨k + 1, by omega, by go_num, HGR.out.drewN _, fun i a h1 h2 h3 h4 => ?_⟩
                by_cases hik : i = k
                · subst hik
                  rw [HXK.out] at h4; cases h4
                  simp [hitBy, hd, hd2]
                · exact HI.out i a h1 (by omega) h3 h4
              case measure => simp [intOf]; omega
        · have hge : at_ ≤ k := by omega
          go_wp2_with fail
          refine HR.out _ _ ⟨?_, HG2.out.trans HGR.out⟩
          have ha := any_none (l := l) (x := (t, cl, zz)) (p := p) (n := at_) (fun i a h1 h2 h4 => HI.out i a h1 (by omega) h2 h4)
          simp [judgeOf, ← HM.out, hret, hr2, ha]
    · go_wp2_with fail
      refine HR.out _ _ ⟨?_, HG2.out⟩
      simp [judgeOf, ← HM.out, hret, hr2]
  · go_wp2_with fail
    refine HR.out _ _ ⟨?_, HG2.out⟩
    simp [judgeOf, ← HM.out, hret]
end Go.Proofs.Ytabplbalacldfaa
