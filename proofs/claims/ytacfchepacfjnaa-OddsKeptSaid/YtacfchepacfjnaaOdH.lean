/- Schedule; the reference's Total, Has, Copy; Ints. -/
import Derived.Test.YtacfchepacfjnaaOdG
set_option linter.unusedVariables false
set_option linter.unusedSimpArgs false
namespace Go.Proofs.Ytacfchepacfjnaa
open Go.RowKit Go.Kx Go.Maps Go.Sort Go.Shelf
/-- What Schedule asks of a change. -/
def badAt (k at_ : Int) : Bool := decide (at_ < -1) || decide (k ≤ at_)
theorem badAt_any (w : World) (B : Nat) (k x : Int) (hB : Boxed w B 3 (.int .i64 k)) : Calls Try.prog 37 #[.int .i64 x, .pointer (some ⟨B, 0, none⟩)] w fun e w' => e = .returned (.bool (badAt k x)) ∧ w = w' := by
  refine cph fun R HR => ?_
  have hc := hB.cell
  clear hB
  by_cases h1 : x < -1
  · have e : badAt k x = true := by simp [badAt, h1]
    rw [e] at HR
    clear e
    go_enter Try.func37, Try.ntmps37
    go_wp2_with fail
    exact HR.out _ _ ⟨rfl, rfl⟩
  · by_cases h2 : k ≤ x
    · have e : badAt k x = true := by simp [badAt, h2]
      rw [e] at HR
      clear e
      go_enter Try.func37, Try.ntmps37
      go_wp2_with fail
      exact HR.out _ _ ⟨rfl, rfl⟩
    · have e : badAt k x = false := by simp [badAt]; omega
      rw [e] at HR
      clear e
      go_enter Try.func37, Try.ntmps37
      go_wp2_with fail
      exact HR.out _ _ ⟨rfl, rfl⟩
/-- Whether priorities and changes are those of counts. -/
def okP (cs ps chs : List Int) : Bool := decide (0 < tot cs) && (isOrd ps cs.length && (decide (chs.length ≤ 2) && !(chs.any (badAt (tot cs)))))
/-- A list that is made, and an error. -/
def MadeE (w : World) (ok : Bool) (l : List Int) (e : Ending) (w' : World) : Prop :=
  ∃ v, e = .returned (.tuple #[v, .int .i64 (if ok then 0 else 1)]) ∧ w'.ownsRow w.heap.size 3 1 v (if ok then l else []).length ((if ok then l else []).map (Value.int .i64)) ∧ Grow w w'
theorem MadeE.no {w w' : World} {l : List Int} (hg : Grow w w') : MadeE w false l (.returned (.tuple #[.slice none 0 0, .int .i64 1])) w' := ⟨_, rfl, World.ownsRow_nil _ _ _ _, hg⟩
set_option maxRecDepth 100000 in
set_option maxHeartbeats 2000000 in
theorem Schedule_any {w : World} {A B C : Option Addr} {ca cb cc : Nat} {cs ps chs : List Int} (h1 : IntsAt w A cs) (h2 : IntsAt w B ps) (h3 : IntsAt w C chs) :
    Calls Try.prog 15 #[.slice A cs.length ca, .slice B ps.length cb, .slice C chs.length cc] w (MadeE w (okP cs ps chs) (sched cs ps chs)) := by
  refine cph fun R HR => ?_
  have HV := Lib.hid (valid_any (cap := ca) h1)
  by_cases hv : 0 < tot cs
  · obtain ⟨n1, n4, hcv, hts⟩ := tot_pos hv
    have hvd : decide (0 < tot cs) = true := by simp [hv]
    rw [hvd] at HV
    have HO := Lib.hid (isOrder_any (cap := cb) h2 cs.length n1 n4)
    cases ho : isOrd ps cs.length
    · have e : okP cs ps chs = false := by simp [okP, ho]
      rw [e] at HR
      rw [ho] at HO
      clear e ho hv hvd hts hcv h1 h2 h3 n1 n4
      go_enter Try.func15, Try.ntmps15
      go_wp2_with (first | (go_at_call 16; refine HV.out.mono ?_; rintro e w' ⟨rfl, rfl⟩) | (go_at_call 34; refine HO.out.mono ?_; rintro e w' ⟨rfl, hg⟩; have HG := Lib.hid hg; clear hg))
      exact HR.out _ _ (MadeE.no HG.out)
    · rw [ho] at HO
      have hpl : ps.length = cs.length := by simp only [isOrd, Bool.and_eq_true, decide_eq_true_eq] at ho; exact ho.1
      by_cases hc2 : chs.length ≤ 2
      · have e1 : okP cs ps chs = !(chs.any (badAt (tot cs))) := by simp [okP, ho, hv, hc2]
        rw [e1] at HR
        have HSf := Lib.hid (fun (w1 : World) (hg : Grow w w1) => sum_any (w := w1) (cap := ca) (h1.grow hg) hcv (by omega))
        have HCf := Lib.hid (fun (w1 : World) (hg : Grow w w1) (bx : Boxed w1 (w1.heap.size - 1) 3 (.int .i64 (tot cs))) => contains_any (w := w1) (cap := cc) (g := 37) (lb := #[.pointer (some ⟨w1.heap.size - 1, 0, none⟩)]) (p := badAt (tot cs)) (h3.grow hg) (fun x _ => badAt_any w1 _ _ x bx) (enters_of Try.func37 (by kernel_rfl) rfl) (by omega))
        have HKf : Hid (∀ w1, Grow w w1 → Calls Try.prog 38 #[.slice A cs.length ca, .slice B ps.length cb, .slice C chs.length cc] w1 (Made w1 (sched cs ps chs))) := fun (w1 : World) (hg : Grow w w1) => by
          have h := schedule_any (w := w1) (ca := ca) (cb := cb) (cc := cc) (h1.grow hg) (h2.grow hg) (h3.grow hg) hcv n1 n4 rfl hpl hc2
          rw [show Value.slice B cs.length cb = Value.slice B ps.length cb by rw [hpl]] at h
          exact h
        have hts2 : cs.sum = tot cs := hts.symm
        rw [hts2] at HSf
        have hb := tot_bd cs
        generalize tot cs = T at HSf HCf HR hb
        clear e1 ho hv hvd hts hcv h1 h2 h3 n1 n4 hts2 hb hpl
        go_enter Try.func15, Try.ntmps15
        go_wp2_with (first | (go_at_call 16; refine HV.out.mono ?_; rintro e w' ⟨rfl, rfl⟩) | (go_at_call 34; refine HO.out.mono ?_; rintro e w1 ⟨rfl, hg⟩; have HG := Lib.hid hg; have HS := Lib.hid (HSf.out w1 hg); clear hg) | (go_at_call 35; refine HS.out.mono ?_; rintro e w' ⟨rfl, rfl⟩))
        have HC := Lib.hid (HCf.out (w1.alloc (.cells #[.int .i64 T] 3)) (HG.out.alloc _) (by rw [World.size_alloc]; exact Boxed.new w1 3 _))
        rw [World.size_alloc, Nat.add_sub_cancel] at HC
        have HK := Lib.hid (HKf.out (w1.alloc (.cells #[.int .i64 T] 3)) (HG.out.alloc _))
        clear HCf HKf
        refine HC.out.mono ?_
        rintro e w' ⟨rfl, rfl⟩
        clear HC HS HO HV HSf
        cases hca : chs.any (badAt T)
        · rw [hca] at HR
          clear hca
          go_wp2_with (go_at_call 38; refine HK.out.mono ?_; rintro e w' ⟨v, rfl, hrow, hg⟩; have H1 := Lib.hid (And.intro hrow hg); clear hrow hg)
          have hsz : w.heap.size ≤ w1.heap.size := HG.out.size
          exact HR.out _ _ ⟨_, rfl, own_base_le H1.out.1 (by rw [World.size_alloc]; omega), (HG.out.alloc _).trans H1.out.2⟩
        · rw [hca] at HR
          clear hca
          go_wp2_with fail
          exact HR.out _ _ (MadeE.no (HG.out.alloc _))
      · have e : okP cs ps chs = false := by simp [okP, hc2]
        have hc2' : (2 : Int) < (chs.length : Int) := by omega
        rw [e] at HR
        clear e ho hv hvd hts hcv h1 h2 h3 n1 n4 hpl
        go_enter Try.func15, Try.ntmps15
        go_wp2_with (first | (go_at_call 16; refine HV.out.mono ?_; rintro e w' ⟨rfl, rfl⟩) | (go_at_call 34; refine HO.out.mono ?_; rintro e w' ⟨rfl, hg⟩; have HG := Lib.hid hg; clear hg))
        exact HR.out _ _ (MadeE.no HG.out)
  · have hvd : decide (0 < tot cs) = false := by simpa using hv
    have e : okP cs ps chs = false := by simp [okP, hv]
    rw [e] at HR
    rw [hvd] at HV
    clear e hv hvd h1 h2 h3
    go_enter Try.func15, Try.ntmps15
    go_wp2_with (go_at_call 16; refine HV.out.mono ?_; rintro e w' ⟨rfl, rfl⟩)
    exact HR.out _ _ (MadeE.no (Grow.refl _))
end Go.Proofs.Ytacfchepacfjnaa
