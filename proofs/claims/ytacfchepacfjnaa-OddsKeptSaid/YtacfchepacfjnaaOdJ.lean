/- The reference's Valid and Schedule. -/
import Derived.Test.YtacfchepacfjnaaOdI
set_option linter.unusedVariables false
set_option linter.unusedSimpArgs false
namespace Go.Proofs.Ytacfchepacfjnaa
open Go.RowKit Go.Kx Go.Maps Go.Sort Go.Shelf
def hasN (l : List Int) (n : Int) : Bool := l.any fun x => decide (x = n)
/-- The reference's word for what isOrder asks. -/
def allN (l : List Int) (k : Nat) : Bool := (List.range k).all fun j => hasN l ((j : Int) + 1)
def okR (cs ps chs : List Int) : Bool := decide (0 < tot cs) && (decide (ps.length = cs.length) && (decide (chs.length ≤ 2) && (allN ps ps.length && !(chs.any (badAt (tot cs))))))
theorem allN_succ {l : List Int} {k : Nat} : allN l (k + 1) = (allN l k && hasN l ((k : Int) + 1)) := by
  simp [allN, List.range_succ]
theorem allN_le {l : List Int} {j k : Nat} (hj : j < k) (h : hasN l ((j : Int) + 1) = false) : allN l k = false := by
  unfold allN
  rw [List.all_eq_false]
  exact ⟨j, by simpa using hj, by simp [h]⟩
set_option maxRecDepth 20000 in
set_option maxHeartbeats 2000000 in
theorem refValid_any {w : World} {A B C : Option Addr} {ca cb cc : Nat} {cs ps chs : List Int} (h1 : IntsAt w A cs) (h2 : IntsAt w B ps) (h3 : IntsAt w C chs) :
    Calls Try.prog 18 #[.slice A cs.length ca, .slice B ps.length cb, .slice C chs.length cc] w fun e w' => e = .returned (.bool (okR cs ps chs)) ∧ w = w' := by
  refine cph fun R HR => ?_
  have HT := Lib.hid (total_any (cap := ca) h1)
  have hT := tot_bd cs
  have hokR : okR cs ps chs = (decide (0 < tot cs) && (decide (ps.length = cs.length) && (decide (chs.length ≤ 2) && (allN ps ps.length && !(chs.any (badAt (tot cs))))))) := rfl
  rw [hokR] at HR
  clear hokR
  have hn4 : 0 < tot cs → cs.length ≤ 4 := fun h => (tot_pos h).2.1
  generalize tot cs = T at HT HR hT hn4
  by_cases hv : 0 < T
  · have hn4 := hn4 hv
    by_cases hp : ps.length = cs.length
    · by_cases hc : chs.length ≤ 2
      · have e : (decide (0 < T) && (decide (ps.length = cs.length) && (decide (chs.length ≤ 2) && (allN ps ps.length && !(chs.any (badAt T)))))) = (allN ps ps.length && !(chs.any (badAt T))) := by simp [hv, hp, hc]
        rw [e] at HR
        have hp1 : ((ps.length : Int) != (cs.length : Int)) = false := by simp [hp]
        have hp2 : ((ps.length : Int) == (cs.length : Int)) = true := by simp [hp]
        have hc' : ¬ (2 : Int) < (chs.length : Int) := by omega
        have H2 := Lib.hid h2
        have H3 := Lib.hid h3
        have hps4 : ps.length ≤ 4 := by omega
        clear e h1 h2 h3 hp hn4
        go_enter Try.func18, Try.ntmps18
        go_wp2_with (go_at_call 17; refine HT.out.mono ?_; rintro e w' ⟨rfl, rfl⟩)
        clear hp1 hp2
        go_loop [8] (fun i => ∃ k : Nat, k ≤ ps.length ∧ i = .int .i64 k ∧ Hid (allN ps k = true)) (fun i => ps.length - (intOf i).toNat)
        case atStart => exact ⟨0, Nat.zero_le _, rfl, rfl⟩
        case round =>
          obtain ⟨k, hk, rfl, HK⟩ := hrel
          by_cases hlt : k < ps.length
          · have hki : (k : Int) < (ps.length : Int) := by omega
            have HH := Lib.hid (has_any (cap := cb) H2.out ((k : Int) + 1) (by omega))
            change Hid (Calls _ _ _ _ fun e w' => e = .returned (.bool (hasN ps ((k : Int) + 1))) ∧ w = w') at HH
            have hsucc := allN_succ (l := ps) (k := k)
            cases hh : hasN ps ((k : Int) + 1)
            · have e := allN_le hlt hh
              rw [e] at HR
              rw [hh] at HH
              clear e hh hsucc
              go_wp2_with (go_at_call 40; refine HH.out.mono ?_; rintro e w' ⟨rfl, rfl⟩)
              exact HR.out _ _ ⟨rfl, rfl⟩
            · rw [hh] at HH hsucc
              have HS := Lib.hid hsucc
              clear hh hsucc
              go_wp2_with (go_at_call 40; refine HH.out.mono ?_; rintro e w' ⟨rfl, rfl⟩)
              go_round
              case rel => exact ⟨k + 1, by omega, by go_num, by show _ = _; rw [HS.out, HK.out]; rfl⟩
              case measure => simp [intOf]; omega
          · have hki : ¬ (k : Int) < (ps.length : Int) := by omega
            have hke : k = ps.length := by omega
            have HK2 := HK.out
            rw [hke] at HK2
            rw [HK2] at HR
            clear HK HK2 hke hlt
            go_wp2_with fail
            go_loop [9] (fun i => ∃ j : Nat, j ≤ chs.length ∧ i = .int .i64 j ∧ Hid (∀ x ∈ chs.take j, badAt T x = false)) (fun i => chs.length - (intOf i).toNat)
            case atStart => exact ⟨0, Nat.zero_le _, rfl, fun x hx => by simp at hx⟩
            case round =>
              obtain ⟨j, hj, rfl, HJ⟩ := hrel
              by_cases hlt : j < chs.length
              · have hji : (j : Int) < (chs.length : Int) := by omega
                obtain ⟨b, off, rfl, hcz⟩ := H3.out.at_ hlt
                have htk := List.take_succ_eq_append_getElem hlt
                have hmem := List.getElem_mem hlt
                have HH := Lib.hid (And.intro htk hmem)
                generalize chs[j] = x at hcz HH
                clear htk hmem
                by_cases hx1 : x < -1
                · have e : chs.any (badAt T) = true := List.any_eq_true.2 ⟨x, HH.out.2, by simp [badAt, hx1]⟩
                  rw [e] at HR
                  clear e
                  go_wp2_with fail
                  exact HR.out _ _ ⟨rfl, rfl⟩
                · by_cases hx2 : T ≤ x
                  · have e : chs.any (badAt T) = true := List.any_eq_true.2 ⟨x, HH.out.2, by simp [badAt, hx2]⟩
                    rw [e] at HR
                    clear e
                    go_wp2_with fail
                    exact HR.out _ _ ⟨rfl, rfl⟩
                  · go_wp2_with fail
                    go_round
                    case rel =>
                      refine ⟨j + 1, by omega, by go_num, ?_⟩
                      rw [HH.out.1]
                      intro y hy
                      rcases List.mem_append.1 hy with h | h
                      · exact HJ.out y h
                      · rw [List.mem_singleton.1 h]; simp [badAt]; omega
                    case measure => simp [intOf]; omega
              · have hji : ¬ (j : Int) < (chs.length : Int) := by omega
                have e : chs.any (badAt T) = false := by
                  rw [List.any_eq_false]
                  intro y hy
                  have := HJ.out y (by rw [List.take_of_length_le (by omega)]; exact hy)
                  simp [this]
                rw [e] at HR
                clear e
                go_wp2_with fail
                exact HR.out _ _ ⟨rfl, rfl⟩
      · have e : (decide (0 < T) && (decide (ps.length = cs.length) && (decide (chs.length ≤ 2) && (allN ps ps.length && !(chs.any (badAt T)))))) = false := by simp [hc]
        rw [e] at HR
        have hp1 : ((ps.length : Int) != (cs.length : Int)) = false := by simp [hp]
        have hp2 : ((ps.length : Int) == (cs.length : Int)) = true := by simp [hp]
        have hc' : (2 : Int) < (chs.length : Int) := by omega
        clear e h1 h2 h3 hp hc
        go_enter Try.func18, Try.ntmps18
        go_wp2_with (go_at_call 17; refine HT.out.mono ?_; rintro e w' ⟨rfl, rfl⟩)
        exact HR.out _ _ ⟨rfl, rfl⟩
    · have e : (decide (0 < T) && (decide (ps.length = cs.length) && (decide (chs.length ≤ 2) && (allN ps ps.length && !(chs.any (badAt T)))))) = false := by simp [hp]
      rw [e] at HR
      have hp1 : ((ps.length : Int) != (cs.length : Int)) = true := by simp; omega
      have hp2 : ((ps.length : Int) == (cs.length : Int)) = false := by simp; omega
      have hp3 : decide (ps.length = cs.length) = false := by simp [hp]
      clear e h1 h2 h3 hp
      go_enter Try.func18, Try.ntmps18
      go_wp2_with (go_at_call 17; refine HT.out.mono ?_; rintro e w' ⟨rfl, rfl⟩)
      exact HR.out _ _ ⟨rfl, rfl⟩
  · have e : (decide (0 < T) && (decide (ps.length = cs.length) && (decide (chs.length ≤ 2) && (allN ps ps.length && !(chs.any (badAt T)))))) = false := by simp [hv]
    rw [e] at HR
    have hv' : T < 1 := by omega
    clear e h1 h2 h3 hv hn4
    go_enter Try.func18, Try.ntmps18
    go_wp2_with (go_at_call 17; refine HT.out.mono ?_; rintro e w' ⟨rfl, rfl⟩)
    exact HR.out _ _ ⟨rfl, rfl⟩
end Go.Proofs.Ytacfchepacfjnaa
