/- The reference's Total, Has, Copy, Valid; Ints. -/
import Derived.Test.YtacfchepacfjnaaOdH
set_option linter.unusedVariables false
set_option linter.unusedSimpArgs false
namespace Go.Proofs.Ytacfchepacfjnaa
open Go.RowKit Go.Kx Go.Maps Go.Sort Go.Shelf
set_option maxHeartbeats 1000000 in
theorem total_any {w : World} {A : Option Addr} {cap : Nat} {l : List Int} (h : IntsAt w A l) :
    Calls Try.prog 17 #[.slice A l.length cap] w fun e w' => e = .returned (.int .i64 (tot l)) ∧ w = w' := by
  refine cph fun R HR => ?_
  by_cases h1 : l.length < 1
  · have e : tot l = 0 := by unfold tot; rw [if_neg (by omega)]
    rw [e] at HR
    clear e h
    go_enter Try.func17, Try.ntmps17
    go_wp2_with fail
    exact HR.out _ _ ⟨rfl, rfl⟩
  · by_cases h2 : 4 < l.length
    · have e : tot l = 0 := by unfold tot; rw [if_neg (by omega)]
      rw [e] at HR
      clear e h
      go_enter Try.func17, Try.ntmps17
      go_wp2_with fail
      exact HR.out _ _ ⟨rfl, rfl⟩
    · have H := Lib.hid h
      have h4 : l.length ≤ 4 := by omega
      clear h
      go_enter Try.func17, Try.ntmps17
      go_wp2_with fail
      go_loop [3, 4] (fun n i => ∃ k : Nat, k ≤ l.length ∧ i = .int .i64 k ∧ n = .int .i64 (l.take k).sum ∧ Hid (∀ x ∈ l.take k, 0 ≤ x ∧ x ≤ 6)) (fun _ i => l.length - (intOf i).toNat)
      case atStart => exact ⟨0, Nat.zero_le _, rfl, rfl, fun x hx => by simp at hx⟩
      case round =>
        obtain ⟨k, hk, rfl, rfl, HK⟩ := hrel
        have hb := sum_bd HK.out
        have hl2 : (l.take k).length ≤ k := List.length_take_le _ _
        by_cases hlt : k < l.length
        · obtain ⟨b, off, rfl, hc⟩ := H.out.at_ hlt
          have hs := take_sum hlt
          have htk := List.take_succ_eq_append_getElem hlt
          have hmem := List.getElem_mem hlt
          have hki : (k : Int) < (l.length : Int) := by omega
          have HH := Lib.hid (And.intro hs (And.intro htk hmem))
          generalize l[k] = x at hc HH
          generalize hS : (l.take k).sum = s at hb HH ⊢
          clear hs htk hmem hS
          by_cases h0 : x < 0
          · have e : tot l = 0 := by
              unfold tot
              rw [if_neg]
              rintro ⟨_, _, hb⟩
              have := any_bad.1 hb x HH.out.2.2
              omega
            rw [e] at HR
            clear e
            go_wp2_with fail
            exact HR.out _ _ ⟨rfl, rfl⟩
          · by_cases h6 : 6 < x
            · have e : tot l = 0 := by
                unfold tot
                rw [if_neg]
                rintro ⟨_, _, hb⟩
                have := any_bad.1 hb x HH.out.2.2
                omega
              rw [e] at HR
              clear e
              go_wp2_with fail
              exact HR.out _ _ ⟨rfl, rfl⟩
            · go_wp2_with fail
              go_round
              case rel =>
                refine ⟨k + 1, by omega, by go_num, by rw [HH.out.1], ?_⟩
                rw [HH.out.2.1]
                intro y hy
                rcases List.mem_append.1 hy with h | h
                · exact HK.out y h
                · rw [List.mem_singleton.1 h]; omega
              case measure => simp [intOf]; omega
        · have hki : ¬ (k : Int) < (l.length : Int) := by omega
          have e : l.take k = l := List.take_of_length_le (by omega)
          have e2 : tot l = (l.take k).sum := by
            unfold tot
            rw [if_pos ⟨by omega, h4, any_bad.2 (by rw [← e]; exact HK.out)⟩, e]
          rw [e2] at HR
          clear e e2
          go_wp2_with fail
          exact HR.out _ _ ⟨rfl, rfl⟩
set_option maxHeartbeats 1000000 in
theorem has_any {w : World} {A : Option Addr} {cap : Nat} {l : List Int} (h : IntsAt w A l) (n : Int) (hl : l.length ≤ 20000000000000) :
    Calls Try.prog 40 #[.slice A l.length cap, .int .i64 n] w fun e w' => e = .returned (.bool (l.any fun x => decide (x = n))) ∧ w = w' := by
  refine cph fun R HR => ?_
  have H := Lib.hid h
  clear h
  go_enter Try.func40, Try.ntmps40
  go_wp2_with fail
  go_loop [5] (fun i => ∃ k : Nat, k ≤ l.length ∧ i = .int .i64 k ∧ Hid (∀ x ∈ l.take k, x ≠ n)) (fun i => l.length - (intOf i).toNat)
  case atStart => exact ⟨0, Nat.zero_le _, rfl, fun x hx => by simp at hx⟩
  case round =>
    obtain ⟨k, hk, rfl, HK⟩ := hrel
    by_cases hlt : k < l.length
    · obtain ⟨b, off, rfl, hc⟩ := H.out.at_ hlt
      have hki : (k : Int) < (l.length : Int) := by omega
      have htk := List.take_succ_eq_append_getElem hlt
      have hmem := List.getElem_mem hlt
      have HH := Lib.hid (And.intro htk hmem)
      generalize l[k] = x at hc HH
      clear htk hmem
      by_cases hx : x = n
      · subst hx
        have e : (l.any fun y => decide (y = x)) = true := List.any_eq_true.2 ⟨x, HH.out.2, by simp⟩
        rw [e] at HR
        clear e
        go_wp2_with fail
        exact HR.out _ _ ⟨rfl, rfl⟩
      · have hx' : (x == n) = false := by simp [hx]
        go_wp2_with fail
        go_round
        case rel =>
          refine ⟨k + 1, by omega, by go_num, ?_⟩
          rw [HH.out.1]
          intro y hy
          rcases List.mem_append.1 hy with h | h
          · exact HK.out y h
          · rw [List.mem_singleton.1 h]; exact hx
        case measure => simp [intOf]; omega
    · have hki : ¬ (k : Int) < (l.length : Int) := by omega
      have e : (l.any fun y => decide (y = n)) = false := by
        rw [List.any_eq_false]
        intro y hy
        have := HK.out y (by rw [List.take_of_length_le (by omega)]; exact hy)
        simp [this]
      rw [e] at HR
      clear e
      go_wp2_with fail
      exact HR.out _ _ ⟨rfl, rfl⟩
set_option maxHeartbeats 1000000 in
theorem copy_any {w : World} {A : Option Addr} {cap : Nat} {l : List Int} (h : IntsAt w A l) (hA : A = none → cap = 0) (hl : l.length ≤ 1000000) : Calls Try.prog 41 #[.slice A l.length cap] w (Made w l) := by
  refine cph fun R HR => ?_
  have HA := Lib.hid h
  have HB := Lib.hid hA
  have hl8 : Hid ((l.map (Value.int .i64)).length = l.length * 1) := by show _ = _; simp
  have hn63 : Hid (0 + l.length ≤ maxLen) := by show _ ≤ _; unfold maxLen; omega
  have hone : Hid (∀ u ∈ l.map (Value.int .i64), u.oneCell' = true) := by
    show ∀ _, _
    intro u hu
    obtain ⟨x, _, rfl⟩ := List.mem_map.1 hu
    rfl
  clear h hA
  obtain ⟨i0, hi, hz0, hz1, hz2⟩ := info_parts info3x
  have hrow : Hid ((w.alloc (.cells #[] 3)).ownsRow w.heap.size 3 1 (.slice (some ⟨w.heap.size, 0, none⟩) 0 0) 0 []) := World.ownsRow_made w #[] 0 (Nat.le_refl _) (by decide) rfl
  go_enter Try.func41, Try.ntmps41
  go_wp2_with (at_builtin; refine wpList_append_any _ rfl (.tmp 3) (.tmp 4) 22 rfl w.heap.size 3 i0 (.int .i64 0) 1 8 Try.underlying22 hi hz0 hz1 hz2 rfl (by decide) _ 0 [] rfl hrow.out A l.length cap (l.map (Value.int .i64)) rfl hl8.out (fun e => ?_) (fun ad e => ?_) hone.out hn63.out (by omega) ?_ ?_)
  · refine ⟨?_, HB.out e⟩
    rcases HA.out with rfl | ⟨b, off, h1, _⟩
    · rfl
    · rw [e] at h1; cases h1
  · intro j u hu
    rcases HA.out with rfl | ⟨b, off, h1, h2⟩
    · simp at hu
    · rw [e] at h1; cases h1
      simp only [List.getElem?_map, Option.map_eq_some_iff] at hu
      obtain ⟨x, hx, rfl⟩ := hu
      rw [Addr.add_lit]
      exact ((Grow.refl w).alloc (.cells #[] 3)).cell (h2 j x hx)
  · rw [size_alloc]; omega
  · intro v' w' hown hgrow _ _
    have HO := Lib.hid (And.intro hown hgrow)
    clear hown hgrow
    go_wp2_with fail
    refine HR.out _ _ ⟨v', rfl, by simpa using HO.out.1, ((Grow.refl w).alloc _).grown HO.out.2 (fun k hk => ?_)⟩
    have : w.heap.size = k := by simpa [Value.ownBlock] using hk
    omega
set_option maxHeartbeats 1000000 in
theorem ints_any {w : World} {A B : Option Addr} {c d : Nat} {l k : List Int} (h1 : IntsAt w A l) (h2 : IntsAt w B k) (hl : l.length ≤ 20000000000000) :
    Calls Try.prog 19 #[.slice A l.length c, .slice B k.length d] w (EqP w (l == k)) := by
  refine cph fun R HR => ?_
  by_cases hlen : l.length = k.length
  · have H1 := Lib.hid h1
    have H2 := Lib.hid h2
    have HL := Lib.hid hlen
    have hlen' : ((l.length : Int) == (k.length : Int)) = true := by simp [hlen]
    have hlen2 : ((l.length : Int) != (k.length : Int)) = false := by simp [hlen]
    clear h1 h2 hlen
    go_enter Try.func19, Try.ntmps19
    go_wp2_with fail
    clear hlen' hlen2
    go_loopw [5] (fun i wr => ∃ j q : Nat, j ≤ l.length ∧ i = .int .i64 j ∧ Hid (l.take j = k.take j) ∧ wr = w.drewN q) (fun i _ => l.length - (intOf i).toNat)
    case atStart => exact ⟨0, 0, Nat.zero_le _, rfl, rfl, rfl⟩
    case round =>
      obtain ⟨j, q, hj, rfl, HJ, rfl⟩ := hrel
      by_cases hlt : j < l.length
      · have hlk : j < k.length := by rw [← HL.out]; exact hlt
        obtain ⟨b1, o1, rfl, hc1⟩ := H1.out.at_ hlt
        obtain ⟨b2, o2, rfl, hc2⟩ := H2.out.at_ hlk
        have t1 := List.take_succ_eq_append_getElem hlt
        have t2 := List.take_succ_eq_append_getElem hlk
        have hji : (j : Int) < (l.length : Int) := by omega
        have hjk : (j : Int) < (k.length : Int) := by omega
        have HH := Lib.hid (And.intro t1 t2)
        generalize l[j] = x at hc1 HH
        generalize k[j] = y at hc2 HH
        clear t1 t2 hlk
        by_cases hxy : x = y
        · subst hxy
          have e1 : (x != x) = false := by simp
          go_wp2_with fail
          go_quiet (fail)
          go_wp2_with fail
          go_roundw
          case rel => exact ⟨j + 1, _, by omega, by go_num, by show _ = _; rw [HH.out.1, HH.out.2, HJ.out], rfl⟩
          case measure => simp [intOf]; omega
        · have e : (l == k) = false := by
            rw [beq_eq_false_iff_ne]
            rintro rfl
            have := HH.out.1.symm.trans HH.out.2
            simp at this
            exact hxy this
          rw [e] at HR
          have e1 : (x != y) = true := by simp [hxy]
          have e2 : (x == y) = false := by simp [hxy]
          clear e
          go_wp2_with fail
          go_quiet (fail)
          go_wp2_with fail
          exact HR.out _ _ ⟨rfl, ((Grow.refl w).drewN _).drewN _⟩
      · have hji : ¬ (j : Int) < (l.length : Int) := by omega
        have e : (l == k) = true := by
          rw [beq_iff_eq]
          have := HJ.out
          rwa [List.take_of_length_le (by omega), List.take_of_length_le (by rw [← HL.out]; omega)] at this
        rw [e] at HR
        clear e
        go_wp2_with fail
        exact HR.out _ _ ⟨rfl, (Grow.refl w).drewN _⟩
  · have e : (l == k) = false := by
      rw [beq_eq_false_iff_ne]
      rintro rfl
      exact hlen rfl
    rw [e] at HR
    have hlen' : ((l.length : Int) != (k.length : Int)) = true := by simp; omega
    have hlen2 : ((l.length : Int) == (k.length : Int)) = false := by simp; omega
    have hlen3 : decide (l.length = k.length) = false := by simp [hlen]
    clear e h1 h2 hlen
    go_enter Try.func19, Try.ntmps19
    go_wp2_with fail
    exact HR.out _ _ ⟨rfl, Grow.refl _⟩
end Go.Proofs.Ytacfchepacfjnaa
