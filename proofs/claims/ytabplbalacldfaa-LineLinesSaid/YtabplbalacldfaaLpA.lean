/- Slices of ints in the line chapter: what they are in memory, and that a call owns them; contracts of the reference's Ints, Has, Copy. -/
import Derived.Test.YtabplbalacldfaaLSame
import Derived.Test.YtabplbalacldfaaLArg
import Derived.Test.YtabplbalacldfaaShelf
import Derived.Lib.SlKeysI
import Derived.Shelf.Abstract
import Derived.Shelf.RegionOpen
import Derived.WalkKit
import Derived.Maps.AppendAt
import Derived.Deep.DeepCutAuto
import Derived.Deep.CutBlock
import Derived.Deep.QuietTactic
import Derived.BigQuiet
import Derived.StillTailTactics
import Derived.Deep.RegionLaw
set_option linter.unusedVariables false
set_option linter.unusedSimpArgs false
namespace Go.Proofs.Ytabplbalacldfaa
open Go.RowKit Go.Kx Go.Maps Go.Sort Go.Shelf
open Go.ChangeMaps (setBlock)
/-- A slice of ints as memory has it. -/
def IntsAt (w : World) (A : Option Addr) (l : List Int) : Prop := l = [] ∨ ∃ b off, A = some ⟨b, off, none⟩ ∧ ∀ j x, l[j]? = some x → w.cell? ⟨b, off + j, none⟩ = some (.int .i64 x)
theorem IntsAt.at_ {w : World} {A : Option Addr} {l : List Int} (h : IntsAt w A l) {k : Nat} (hk : k < l.length) : ∃ b off, A = some ⟨b, off, none⟩ ∧ w.cell? ⟨b, off + k, none⟩ = some (.int .i64 l[k]) := by
  obtain ⟨b, off, h1, h2⟩ := h.resolve_left (by rintro rfl; simp at hk)
  exact ⟨b, off, h1, h2 k _ (by simp [hk])⟩
theorem IntsAt.grow {w w' : World} {A : Option Addr} {l : List Int} (h : IntsAt w A l) (hg : Grow w w') : IntsAt w' A l :=
  h.imp (fun e => e) fun ⟨b, off, h1, h2⟩ => ⟨b, off, h1, fun j x hx => hg.cell (h2 j x hx)⟩
/-- What lies in a slice that the call made. -/
def Made (w : World) (l : List Int) (e : Ending) (w' : World) : Prop := ∃ v, e = .returned v ∧ w'.ownsRow w.heap.size 3 1 v l.length (l.map (Value.int .i64)) ∧ Grow w w'
/-- A slice that the call owns reads as its list. -/
theorem ints_of_own {w : World} {base : Nat} {v : Value} {n : Nat} {l : List Int} (h : w.ownsRow base 3 1 v n (l.map (Value.int .i64))) : ∃ A cap, v = .slice A l.length cap ∧ IntsAt w A l ∧ (A = none → cap = 0) := by
  have hl : l.length = n := by have := h.1; simpa using this
  rcases h.2 with ⟨rfl, h0⟩ | ⟨g, cap, cur, rfl, hb, hg, h1, h2, h3, h4⟩
  · have : l = [] := List.eq_nil_of_length_eq_zero (by omega)
    subst this
    exact ⟨none, 0, rfl, .inl rfl, fun _ => rfl⟩
  · subst hl
    refine ⟨some ⟨g, 0, none⟩, cap, rfl, .inr ⟨g, 0, rfl, fun j x hx => ?_⟩, fun h => by cases h⟩
    have := h.cells (g := g) (by simp [Value.ownBlock]) j (.int .i64 x) (by simp [hx])
    rw [Addr.add_lit] at this
    exact this
/-- A list in ascending order. -/
def srt (l : List Int) : List Int := l.mergeSort fun x y => decide (x ≤ y)
theorem srt_len (l : List Int) : (srt l).length = l.length := by simp [srt]
section
variable {wr : World}
theorem own_cell {base g n cap : Nat} {l : List Int} (h : wr.ownsRow base 3 1 (.slice (some ⟨g, 0, none⟩) n cap) n (l.map (Value.int .i64))) {j : Nat} (hj : j < l.length) : wr.cell? ⟨g, j, none⟩ = some (.int .i64 l[j]) := by
  have hl : l.length = n := by have := h.1; simpa using this
  rw [h.cellAt j (by omega)]
  simp [hj]
theorem own_ints {base g n cap : Nat} {l : List Int} (h : wr.ownsRow base 3 1 (.slice (some ⟨g, 0, none⟩) n cap) n (l.map (Value.int .i64))) : IntsAt wr (some ⟨g, 0, none⟩) l := by
  refine .inr ⟨g, 0, rfl, fun j x hx => ?_⟩
  obtain ⟨hj, rfl⟩ := List.getElem?_eq_some_iff.1 hx
  rw [Nat.zero_add]
  exact own_cell h hj
end
theorem info3x : (Try.prog.info? 3).map (fun i => (i.zero, i.size, i.bytes)) = some (some (.int .i64 0), 1, 8) := by kernel_rfl
def EqP (w : World) (b : Bool) (e : Ending) (w' : World) : Prop := e = .returned (.bool b) ∧ Grow w w'
set_option maxHeartbeats 1000000 in
theorem has_any {w : World} {A : Option Addr} {cap : Nat} {l : List Int} (h : IntsAt w A l) (n : Int) (hl : l.length ≤ 20000000000000) :
    Calls Try.prog 57 #[.slice A l.length cap, .int .i64 n] w fun e w' => e = .returned (.bool (l.any fun x => decide (x = n))) ∧ w = w' := by
  refine cph fun R HR => ?_
  have H := Lib.hid h
  clear h
  go_enter Try.func57, Try.ntmps57
  go_wp2_with fail
  go_loop [5] (fun i => ∃ k : Nat, k ≤ l.length ∧ i = .int .i64 k ∧ Hid (∀ x ∈ l.take k, x ≠ n)) (fun i => l.length - (intOf i).toNat)
  case atStart => exact ⟨0, Nat.zero_le _, rfl, fun x hx => by simp at hx⟩
  case round =>
    obtain ⟨k, hk, rfl, HK⟩ := hrel
    by_cases hlt : k < l.length
    · obtain ⟨b, off, rfl, hc⟩ := H.out.at_ hlt
      have hki : (k : Int) < (l.length : Int) := by omega
      have htk := List.take_succ_eq_append_getElem hlt
      have hmem := List.getElem_mem hlt
      have HH := Lib.hid (And.intro htk hmem)
      generalize l[k] = x at hc HH
      clear htk hmem
      by_cases hx : x = n
      · subst hx
        have e : (l.any fun y => decide (y = x)) = true := List.any_eq_true.2 ⟨x, HH.out.2, by simp⟩
        rw [e] at HR
        clear e
        go_wp2_with fail
        exact HR.out _ _ ⟨rfl, rfl⟩
      · have hx' : (x == n) = false := by simp [hx]
        go_wp2_with fail
        go_round
        case rel =>
          refine ⟨k + 1, by omega, by go_num, ?_⟩
          rw [HH.out.1]
          intro y hy
          rcases List.mem_append.1 hy with h | h
          · exact HK.out y h
          · rw [List.mem_singleton.1 h]; exact hx
        case measure => simp [intOf]; omega
    · have hki : ¬ (k : Int) < (l.length : Int) := by omega
      have e : (l.any fun y => decide (y = n)) = false := by
        rw [List.any_eq_false]
        intro y hy
        have := HK.out y (by rw [List.take_of_length_le (by omega)]; exact hy)
        simp [this]
      rw [e] at HR
      clear e
      go_wp2_with fail
      exact HR.out _ _ ⟨rfl, rfl⟩
set_option maxHeartbeats 1000000 in
theorem copy_any {w : World} {A : Option Addr} {cap : Nat} {l : List Int} (h : IntsAt w A l) (hA : A = none → cap = 0) (hl : l.length ≤ 1000000) : Calls Try.prog 79 #[.slice A l.length cap] w (Made w l) := by
  refine cph fun R HR => ?_
  have HA := Lib.hid h
  have HB := Lib.hid hA
  have hl8 : Hid ((l.map (Value.int .i64)).length = l.length * 1) := by show _ = _; simp
  have hn63 : Hid (0 + l.length ≤ maxLen) := by show _ ≤ _; unfold maxLen; omega
  have hone : Hid (∀ u ∈ l.map (Value.int .i64), u.oneCell' = true) := by
    show ∀ _, _
    intro u hu
    obtain ⟨x, _, rfl⟩ := List.mem_map.1 hu
    rfl
  clear h hA
  obtain ⟨i0, hi, hz0, hz1, hz2⟩ := info_parts info3x
  have hrow : Hid ((w.alloc (.cells #[] 3)).ownsRow w.heap.size 3 1 (.slice (some ⟨w.heap.size, 0, none⟩) 0 0) 0 []) := World.ownsRow_made w #[] 0 (Nat.le_refl _) (by decide) rfl
  go_enter Try.func79, Try.ntmps79
  go_wp2_with (at_builtin; refine wpList_append_any _ rfl (.tmp 3) (.tmp 4) 44 rfl w.heap.size 3 i0 (.int .i64 0) 1 8 Try.underlying44 hi hz0 hz1 hz2 rfl (by decide) _ 0 [] rfl hrow.out A l.length cap (l.map (Value.int .i64)) rfl hl8.out (fun e => ?_) (fun ad e => ?_) hone.out hn63.out (by omega) ?_ ?_)
  · refine ⟨?_, HB.out e⟩
    rcases HA.out with rfl | ⟨b, off, h1, _⟩
    · rfl
    · rw [e] at h1; cases h1
  · intro j u hu
    rcases HA.out with rfl | ⟨b, off, h1, h2⟩
    · simp at hu
    · rw [e] at h1; cases h1
      simp only [List.getElem?_map, Option.map_eq_some_iff] at hu
      obtain ⟨x, hx, rfl⟩ := hu
      rw [Addr.add_lit]
      exact ((Grow.refl w).alloc (.cells #[] 3)).cell (h2 j x hx)
  · rw [size_alloc]; omega
  · intro v' w' hown hgrow _ _
    have HO := Lib.hid (And.intro hown hgrow)
    clear hown hgrow
    go_wp2_with fail
    refine HR.out _ _ ⟨v', rfl, by simpa using HO.out.1, ((Grow.refl w).alloc _).grown HO.out.2 (fun k hk => ?_)⟩
    have : w.heap.size = k := by simpa [Value.ownBlock] using hk
    omega
set_option maxHeartbeats 1000000 in
theorem ints_any {w : World} {A B : Option Addr} {c d : Nat} {l k : List Int} (h1 : IntsAt w A l) (h2 : IntsAt w B k) (hl : l.length ≤ 20000000000000) :
    Calls Try.prog 22 #[.slice A l.length c, .slice B k.length d] w (EqP w (l == k)) := by
  refine cph fun R HR => ?_
  by_cases hlen : l.length = k.length
  · have H1 := Lib.hid h1
    have H2 := Lib.hid h2
    have HL := Lib.hid hlen
    have hlen' : ((l.length : Int) == (k.length : Int)) = true := by simp [hlen]
    have hlen2 : ((l.length : Int) != (k.length : Int)) = false := by simp [hlen]
    clear h1 h2 hlen
    go_enter Try.func22, Try.ntmps22
    go_wp2_with fail
    clear hlen' hlen2
    go_loopw [5] (fun i wr => ∃ j q : Nat, j ≤ l.length ∧ i = .int .i64 j ∧ Hid (l.take j = k.take j) ∧ wr = w.drewN q) (fun i _ => l.length - (intOf i).toNat)
    case atStart => exact ⟨0, 0, Nat.zero_le _, rfl, rfl, rfl⟩
    case round =>
      obtain ⟨j, q, hj, rfl, HJ, rfl⟩ := hrel
      by_cases hlt : j < l.length
      · have hlk : j < k.length := by rw [← HL.out]; exact hlt
        obtain ⟨b1, o1, rfl, hc1⟩ := H1.out.at_ hlt
        obtain ⟨b2, o2, rfl, hc2⟩ := H2.out.at_ hlk
        have t1 := List.take_succ_eq_append_getElem hlt
        have t2 := List.take_succ_eq_append_getElem hlk
        have hji : (j : Int) < (l.length : Int) := by omega
        have hjk : (j : Int) < (k.length : Int) := by omega
        have HH := Lib.hid (And.intro t1 t2)
        generalize l[j] = x at hc1 HH
        generalize k[j] = y at hc2 HH
        clear t1 t2 hlk
        by_cases hxy : x = y
        · subst hxy
          have e1 : (x != x) = false := by simp
          go_wp2_with fail
          go_quiet (fail)
          go_wp2_with fail
          go_roundw
          case rel => exact ⟨j + 1, _, by omega, by go_num, by show _ = _; rw [HH.out.1, HH.out.2, HJ.out], rfl⟩
          case measure => simp [intOf]; omega
        · have e : (l == k) = false := by
            rw [beq_eq_false_iff_ne]
            rintro rfl
            have := HH.out.1.symm.trans HH.out.2
            simp at this
            exact hxy this
          rw [e] at HR
          have e1 : (x != y) = true := by simp [hxy]
          have e2 : (x == y) = false := by simp [hxy]
          clear e
          go_wp2_with fail
          go_quiet (fail)
          go_wp2_with fail
          exact HR.out _ _ ⟨rfl, ((Grow.refl w).drewN _).drewN _⟩
      · have hji : ¬ (j : Int) < (l.length : Int) := by omega
        have e : (l == k) = true := by
          rw [beq_iff_eq]
          have := HJ.out
          rwa [List.take_of_length_le (by omega), List.take_of_length_le (by rw [← HL.out]; omega)] at this
        rw [e] at HR
        clear e
        go_wp2_with fail
        exact HR.out _ _ ⟨rfl, (Grow.refl w).drewN _⟩
  · have e : (l == k) = false := by
      rw [beq_eq_false_iff_ne]
      rintro rfl
      exact hlen rfl
    rw [e] at HR
    have hlen' : ((l.length : Int) != (k.length : Int)) = true := by simp; omega
    have hlen2 : ((l.length : Int) == (k.length : Int)) = false := by simp; omega
    have hlen3 : decide (l.length = k.length) = false := by simp [hlen]
    clear e h1 h2 hlen
    go_enter Try.func22, Try.ntmps22
    go_wp2_with fail
    exact HR.out _ _ ⟨rfl, Grow.refl _⟩
end Go.Proofs.Ytabplbalacldfaa
