/- same; Free. -/
import Derived.Test.YthkcihkeklojcaaHpP
set_option linter.unusedVariables false
set_option linter.unusedSimpArgs false
namespace Go.Proofs.Ythkcihkeklojcaa
open Go.RowKit Go.Kx
open Go.ChangeMaps (setBlock)
def EqP (w : World) (b : Bool) (e : Ending) (w' : World) : Prop := e = .returned (.bool b) ∧ Grow w w'
theorem IntsAt.at_ {w : World} {A : Option Addr} {l : List Int} (h : IntsAt w A l) {k : Nat} (hk : k < l.length) : ∃ b off, A = some ⟨b, off, none⟩ ∧ w.cell? ⟨b, off + k, none⟩ = some (.int .i64 l[k]) := by
  obtain ⟨b, off, h1, h2⟩ := h.resolve_left (by rintro rfl; simp at hk)
  exact ⟨b, off, h1, h2 k _ (by simp [hk])⟩
theorem IntsAt.grow {w w' : World} {A : Option Addr} {l : List Int} (h : IntsAt w A l) (hg : Grow w w') : IntsAt w' A l :=
  h.imp (fun e => e) fun ⟨b, off, h1, h2⟩ => ⟨b, off, h1, fun j x hx => hg.cell (h2 j x hx)⟩
set_option maxHeartbeats 1000000 in
theorem same_any {w : World} {A B : Option Addr} {c d : Nat} {l k : List Int} (h1 : IntsAt w A l) (h2 : IntsAt w B k) (hl : l.length ≤ 20000000000000) :
    Calls Try.prog 20 #[.slice A l.length c, .slice B k.length d] w (EqP w (l == k)) := by
  refine cph fun R HR => ?_
  by_cases hlen : l.length = k.length
  · have H1 := Lib.hid h1
    have H2 := Lib.hid h2
    have HL := Lib.hid hlen
    have hlen' : ((l.length : Int) == (k.length : Int)) = true := by simp [hlen]
    have hlen2 : ((l.length : Int) != (k.length : Int)) = false := by simp [hlen]
    clear h1 h2 hlen
    go_enter Try.func20, Try.ntmps20
    go_wp2_with fail
    clear hlen' hlen2
    go_loopw [5] (fun i wr => ∃ j q : Nat, j ≤ l.length ∧ i = .int .i64 j ∧ Hid (l.take j = k.take j) ∧ wr = w.drewN q) (fun i _ => l.length - (intOf i).toNat)
    case atStart => exact ⟨0, 0, Nat.zero_le _, rfl, rfl, rfl⟩
    case round =>
      obtain ⟨j, q, hj, rfl, HJ, rfl⟩ := hrel
      by_cases hlt : j < l.length
      · have hlk : j < k.length := by rw [← HL.out]; exact hlt
        obtain ⟨b1, o1, rfl, hc1⟩ := H1.out.at_ hlt
        obtain ⟨b2, o2, rfl, hc2⟩ := H2.out.at_ hlk
        have t1 := List.take_succ_eq_append_getElem hlt
        have t2 := List.take_succ_eq_append_getElem hlk
        have hji : (j : Int) < (l.length : Int) := by omega
        have hjk : (j : Int) < (k.length : Int) := by omega
        have HH := Lib.hid (And.intro t1 t2)
        generalize l[j] = x at hc1 HH
        generalize k[j] = y at hc2 HH
        clear t1 t2 hlk
        by_cases hxy : x = y
        · subst hxy
          have e1 : (x != x) = false := by simp
          go_wp2_with fail
          go_quiet (fail)
          go_wp2_with fail
          go_roundw
          case rel => exact ⟨j + 1, _, by omega, by go_num, by show _ = _; rw [HH.out.1, HH.out.2, HJ.out], rfl⟩
          case measure => simp [intOf]; omega
        · have e : (l == k) = false := by
            rw [beq_eq_false_iff_ne]
            rintro rfl
            have := HH.out.1.symm.trans HH.out.2
            simp at this
            exact hxy this
          rw [e] at HR
          have e1 : (x != y) = true := by simp [hxy]
          have e2 : (x == y) = false := by simp [hxy]
          clear e
          go_wp2_with fail
          go_quiet (fail)
          go_wp2_with fail
          exact HR.out _ _ ⟨rfl, ((Grow.refl w).drewN _).drewN _⟩
      · have hji : ¬ (j : Int) < (l.length : Int) := by omega
        have e : (l == k) = true := by
          rw [beq_iff_eq]
          have := HJ.out
          rwa [List.take_of_length_le (by omega), List.take_of_length_le (by rw [← HL.out]; omega)] at this
        rw [e] at HR
        clear e
        go_wp2_with fail
        exact HR.out _ _ ⟨rfl, (Grow.refl w).drewN _⟩
  · have e : (l == k) = false := by
      rw [beq_eq_false_iff_ne]
      rintro rfl
      exact hlen rfl
    rw [e] at HR
    have hlen' : ((l.length : Int) != (k.length : Int)) = true := by simp; omega
    have hlen2 : ((l.length : Int) == (k.length : Int)) = false := by simp; omega
    have hlen3 : decide (l.length = k.length) = false := by simp [hlen]
    clear e h1 h2 hlen
    go_enter Try.func20, Try.ntmps20
    go_wp2_with fail
    exact HR.out _ _ ⟨rfl, Grow.refl _⟩
theorem info3x : (Try.prog.info? 3).map (fun i => (i.zero, i.size, i.bytes)) = some (some (.int .i64 0), 1, 8) := by kernel_rfl
theorem take_map_succ {l : List (Int × Int)} {k : Nat} (hk : k < l.length) : ((l.map Prod.fst).take (k + 1)).map (Value.int .i64) = ((l.map Prod.fst).take k).map (Value.int .i64) ++ [.int .i64 l[k].1] := by
  rw [List.take_succ_eq_append_getElem (by simpa using hk), List.map_append]; simp
set_option maxRecDepth 100000 in
set_option maxHeartbeats 2000000 in
theorem Free_any {w : World} {base : Nat} {q : HB} {s : HS} (h : HeapAt w base q s) (hlen : s.free.length ≤ 1000) : Calls Try.prog 21 #[.pointer (some ⟨q.b, 0, none⟩)] w (Made w (s.free.map Prod.fst)) := by
  refine cph fun R HR => ?_
  have HN := Lib.hid (none_any h)
  obtain ⟨c0, c1, c2, c3, c4, c5⟩ := h.cell
  obtain ⟨a, c, hfv, hpl, _⟩ := places_at h
  rw [hfv] at c4
  have HP := Lib.hid hpl
  obtain ⟨i0, hi, hz0, hz1, hz2⟩ := info_parts info3x
  have HI := Lib.hid (And.intro hi (And.intro hz0 (And.intro hz1 hz2)))
  clear hi hz0 hz1 hz2 h hfv hpl
  generalize s.free = l at HR hlen c4 HP
  go_enter Try.func21, Try.ntmps21
  go_wp2_with (go_at_call 25; refine HN.out.mono ?_; rintro e w' ⟨rfl, rfl⟩)
  go_loopw [3, 13] (fun v i wr => ∃ k : Nat, k ≤ l.length ∧ i = .int .i64 k ∧ Hid (wr.ownsRow w.heap.size 3 1 v k (((l.map Prod.fst).take k).map (Value.int .i64)) ∧ Grow w wr)) (fun _ i _ => l.length - (intOf i).toNat)
  case atStart => exact ⟨0, Nat.zero_le _, rfl, World.ownsRow_nil _ _ _ _, Grow.refl _⟩
  case round =>
    obtain ⟨k, hk, rfl, HO⟩ := hrel
    by_cases hlt : k < l.length
    · have hki : (k : Int) < (l.length : Int) := by omega
      have hgs := HO.out.2.size
      obtain ⟨b, cap, hsv, hb, hcs⟩ := HP.out.resolve_left (by rintro ⟨_, rfl⟩; simp at hlt)
      have hab : a = some ⟨b, 0, none⟩ := by injection hsv
      subst hab
      obtain ⟨e0, e1⟩ := hcs k hlt
      have e0 := HO.out.2.cell e0
      have e1 := HO.out.2.cell e1
      rw [List.getElem?_eq_getElem hlt, Option.getD_some] at e0 e1
      have HT := Lib.hid (take_map_succ hlt)
      generalize l[k] = p at e0 e1 HT
      obtain ⟨pa, pz⟩ := p
      dsimp only at e0 e1 HT
      clear hsv hcs
      go_wp2_with (at_builtin; refine wpList_append_own_at _ rfl (.tmp 17) (.tmp 20) 22 rfl w.heap.size 3 i0 (.int .i64 0) 1 8 Try.underlying22 HI.out.1 HI.out.2.1 HI.out.2.2.1 HI.out.2.2.2 rfl (by decide) _ _ _ rfl ((HO.out.1.alloc _).alloc _) ⟨wr.heap.size + 1, 0, none⟩ 1 1 [.int .i64 pa] rfl rfl (by have := cell_one_new (wr.alloc (.cells #[.int .i64 pa, .int .i64 pz] 55)) (.int .i64 pa) 3; simpa using this) (by simp [Value.oneCell']) (by unfold maxLen; omega) (by omega) (by simp; omega) ?_; intro v' w1 hown hgrow _ hat; have H7 : Hid (w1.ownsRow w.heap.size 3 1 v' (k + 1) (((l.map Prod.fst).take (k + 1)).map (Value.int .i64)) ∧ Grow w w1) := ⟨by rw [HT.out]; exact hown, ((HO.out.2.alloc _).alloc _).grown hgrow (fun j e => (HO.out.1.lt j e).1)⟩; clear hown hgrow hat)
      go_roundw
      case rel => exact ⟨k + 1, by omega, by go_num, H7.out⟩
      case measure => simp [intOf]; omega
    · have hki : ¬ (k : Int) < (l.length : Int) := by omega
      obtain rfl : k = l.length := by omega
      have e : (l.map Prod.fst).take l.length = l.map Prod.fst := List.take_of_length_le (by simp)
      have HE := Lib.hid e
      clear e
      go_wp2_with fail
      exact HR.out _ _ ⟨_, rfl, by have := HO.out.1; rw [HE.out] at this; simpa using this, HO.out.2⟩
end Go.Proofs.Ythkcihkeklojcaa
