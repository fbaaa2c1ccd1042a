/- The reference's manager: Out. -/
import Derived.Test.YtcgcljmnnjalpaaGreatGrH
set_option linter.unusedVariables false
set_option linter.unusedSimpArgs false
namespace Go.Proofs.YtcgcljmnnjalpaaGreat
open Go.RowKit Go.Kx
open Go.ChangeMaps (setBlock)
theorem encR_upd (x : Itm) {t : Nat} (ht : t < 4) : (encR x).set (4 + t) (.bool false) = encR (updQ t x) := by
  obtain rfl | rfl | rfl | rfl : t = 0 ∨ t = 1 ∨ t = 2 ∨ t = 3 := by omega
  all_goals simp [encR, updQ, upd1]
theorem mapK_mem {α : Type} {f : α → α} {l : List α} {j : Nat} {x : α} (h : x ∈ mapK f l j) : ∃ y ∈ l, x = y ∨ x = f y := by
  unfold mapK at h
  rcases List.mem_append.1 h with h | h
  · obtain ⟨y, hy, rfl⟩ := List.mem_map.1 h
    exact ⟨y, List.mem_of_mem_take hy, .inr rfl⟩
  · exact ⟨x, List.mem_of_mem_drop h, .inl rfl⟩
/-- While the items are turned. -/
def itK (s : RS) (t j : Nat) : RS := { clrS (insS s t false) t with items := mapK (updQ t) s.items j }
theorem itK_end (s : RS) (t : Nat) : itK s t s.items.length = outS0 s t := by
  unfold itK outS0 clrS insS mapK
  simp [updQ]
theorem itK_zero (s : RS) (t : Nat) : itK s t 0 = clrS (insS s t false) t := by
  unfold itK mapK
  simp [clrS, insS]
theorem itK_ok {s : RS} (h : Ok s) {t : Nat} (ht : t < s.n) (j : Nat) : Ok (itK s t j) := by
  have h1 := clr_ok (ins_ok h ht false) t
  refine ⟨h1.n1, h1.n4, h1.holds, h1.pos, h1.ins, fun x hx u hu => ?_, fun x hx => ?_, h1.now0⟩
  · obtain ⟨y, hy, rfl | rfl⟩ := mapK_mem hx
    · exact h.forI x hy u hu
    · show upd1 y.for_ t false u = false
      unfold upd1; split; rfl; exact h.forI y hy u hu
  · obtain ⟨y, hy, rfl | rfl⟩ := mapK_mem hx
    · exact h.addr x hy
    · exact h.addr y hy
set_option maxRecDepth 100000 in
set_option maxHeartbeats 4000000 in
theorem rOut {b : Nat} {w : World} {F : FP} {s : RS} (h : RM b w F s) (hs : s.items.length ≤ 200000) (hs2 : s.now ≤ 2000000) (t : Int) : Calls Tryz.prog 95 #[.pointer (some ⟨b, 0, none⟩), .int .i64 t] w (OpP (RM b) w F (outS s t)) := by
  refine cph fun R HR => ?_
  have hno := (rThreadNo h).2
  obtain ⟨vi, vb, kb, hv, hkl⟩ := h
  have hth := rThread hv t
  cases hok : okTh s t
  · rw [hok] at hth
    rw [show outS s t = ⟨s, [], 1⟩ by unfold outS; rw [hok]; rfl] at HR
    have HT := Lib.hid hth
    have HN := Lib.hid hno
    clear hv hkl hth hno hok
    go_enter Tryz.func95, Tryz.ntmps95
    go_wp2_with (go_at_call 122; refine HT.out.mono ?_; rintro e w' ⟨rfl, rfl⟩)
    exact HR.out _ _ HN.out
  · obtain ⟨T, rfl, hT⟩ : ∃ T : Nat, t = (T : Int) ∧ T < s.n := by
      unfold okTh at hok
      simp at hok
      exact ⟨t.toNat, by omega, by omega⟩
    have hT4 : T < 4 := by have := hv.ok.n4; omega
    have hTI : (T : Int) < 4 := by omega
    rw [hok] at hth
    have hout : outS s (T : Int) = if s.kind = 3 ∨ s.kind = 4 ∨ s.kind = 5 then sweepS (outS0 s T) (fun _ => true) else ⟨outS0 s T, [], 0⟩ := by
      unfold outS
      rw [hok]
      simp
    rw [hout] at HR
    obtain ⟨A, cap, rfl, hA⟩ := hv.shape
    have HA := Lib.hid hA
    have HT := Lib.hid hth
    have HV := Lib.hid (And.intro hv hkl)
    have hkk := hv.kind
    -- the stores
    have g1 := blk_free hv.blk (16 + T)
    have o1 := (blk_cell hv.blk _).trans (ref_ins s (.slice A s.items.length cap) vb hT4)
    obtain ⟨hv1, hf1⟩ := hv.poke (s' := insS s T false) (o := 16 + T) (v := .bool false) rfl (ins_ok hv.ok hT false) rfl rfl (arr_ins s _ vb hT4 false)
    obtain ⟨w1, hw1⟩ : ∃ w1, w.setCell ⟨b, 16 + T, none⟩ (.bool false) = w1 := ⟨_, rfl⟩
    rw [hw1] at hv1 hf1
    obtain ⟨⟨x0, y0⟩, ⟨x1, y1⟩, ⟨x2, y2⟩⟩ := hv1.three hT4 (.int .i64 0)
    obtain ⟨hv2, hf2⟩ := hv1.clr hT4
    obtain ⟨w2, hw2⟩ : ∃ w2, ((w1.setCell ⟨b, 4 + T * 3, none⟩ (.int .i64 0)).setCell ⟨b, 4 + T * 3 + 1, none⟩ (.int .i64 0)).setCell ⟨b, 4 + T * 3 + 2, none⟩ (.int .i64 0) = w2 := ⟨_, rfl⟩
    rw [hw2] at hv2 hf2
    rw [← itK_zero] at hv2
    have HFP := Lib.hid hv.fp
    have H2 : Hid (RMv b (.slice A s.items.length cap) vb kb w2 F (itK s T 0) ∧ Fr F w w2) := ⟨hv2, (hf1.trans hf2).mono fun i _ e => (hv.fp i).2 (.inl e)⟩
    clear hok hout hth hno hv hkl hA hv1 hv2 hf1 hf2
    go_enter Tryz.func95, Tryz.ntmps95
    go_wp2_with (go_at_call 122; refine HT.out.mono ?_; rintro e w' ⟨rfl, rfl⟩)
    go_loopw [6] (fun i wr => ∃ j : Nat, j ≤ s.items.length ∧ i = .int .i64 j ∧ Hid (RMv b (.slice A s.items.length cap) vb kb wr F (itK s T j) ∧ Fr F w wr)) (fun i _ => s.items.length - (intOf i).toNat)
    case atStart => exact ⟨0, by omega, rfl, H2.out⟩
    case round =>
      obtain ⟨j, hj, rfl, HO⟩ := hrel
      have k8 := (blk_cell HO.out.1.blk 28).trans (rfl : _ = some (Value.slice A s.items.length cap))
      by_cases hlt : j < s.items.length
      · obtain ⟨x, hx⟩ : ∃ x, s.items[j]? = some x := ⟨s.items[j], by simp [hlt]⟩
        obtain ⟨g, rfl⟩ := HA.out (by intro e; rw [e] at hlt; simp at hlt)
        have hji : (j : Int) < (s.items.length : Int) := by omega
        have hrow := HO.out.1.row
        have hitl : (itK s T j).items.length = s.items.length := mapK_len _ _ _
        rw [hitl] at hrow
        have hxm := mapK_at (updQ T) hx
        have hc := own_at encR_len hrow hxm (o := 4 + T) (by omega)
        have hc2 : ∃ y, wr.cell? ⟨g, j * 8 + (4 + T), none⟩ = some y := by
          rw [hc]
          obtain rfl | rfl | rfl | rfl : T = 0 ∨ T = 1 ∨ T = 2 ∨ T = 3 := by omega
          all_goals exact ⟨_, rfl⟩
        obtain ⟨y, hy⟩ := hc2
        rw [← Nat.add_assoc] at hy
        have hfz := hrow.frozenAt (j * 8 + 4 + T)
        have hst := (hrow.stored (j * 8 + 4 + T) (.bool false)).1
        have e2 : ((itK s T j).items.flatMap encR).set (j * 8 + 4 + T) (.bool false) = (itK s T (j + 1)).items.flatMap encR := by
          show ((mapK (updQ T) s.items j).flatMap encR).set (j * 8 + 4 + T) (.bool false) = (mapK (updQ T) s.items (j + 1)).flatMap encR
          rw [Nat.add_assoc, flat_set encR_len _ j x (updQ T x) (4 + T) _ hxm (by omega) (encR_upd x hT4), mapK_set (updQ T) hx]
        rw [e2] at hst
        have hne := HO.out.1.nei g rfl
        have hFg : F g := (HFP.out g).2 (.inr (.inl rfl))
        have hf3 : Fr (· = g) wr (wr.setCell ⟨g, j * 8 + 4 + T, none⟩ (.bool false)) := (Fr.refl _ _).setCell _ _ (.inr rfl)
        have H3 : Hid (RMv b (.slice (some ⟨g, 0, none⟩) s.items.length cap) vb kb (wr.setCell ⟨g, j * 8 + 4 + T, none⟩ (.bool false)) F (itK s T (j + 1)) ∧ Fr F w (wr.setCell ⟨g, j * 8 + 4 + T, none⟩ (.bool false))) := by
          have hv := HO.out.1
          refine ⟨⟨hv.kind, itK_ok HV.out.1.ok hT (j + 1), ?_, ?_, owns_fr hv.brow hf3 (fun k hk e => hne.2 (by rw [hk, e])), hv.born, hv.fp⟩, HO.out.2.setCell _ _ (.inr hFg)⟩
          · exact hf3.at_ hv.blk (fun e => hne.1 e.symm)
          · rw [show (itK s T (j + 1)).items.length = s.items.length from mapK_len _ _ _]
            exact hst
        clear hc hxm hst e2 hitl hrow hne hf3
        go_wp2_with fail
        go_roundw
        case rel => exact ⟨j + 1, by omega, by go_num, H3.out⟩
        case measure => simp [intOf] <;> omega
      · obtain rfl : j = s.items.length := by omega
        have hji : ¬ (s.items.length : Int) < (s.items.length : Int) := by omega
        have hv3 := HO.out.1
        rw [itK_end] at hv3
        have hq : RM b wr F (outS0 s T) := ⟨_, vb, kb, hv3, HV.out.2⟩
        have HQ := Lib.hid hq
        have hSw := rSweepAll hq (by simpa [outS0] using hs) hs2
        have HSw := Lib.hid hSw
        have k1 := (blk_cell hv3.blk 1).trans (rfl : _ = some (Value.int .i64 s.kind))
        have HSt : Hid (Step F w F wr) := ⟨HO.out.2, fun k hk => .inl hk⟩
        clear hv3 hq hSw
        by_cases hk : s.kind = 3 ∨ s.kind = 4 ∨ s.kind = 5
        · rw [if_pos hk] at HR
          rcases hk with hk | hk | hk
          all_goals
            rw [hk] at k1
            clear hk hkk
            go_wp2_with (go_at_call 123; refine HSw.out.mono ?_; intro e w9 ho; obtain ⟨v9, rfl, hp9⟩ := ho.toP HSt.out; have H9 := Lib.hid hp9; clear hp9 ho)
            exact HR.out _ _ H9.out
        · rw [if_neg hk] at HR
          have h3 : (s.kind == 3) = false := by simp; omega
          have h4 : (s.kind == 4) = false := by simp; omega
          have h5 : (s.kind == 5) = false := by simp; omega
          clear hk hkk
          go_wp2_with fail
          exact HR.out _ _ (OpP.none HQ.out HSt.out)
end Go.Proofs.YtcgcljmnnjalpaaGreat
