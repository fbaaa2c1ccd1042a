/- The statement LineAlone answers true, for every size, thread and list of accesses that memory holds. -/
import Derived.Test.YtabplbalacldfaaLAloneLaw
import Derived.BigQuiet
import Derived.Test.YtabplbalacldfaaKxD
set_option linter.unusedVariables false
set_option linter.unusedSimpArgs false
namespace Go.Proofs.Ytabplbalacldfaa
open Go.RowKit Go.Kx
theorem alone_take (t : Int) (l : List A3) (k : Nat) : aloneOf t (l.take k) = (aloneOf t l).take k := by simp [aloneOf]
theorem alone_length (t : Int) (l : List A3) : (aloneOf t l).length = l.length := by simp [aloneOf]
theorem alone_snoc {t x y z : Int} {l : List A3} {k : Nat} (h : l[k]? = some (x, y, z)) : accCells (aloneOf t (l.take (k + 1))) = accCells (aloneOf t (l.take k)) ++ [.int .i64 t, .int .i64 y, .int .i64 z] := by
  rw [take_snoc h]; simp [aloneOf, accCells]
def CountsP (w : World) (size : Int) (l : List A3) (e : Ending) (w' : World) : Prop := (goodB size l = true ∧ CountsGood w size l e w') ∨ (goodB size l = false ∧ e = .returned (.tuple #[.slice none 0 0, .int .i64 1]) ∧ Grow w w')
theorem counts_p (w : World) (A : Option Addr) (l : List A3) (cap : Nat) (size : Int) (hl : Acc w A l) (hn : l.length ≤ 1000) : Calls Try.prog 10 #[.int .i64 size, .slice A l.length cap] w (CountsP w size l) := by
  cases hg : goodB size l
  · refine (counts_any w A l cap size hl (by unfold maxLen; omega)).mono fun e w' ⟨h1, h2⟩ => ?_
    rw [hg] at h2
    exact .inr ⟨hg, h2, h1⟩
  · exact (counts_good w A l cap size hl (by unfold maxLen; omega) hg).mono fun e w' h => .inl ⟨hg, h⟩
set_option maxRecDepth 100000 in
set_option maxHeartbeats 4000000 in
theorem alone_any (w : World) (A : Option Addr) (l : List A3) (cap : Nat) (size : Int) (thread : Int) (hA : Arg w A l cap) :
    Calls Try.prog 3 #[.int .i64 size, .slice A l.length cap, .int .i64 thread] w (TrueP w) := by
  refine cph fun R HR => ?_
  have HA := Lib.hid hA
  clear hA
  by_cases h1 : (300 : Int) < (l.length : Int)
  · go_enter Try.func3, Try.ntmps3
    go_wp2_with (go_at_call 9; refine (sane_p _).mono ?_)
    rintro e w1 ⟨rfl, hg⟩
    have HG := Lib.hid hg
    clear hg
    go_wp2_with fail
    exact HR.out _ _ ⟨rfl, HG.out⟩
  · have h1' : (l.length : Int) ≤ 300 := by omega
    by_cases h2 : thread < 0
    · go_enter Try.func3, Try.ntmps3
      go_wp2_with (go_at_call 9; refine (sane_p _).mono ?_)
      rintro e w1 ⟨rfl, hg⟩
      have HG := Lib.hid hg
      clear hg
      go_wp2_with fail
      exact HR.out _ _ ⟨rfl, HG.out⟩
    · by_cases h3 : 4 ≤ thread
      · have h2' : 0 ≤ thread := by omega
        go_enter Try.func3, Try.ntmps3
        go_wp2_with (go_at_call 9; refine (sane_p _).mono ?_)
        rintro e w1 ⟨rfl, hg⟩
        have HG := Lib.hid hg
        clear hg
        go_wp2_with fail
        exact HR.out _ _ ⟨rfl, HG.out⟩
      · have h2' : 0 ≤ thread := by omega
        have h3' : thread < 4 := by omega
        clear h1 h2 h3
        obtain ⟨i0, hi, hz0, hz1, hz2⟩ := info_parts info24
        go_enter Try.func3, Try.ntmps3
        go_wp2_with fail
        go_loopw [7, 8] (fun v i wr => ∃ k : Nat, k ≤ l.length ∧ i = .int .i64 k ∧ Hid (wr.ownsRow w.heap.size 24 3 v k (accCells (aloneOf thread (l.take k))) ∧ Grow w wr)) (fun _ i _ => l.length - (intOf i).toNat)
        case atStart => exact ⟨0, by omega, rfl, World.ownsRow_nil _ _ _ _, Grow.refl _⟩
        case round =>
          obtain ⟨k, hk, rfl, HI⟩ := hrel
          by_cases hlt : k < l.length
          · obtain ⟨⟨x, y, z⟩, hx⟩ : ∃ x, l[k]? = some x := ⟨l[k], by simp [hlt]⟩
            obtain ⟨b, off, hAe, hacc⟩ := HA.out.acc.resolve_left (by rintro rfl; simp at hlt)
            obtain ⟨c0, c1, c2⟩ := (hacc.grow HI.out.2) k _ hx
            subst hAe
            dsimp only at c0 c1 c2
            have HX := Lib.hid hx
            clear hx hacc
            have hk0 : (0 : Int) ≤ (k : Int) := by omega
            have hk1 : (k : Int) < (l.length : Int) := by omega
            have HI' : Hid (wr.drew.ownsRow w.heap.size 24 3 u7 k (accCells (aloneOf thread (l.take k))) ∧ Grow w wr) := ⟨HI.out.1, HI.out.2⟩
            have hbs : w.heap.size ≤ wr.heap.size := HI.out.2.size
            have hn63 : Hid (k + 1 ≤ maxLen) := by show _ ≤ _; unfold maxLen; omega
            go_upto_block 1 with fail
            go_cut [7] (fun v wx => Hid (wx.ownsRow w.heap.size 24 3 v (k + 1) (accCells (aloneOf thread (l.take (k + 1)))) ∧ Grow w wx))
            case first =>
              go_wp2_with fail
              go_region_law (refine step_append_own rfl (.tmp 36) (.tmp 49) 22 rfl w.heap.size 24 i0 (.agg #[.int .i64 0, .int .i64 0, .int .i64 0]) 3 24 Try.underlying22 hi hz0 hz1 hz2 rfl (by decide) u7 k (accCells (aloneOf thread (l.take k))) rfl (HI'.out.1.alloc _) ⟨wr.heap.size, 0, none⟩ 1 1 [.int .i64 thread, .int .i64 y, .int .i64 z] rfl rfl (cells_new wr.drew [.int .i64 thread, .int .i64 y, .int .i64 z] 24) (by simp [Value.oneCell']) hn63.out (by omega) (by simp; omega) ?_; intro v1 w1 hown1 hgrow1 _ hat1)
              all_goals (have H1 := Lib.hid (And.intro hown1 hgrow1); clear hown1 hgrow1 hat1)
              all_goals go_wp2_with fail
              all_goals go_meet
              all_goals
                refine ⟨?_, (HI'.out.2.drew.alloc _).grown H1.out.2 (fun j hj => (HI'.out.1.lt j hj).1)⟩
                rw [alone_snoc HX.out]
                exact H1.out.1
            case rest =>
            have H2 := hcut
            clear hcut
            go_wp2_with fail
            go_roundw
            case rel => exact ⟨k + 1, by omega, by go_num, H2⟩
            case measure => simp [intOf]; omega
          · obtain rfl : k = l.length := by omega
            have hal := alone_length thread l
            have hrow := HI.out.1
            rw [List.take_length, ← hal] at hrow
            obtain ⟨A2, cap2, rfl, hacc2, hnone2⟩ := acc_owns hrow
            have HC := Lib.hid (counts_p wr A2 (aloneOf thread l) cap2 size hacc2 (by omega))
            have HL := Lib.hid (And.intro hal hacc2)
            clear hrow hacc2 hnone2 hal
            go_wp2_with (go_at_call 10; refine HC.out.mono ?_)
            rintro e w2 (⟨hgood, g, cap3, rfl, hc3, hcell, hg, hlt2⟩ | ⟨hgood, rfl, hg⟩)
            · have HG := Lib.hid hg
              have HCE := Lib.hid hcell
              have HGO := Lib.hid hgood
              clear hg hcell hgood
              obtain ⟨p1, p2, p3, p4⟩ := good_parts HGO.out
              have HOK := Lib.hid p4
              clear p4 p3
              have HT := Lib.hid (show ∀ a ∈ aloneOf thread l, a.1 = thread by intro a ha; simp [aloneOf] at ha; obtain ⟨_, _, _, _, rfl⟩ := ha; rfl)
              have h300 : (l.length : Int) ≤ 300 := h1'
              go_wp2_with fail
              go_loopw [11, 12] (fun wn i wx => ∃ k : Nat, k ≤ (aloneOf thread l).length ∧ i = .int .i64 k ∧ wn = .int .i64 (wantN size (aloneOf thread l) k) ∧ Hid (Grow w2 wx)) (fun _ i _ => (aloneOf thread l).length - (intOf i).toNat)
              case atStart => exact ⟨0, by omega, rfl, rfl, Grow.refl _⟩
              case round =>
                obtain ⟨i, hi2, rfl, rfl, HI2⟩ := hrel
                by_cases hilt : i < (aloneOf thread l).length
                · obtain ⟨⟨xi, yi, zi⟩, hxi⟩ : ∃ x, (aloneOf thread l)[i]? = some x := ⟨(aloneOf thread l)[i], by simp [hilt]⟩
                  obtain ⟨b2, off2, hAe2, hacc2⟩ := HL.out.2.resolve_left (by intro e; rw [e] at hilt; simp at hilt)
                  subst hAe2
                  have hbi := HOK.out _ (List.mem_of_getElem? hxi)
                  simp [bad] at hbi
                  obtain ⟨⟨⟨⟨⟨_, _⟩, d3⟩, d4⟩, d5⟩, d6⟩ := hbi
                  have HAC := Lib.hid (hacc2.grow HG.out)
                  have HXI := Lib.hid hxi
                  have hwle := wantN_le size (aloneOf thread l) i
                  have hall := HL.out.1
                  have hw300 : ((wantN size (aloneOf thread l) i : Nat) : Int) ≤ 300 := by omega
                  have hi300 : (i : Int) ≤ 300 := by omega
                  clear hxi hacc2
                  have hilen : i < (aloneOf thread l).length := hilt
                  go_wp2_with fail
                  go_loopw [13, 14, 15, 16] (fun f r wt kk wy => ∃ k : Nat, k ≤ i ∧ kk = .int .i64 k ∧ ∃ s : Sc, f = .bool s.first ∧ r = .bool s.read ∧ wt = .bool s.wrote ∧ Hid (s = scan size (yi / size) ((aloneOf thread l).take k) ∧ Grow w2 wy)) (fun _ _ _ kk _ => i - (intOf kk).toNat)
                  case atStart => exact ⟨0, by omega, rfl, ⟨true, false, false⟩, rfl, rfl, rfl, rfl, HI2.out⟩
                  case round =>
                    obtain ⟨k, hki, rfl, s, rfl, rfl, rfl, HI3⟩ := hrel
                    by_cases hlt : k < i
                    · obtain ⟨⟨xk, yk, zk⟩, hxk⟩ : ∃ x, (aloneOf thread l)[k]? = some x := ⟨(aloneOf thread l)[k]'(by omega), by simp⟩
                      have hbk := HOK.out _ (List.mem_of_getElem? hxk)
                      simp [bad] at hbk
                      obtain ⟨⟨⟨⟨⟨_, _⟩, g3⟩, g4⟩, g5⟩, g6⟩ := hbk
                      have q1 := ((HAC.out.grow HI3.out.2) k _ hxk).2.1
                      have q2 := ((HAC.out.grow HI3.out.2) k _ hxk).2.2
                      have q3 := ((HAC.out.grow HI3.out.2) i _ HXI.out).2.1
                      dsimp only at q1 q2 q3
                      have HXK := Lib.hid hxk
                      clear hxk
                      have e0 : (0 : Int) ≤ (k : Int) := by omega
                      have e1 : (k : Int) < ((aloneOf thread l).length : Int) := by omega
                      have e2 : (0 : Int) ≤ (i : Int) := by omega
                      have e3 : (i : Int) < ((aloneOf thread l).length : Int) := by omega
                      have e4 : k < (aloneOf thread l).length := by omega
                      have hz : zk = 0 ∨ zk = 1 := by omega
                      have HS := Lib.hid HI3.out.1
                      have HGW := Lib.hid HI3.out.2
                      by_cases hq : yk / size = yi / size
                      · have hqb : (yk / size == yi / size) = true := by simpa using hq
                        have HQ := Lib.hid hq
                        clear hq
                        obtain ⟨f, r, wt⟩ := s
                        rcases hz with rfl | rfl <;> cases r <;> cases wt
                        all_goals
                          go_wp2_with fail
                          go_quiet (fail)
                          go_wp2_with fail
                          go_roundw
                          case rel =>
                            refine ⟨k + 1, by omega, by go_num, ⟨_, _, _⟩, rfl, rfl, rfl, ?_, HGW.out.drewN _⟩
                            rw [scan_snoc HXK.out, ← HS.out]
                            simp [scStep, HQ.out]
                          case measure => simp [intOf]; omega
                      · have hqb : (yk / size == yi / size) = false := by simpa using hq
                        have HQ := Lib.hid hq
                        clear hq
                        go_wp2_with fail
                        go_quiet (fail)
                        go_wp2_with fail
                        go_roundw
                        case rel =>
                          refine ⟨k + 1, by omega, by go_num, s, rfl, rfl, rfl, ?_, HGW.out.drewN _⟩
                          rw [scan_snoc HXK.out, ← HS.out]
                          simp [scStep, HQ.out]
                        case measure => simp [intOf]; omega
                    · obtain rfl : k = i := by omega
                      have q2 := ((HAC.out.grow HI3.out.2) k _ HXI.out).2.2
                      dsimp only at q2
                      have e2 : (0 : Int) ≤ (k : Int) := by omega
                      have e3 : (k : Int) < ((aloneOf thread l).length : Int) := by omega
                      have hz : zi = 0 ∨ zi = 1 := by omega
                      have hend : ∀ (b : Bool), hit s (xi, yi, zi) = b → wantN size (aloneOf thread l) (k + 1) = wantN size (aloneOf thread l) k + if b then 1 else 0 := by
                        intro b hb
                        rw [wantN_succ HXI.out, ← HI3.out.1, hb]
                      have HEND := Lib.hid hend
                      clear hend
                      obtain ⟨f, r, wt⟩ := s
                      cases f
                      · rcases hz with rfl | rfl
                        · go_wp2_with fail
                          go_roundw
                          case rel => exact ⟨k + 1, by omega, by go_num, by rw [HEND.out false (by simp [hit])]; simp, HI3.out.2⟩
                          case measure => simp [intOf]; omega
                        · cases wt
                          · cases r
                            · go_wp2_with fail
                              go_roundw
                              case rel => exact ⟨k + 1, by omega, by go_num, by rw [HEND.out false (by simp [hit])]; simp, HI3.out.2⟩
                              case measure => simp [intOf]; omega
                            · go_wp2_with fail
                              go_roundw
                              case rel => exact ⟨k + 1, by omega, by go_num, by rw [HEND.out true (by simp [hit])]; simp, HI3.out.2⟩
                              case measure => simp [intOf]; omega
                          · go_wp2_with fail
                            go_roundw
                            case rel => exact ⟨k + 1, by omega, by go_num, by rw [HEND.out false (by simp [hit])]; simp, HI3.out.2⟩
                            case measure => simp [intOf]; omega
                      · go_wp2_with fail
                        go_roundw
                        case rel => exact ⟨k + 1, by omega, by go_num, by rw [HEND.out true (by simp [hit])]; simp, HI3.out.2⟩
                        case measure => simp [intOf]; omega
                · obtain rfl : i = (aloneOf thread l).length := by omega
                  have hc := cnt_alone size thread.toNat (aloneOf thread l) (fun a ha => ⟨by rw [HT.out a ha]; omega, by
                    have hb := HOK.out a ha
                    simp [bad] at hb
                    omega⟩) _ (Nat.le_refl _)
                  rw [List.take_length] at hc
                  have HCN := Lib.hid hc
                  have hwle := wantN_le size (aloneOf thread l) (aloneOf thread l).length
                  clear hc
                  go_wp2_with fail
                  go_loopw [17] (fun tt wy => ∃ t : Nat, t ≤ 4 ∧ tt = .int .i64 t ∧ Hid (Grow w2 wy)) (fun tt _ => 4 - (intOf tt).toNat)
                  case atStart => exact ⟨0, by omega, rfl, HI2.out⟩
                  case round =>
                    obtain ⟨t, ht, rfl, HI3⟩ := hrel
                    by_cases hlt : t < 4
                    · have q1 := HI3.out.cell (HCE.out t 2 hlt (by omega))
                      have q2 := HI3.out.cell (HCE.out t 3 hlt (by omega))
                      rw [HCN.out.2.1 t] at q2
                      have e0 : (0 : Int) ≤ (t : Int) := by omega
                      have e1 : (t : Int) < 4 := by omega
                      by_cases htt : (t : Int) = thread
                      · have : t = thread.toNat := by omega
                        rw [this, HCN.out.1, ← this] at q1
                        have b1 : ((t : Int) == thread) = true := by simpa using htt
                        have b2 : ((t : Int) != thread) = false := by simpa using htt
                        have HTT := Lib.hid htt
                        clear htt this
                        go_wp2_with fail
                        go_roundw
                        case rel => exact ⟨t + 1, by omega, by go_num, HI3⟩
                        case measure => simp [intOf]; omega
                      · have : t ≠ thread.toNat := by omega
                        rw [HCN.out.2.2 t this] at q1
                        have b1 : ((t : Int) == thread) = false := by simpa using htt
                        have b2 : ((t : Int) != thread) = true := by simpa using htt
                        clear htt this
                        go_wp2_with fail
                        go_roundw
                        case rel => exact ⟨t + 1, by omega, by go_num, HI3⟩
                        case measure => simp [intOf]; omega
                    · obtain rfl : t = 4 := by omega
                      go_wp2_with (go_at_call 9; refine (sane_p _).mono ?_)
                      rintro e w3 ⟨rfl, hg⟩
                      have HG2 := Lib.hid hg
                      clear hg
                      go_wp2_with fail
                      exact HR.out _ _ ⟨rfl, HI.out.2.trans (HG.out.trans (HI3.out.trans HG2.out))⟩
            · have HG := Lib.hid hg
              clear hg
              go_wp2_with (go_at_call 9; refine (sane_p _).mono ?_)
              rintro e w3 ⟨rfl, hg⟩
              have HG2 := Lib.hid hg
              clear hg
              go_wp2_with fail
              exact HR.out _ _ ⟨rfl, HI.out.2.trans (HG.out.trans HG2.out)⟩
end Go.Proofs.Ytabplbalacldfaa
