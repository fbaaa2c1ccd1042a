/- Play of the three deeds that awake does. -/
import Derived.Test.YtcgcljmnnjalpaaGreatGdE
set_option linter.unusedVariables false
set_option linter.unusedSimpArgs false
namespace Go.Proofs.YtcgcljmnnjalpaaGreat
open Go.RowKit Go.Kx
open Go.ChangeMaps (setBlock)
theorem infoL : (Tryz.prog.info? 34).map (fun i => (i.zero, i.size, i.bytes)) = some (some (.slice none 0 0), 1, 24) := by kernel_rfl
def deeds3 : Array Value := #[.int .i64 0, .int .i64 0, .int .i64 0, .int .i64 0, .int .i64 4, .int .i64 0, .int .i64 0, .int .i64 100, .int .i64 1, .int .i64 0, .int .i64 0, .int .i64 0]
def DeedsAt (w : World) (d : Nat) : Prop := w.heap[d]? = some (.cells deeds3 32 (0, 0))
def PlayP (w : World) (e : Ending) (w' : World) : Prop :=
  ∃ p c a2 c2 q c3, e = .returned (.tuple #[.slice (some ⟨p, 0, none⟩) 3 c, .int .i64 0]) ∧ w'.cell? ⟨p, 0, none⟩ = some (.slice none 0 0) ∧ w'.cell? ⟨p, 1, none⟩ = some (.slice a2 0 c2) ∧ w'.cell? ⟨p, 2, none⟩ = some (.slice (some ⟨q, 0, none⟩) 1 c3) ∧ w'.cell? ⟨q, 0, none⟩ = some (.int .i64 100) ∧ Grow w w'
theorem own_zero {w : World} {base : Nat} {e : TypeId} {sz : Nat} {v : Value} {xs : List Value} (h : w.ownsRow base e sz v 0 xs) : ∃ A cap, v = .slice A 0 cap := by
  rcases h.2 with ⟨rfl, hz⟩ | ⟨g, cap, cur, rfl, _⟩
  · exact ⟨none, 0, rfl⟩
  · exact ⟨_, cap, rfl⟩
/-- Where Play stands ahead of a round: the guard, the manager, what waits, the list so far. -/
structure PlS (w wr : World) (d G M B : Nat) (inside : Bool) (waits v : Value) (n : Nat) (out : List Value) : Prop where
  ga : GAt wr G M
  qa : QAt wr M inside waits
  da : DeedsAt wr d
  ro : wr.ownsRow B 34 1 v n out
  nG : G ≠ M
  nd : d ≠ M
  lG : G < B
  lM : M < B
  ld : d < B
  lB : B ≤ wr.heap.size
  lw : w.heap.size ≤ M
  gr : Grow w wr
section
variable {w wr : World} {d G M B n : Nat} {i : Bool} {ws v : Value} {out : List Value}
theorem PlS.alloc (h : PlS w wr d G M B i ws v n out) (o : Obj) : PlS w (wr.alloc o) d G M B i ws v n out :=
  ⟨((Grow.refl wr).alloc o).at_ h.ga, ((Grow.refl wr).alloc o).at_ h.qa, ((Grow.refl wr).alloc o).at_ h.da, h.ro.alloc o, h.nG, h.nd, h.lG, h.lM, h.ld, by rw [size_alloc]; have := h.lB; omega, h.lw, h.gr.alloc o⟩
theorem PlS.fr (h : PlS w wr d G M B i ws v n out) {w' : World} {i' : Bool} {ws' : Value} {S : Nat → Prop} (hf : Fr S wr w') (hq : QAt w' M i' ws') (hS : ∀ k, S k → k = M ∨ (B ≤ k ∧ v.ownBlock ≠ some k)) : PlS w w' d G M B i' ws' v n out := by
  have hn : ∀ k, k < B → k ≠ M → ¬ S k := fun k hk hkm hs => by rcases hS k hs with e | e <;> omega
  refine ⟨hf.at_ h.ga (hn _ h.lG h.nG), hq, hf.at_ h.da (hn _ h.ld h.nd), owns_fr h.ro hf (fun k hk hs => ?_), h.nG, h.nd, h.lG, h.lM, h.ld, Nat.le_trans h.lB hf.size, h.lw, h.gr.then hf (fun k hk hs => ?_)⟩
  · have hb := (h.ro.lt k hk).1
    rcases hS k hs with e | e
    · have := h.lM; omega
    · exact e.2 hk
  · have := h.lw; have := h.lM
    rcases hS k hs with e | e <;> omega
theorem PlS.app (h : PlS w wr d G M B i ws v n out) {tmp : Obj} {w1 : World} {v' rv : Value} (hown : w1.ownsRow B 34 1 v' (n + 1) (out ++ [rv])) (hgrow : (wr.alloc tmp).grownBy w1 v.ownBlock) : PlS w w1 d G M B i ws v' (n + 1) (out ++ [rv]) := by
  have hf : Fr (fun k => v.ownBlock = some k) wr w1 := ((Fr.refl _ wr).alloc tmp).grown hgrow (fun k e => .inr e)
  have hn : ∀ k, k < B → ¬ v.ownBlock = some k := fun k hk hs => by have := (h.ro.lt k hs).1; omega
  exact ⟨hf.at_ h.ga (hn _ h.lG), hf.at_ h.qa (hn _ h.lM), hf.at_ h.da (hn _ h.ld), hown, h.nG, h.nd, h.lG, h.lM, h.ld, Nat.le_trans h.lB hf.size, h.lw, h.gr.then hf (fun k hk hs => by have := (h.ro.lt k hs).1; have := h.lw; have := h.lM; omega)⟩
end
set_option maxRecDepth 100000 in
set_option maxHeartbeats 4000000 in
theorem play_any {w : World} {d : Nat} (hd : DeedsAt w d) : Calls Tryz.prog 14 #[.int .i64 5, .int .i64 1, .slice (some ⟨d, 0, none⟩) 3 3] w (PlayP w) := by
  refine cph fun R HR => ?_
  have hdl := blk_lt hd
  have HD := Lib.hid hd
  have HN := Lib.hid (gNew w)
  clear hd
  obtain ⟨i0, hi, hz0, hz1, hz2⟩ := info_parts infoL
  have HI := Lib.hid (And.intro hi (And.intro hz0 (And.intro hz1 hz2)))
  clear hi hz0 hz1 hz2
  go_enter Tryz.func14, Tryz.ntmps14
  go_wp2_with (go_at_call 18; refine HN.out.mono ?_)
  rintro e w1 ⟨G, M, rfl, hga, hqa, hg, hM, hG, hGM⟩
  have H1 : Hid (PlS w w1 d G M w1.heap.size false (.slice none 0 0) (.slice none 0 0) 0 []) := ⟨hga, hqa, hg.at_ HD.out, World.ownsRow_nil _ _ _ _, hGM, by omega, blk_lt hga, blk_lt hqa, blk_lt (hg.at_ HD.out), Nat.le_refl _, hM, hg⟩
  clear hga hqa hg hM hG hGM HN
  obtain ⟨B, hB⟩ : ∃ B, B = w1.heap.size := ⟨_, rfl⟩
  have HB : Hid (B ≤ w1.heap.size) := by show _ ≤ _; omega
  rw [← hB] at H1
  clear hB
  go_wp2_with fail
  refine wp_loop_rounds 4 ?_
  rw [rounds_succ]
  have c0 := blk_cell H1.out.da 0
  have c1 := blk_cell H1.out.da 1
  have c2 := blk_cell H1.out.da 2
  have c3 := blk_cell H1.out.da 3
  simp only [deeds3, List.getElem?_toArray, List.getElem?_cons_zero, List.getElem?_cons_succ] at c0 c1 c2 c3
  have HS1 := Lib.hid (fun o : Obj => does1 (w := w1.alloc o) (H1.out.alloc o).ga (H1.out.alloc o).qa)
  go_wp2_with (first | (go_at_call 40; refine (HS1.out _).mono ?_; rintro e w2 ⟨rfl, hq2, hf2⟩; have H2 := Lib.hid ((H1.out.alloc _).fr hf2 hq2 (fun k e => .inl e)); clear hq2 hf2) | (at_builtin; refine wpList_append_own_at _ rfl (.tmp 32) (.tmp 36) 24 rfl B 34 i0 (.slice none 0 0) 1 24 Tryz.underlying24 HI.out.1 HI.out.2.1 HI.out.2.2.1 HI.out.2.2.2 rfl (by decide) _ 0 [] rfl (H2.out.ro.alloc _) ⟨w2.heap.size, 0, none⟩ 1 1 [.slice none 0 0] rfl rfl (cell_one_new _ _ _) (by simp [Value.oneCell']) (by unfold maxLen; omega) (by omega) (by have := H2.out.lB; simp; omega) ?_))
  intro v3 w3 hown hgrow _ hat
  obtain ⟨g1, k1, rfl⟩ := own_some hown
  have H3 := Lib.hid (H2.out.app hown hgrow)
  clear hown hgrow hat c0 c1 c2 c3 HS1 H1
  go_wp2_with fail
  rw [rounds_succ]
  have c4 := blk_cell H3.out.da 4
  have c5 := blk_cell H3.out.da 5
  have c6 := blk_cell H3.out.da 6
  have c7 := blk_cell H3.out.da 7
  simp only [deeds3, List.getElem?_toArray, List.getElem?_cons_zero, List.getElem?_cons_succ] at c4 c5 c6 c7
  have HS2 := Lib.hid (fun o : Obj => does2 (w := w3.alloc o) (H3.out.alloc o).ga (H3.out.alloc o).qa)
  have hl3 := (H3.out.ro.lt g1 (by simp [Value.ownBlock])).2
  have hB3 := H3.out.lB
  have hM3 := H3.out.lM
  have HL3 : Hid (g1 < w3.heap.size ∧ B ≤ w3.heap.size ∧ M < B) := ⟨hl3, hB3, hM3⟩
  clear hl3 hB3 hM3
  go_wp2_with (go_at_call 40; refine (HS2.out _).mono ?_)
  rintro e w4 ⟨v4, v4', rfl, h1, hq, h2, hf⟩
  obtain ⟨A2, k2, rfl⟩ := own_zero h1
  obtain ⟨gw, kw, rfl⟩ := own_some h2
  have hlw := h2.lt gw (by simp [Value.ownBlock])
  rw [size_alloc] at h2 hlw
  have H4 := Lib.hid (And.intro ((H3.out.alloc _).fr hf hq (fun k e => .inl e)) (And.intro h2 hlw))
  clear h1 hq h2 hf hlw c4 c5 c6 c7 HS2
  go_wp2_with (at_builtin; refine wpList_append_own_at _ rfl (.tmp 32) (.tmp 36) 24 rfl B 34 i0 (.slice none 0 0) 1 24 Tryz.underlying24 HI.out.1 HI.out.2.1 HI.out.2.2.1 HI.out.2.2.2 rfl (by decide) _ 1 [.slice none 0 0] rfl (H4.out.1.ro.alloc _) ⟨w4.heap.size, 0, none⟩ 1 1 [.slice A2 0 k2] rfl rfl (cell_one_new _ _ _) (by simp [Value.oneCell']) (by unfold maxLen; omega) (by omega) (by have := H4.out.1.lB; simp; omega) ?_)
  intro v5 w5 hown hgrow _ hat
  have hne5 : v5.ownBlock ≠ some gw := by
    have a := H4.out.2.2; have b := HL3.out
    rcases hat with e | e <;> rw [e] <;> simp [Value.ownBlock] <;> omega
  have hw5 := (H4.out.2.1.alloc _).kept hgrow (.inr (by have a := H4.out.2.2; have b := HL3.out; simp [Value.ownBlock]; omega))
  obtain ⟨g2, k3, rfl⟩ := own_some hown
  have H5 := Lib.hid (And.intro (H4.out.1.app hown hgrow) (And.intro hne5 (And.intro hw5 (H4.out.2.2))))
  clear hown hgrow hat hne5 hw5 H4
  go_wp2_with fail
  rw [rounds_succ]
  have c8 := blk_cell H5.out.1.da 8
  have c9 := blk_cell H5.out.1.da 9
  have ca := blk_cell H5.out.1.da 10
  have cb := blk_cell H5.out.1.da 11
  simp only [deeds3, List.getElem?_toArray, List.getElem?_cons_zero, List.getElem?_cons_succ] at c8 c9 ca cb
  have HS3 := Lib.hid (fun o : Obj => does3 (w := w5.alloc o) (H5.out.1.alloc o).ga (H5.out.1.alloc o).qa (H5.out.2.2.1.alloc o) (by have := HL3.out; omega))
  go_wp2_with (go_at_call 40; refine (HS3.out _).mono ?_)
  rintro e w6 ⟨v6, v6', rfl, h1, hq, hf⟩
  obtain ⟨q, k6, rfl⟩ := own_some h1
  have hl5 := (H5.out.1.ro.lt g2 (by simp [Value.ownBlock])).2
  rw [size_alloc] at h1
  have hlq := h1.lt q (by simp [Value.ownBlock])
  have H6 := Lib.hid (And.intro ((H5.out.1.alloc _).fr hf hq (fun k e => e.elim .inl fun e => .inr ⟨by have a := H5.out.2.2.2; have b := HL3.out; omega, by rw [e]; exact H5.out.2.1⟩)) (And.intro h1 (And.intro hlq hl5)))
  clear h1 hq hf hlq hl5 c8 c9 ca cb HS3
  go_wp2_with (at_builtin; refine wpList_append_own_at _ rfl (.tmp 32) (.tmp 36) 24 rfl B 34 i0 (.slice none 0 0) 1 24 Tryz.underlying24 HI.out.1 HI.out.2.1 HI.out.2.2.1 HI.out.2.2.2 rfl (by decide) _ 2 [.slice none 0 0, .slice A2 0 k2] rfl (H6.out.1.ro.alloc _) ⟨w6.heap.size, 0, none⟩ 1 1 [.slice (some ⟨q, 0, none⟩) 1 k6] rfl rfl (cell_one_new _ _ _) (by simp [Value.oneCell']) (by unfold maxLen; omega) (by omega) (by have := H6.out.1.lB; simp; omega) ?_)
  intro v7 w7 hown hgrow _ hat
  have hw7 := (H6.out.2.1.alloc _).kept hgrow (.inr (by have a := H6.out.2.2; simp [Value.ownBlock]; omega))
  obtain ⟨p, k7, rfl⟩ := own_some hown
  have H7 := Lib.hid (And.intro (H6.out.1.app hown hgrow) hw7)
  clear hown hgrow hat hw7
  go_wp2_with fail
  rw [rounds_succ]
  go_wp2_with fail
  have hc := fun j u hu => H7.out.1.ro.cells (g := p) (by simp [Value.ownBlock]) j u hu
  have hc2 := H7.out.2.cells (g := q) (by simp [Value.ownBlock]) 0 _ rfl
  simp only [Addr.add_lit] at hc hc2
  exact HR.out _ _ ⟨p, k7, A2, k2, q, k6, rfl, hc 0 _ rfl, hc 1 _ rfl, hc 2 _ rfl, hc2, H7.out.1.gr⟩
end Go.Proofs.YtcgcljmnnjalpaaGreat
