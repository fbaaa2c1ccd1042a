/- The contract of the heap's Make. -/
import Derived.Test.YthkcihkeklojcaaHpE
set_option linter.unusedVariables false
set_option linter.unusedSimpArgs false
namespace Go.Proofs.Ythkcihkeklojcaa
open Go.RowKit Go.Kx
open Go.ChangeMaps (setBlock)
def HS.fill (s : HS) (a : Nat) : Nat → HS
  | 0 => s
  | k + 1 => (s.fill a k).write (a + k) 0
def HS.take (s : HS) (k : Nat) (at_ size : Int) : HS := { s with free := s.free.eraseIdx k, nodes := nput s.nodes at_ size }
def HS.more (s : HS) (n size : Int) : HS := { s with top := s.top + n, nodes := nput s.nodes s.top size }
def HS.make (s : HS) (size : Int) : HS × Int × Int :=
  if 1 ≤ size ∧ size ≤ 18 then
    if 0 ≤ lastOf s.free (rnd size) then
      ((s.take (lastOf s.free (rnd size)).toNat (s.free[(lastOf s.free (rnd size)).toNat]?.getD (0, 0)).1 size).fill (s.free[(lastOf s.free (rnd size)).toNat]?.getD (0, 0)).1.toNat (rnd size).toNat, (s.free[(lastOf s.free (rnd size)).toNat]?.getD (0, 0)).1, 0)
    else if 1100 < s.top + rnd size then (s, 0, 8)
    else ((s.more (rnd size) size).fill s.top.toNat (rnd size).toNat, s.top, 0)
  else (s, 0, 1)
theorem lastFrom_spec {l : List (Int × Int)} {n : Int} : ∀ k, k ≤ l.length → 0 ≤ lastFrom l n k → (lastFrom l n k).toNat < k ∧ (l[(lastFrom l n k).toNat]?.getD (0, 0)).2 = n := by
  intro k
  induction k with
  | zero => intro _ h; exact absurd h (by simp [lastFrom])
  | succ k ih =>
    intro hk h
    unfold lastFrom at h ⊢
    split
    · next he => exact ⟨by simp, by simpa using he⟩
    · next he =>
      rw [if_neg he] at h
      have := ih (by omega) h
      exact ⟨by omega, this.2⟩
theorem lastOf_spec {l : List (Int × Int)} {n : Int} (h : 0 ≤ lastOf l n) : (lastOf l n).toNat < l.length ∧ (l[(lastOf l n).toNat]?.getD (0, 0)).2 = n := lastFrom_spec l.length (Nat.le_refl _) h
theorem mem_nput {l : List (Int × Int)} {k s : Int} {p : Int × Int} (h : p ∈ nput l k s) : p ∈ l ∨ p = (k, s) := by
  unfold nput at h
  split at h
  · obtain ⟨q, hq, rfl⟩ := List.mem_map.1 h
    split
    · next he => exact .inr (by simpa using he)
    · exact .inl hq
  · simpa using h
theorem Good.fill {s : HS} (h : Good s) (a : Nat) : ∀ k, Good (s.fill a k)
  | 0 => h
  | k + 1 => ((Good.fill h a k).words (by rw [List.length_set]; exact (Good.fill h a k).wl)).vers (by rw [List.length_set]; exact (Good.fill h a k).vl)
theorem Good.node {s : HS} (h : Good s) {at_ size : Int} (h0 : 100 ≤ at_) (h1 : at_ + rnd size ≤ 1100) (h2 : 1 ≤ size) (h3 : size ≤ 18) : Good { s with nodes := nput s.nodes at_ size } :=
  ⟨h.wl, h.vl, h.c0, h.c1, h.t0, h.t1, fun p hp => by
    rcases mem_nput hp with hp | rfl
    · exact h.nodes p hp
    · exact ⟨h0, h1, h2, h3⟩, h.free⟩
theorem Good.freed {s : HS} (h : Good s) {l : List (Int × Int)} (hl : ∀ p ∈ l, p ∈ s.free) : Good { s with free := l } := ⟨h.wl, h.vl, h.c0, h.c1, h.t0, h.t1, h.nodes, fun p hp => h.free p (hl p hp)⟩
theorem Good.topped {s : HS} (h : Good s) {t : Int} (h0 : 100 ≤ t) (h1 : t ≤ 1100) : Good { s with top := t } := ⟨h.wl, h.vl, h.c0, h.c1, h0, h1, h.nodes, h.free⟩
/-- The row of free places is another one. -/
theorem HeapAt.putFree {w w' : World} {base : Nat} {q : HB} {s : HS} (h : HeapAt w base q s) {S : Nat → Prop} (hf : Fr S w w') (hS : ∀ i, S i → i ≠ q.b ∧ i ≠ q.W ∧ i ≠ q.V ∧ i ≠ q.M) {fv' : Value} {l : List (Int × Int)}
    (ho : w'.ownsRow base 55 2 fv' l.length (placeCells l)) (hg : Good { s with free := l }) : HeapAt (w'.setCell ⟨q.b, 4, none⟩ fv') base { q with fv := fv' } { s with free := l } := by
  have hb := hf.at_ h.blk (fun e => (hS _ e).1 rfl)
  have hW := hf.at_ h.words (fun e => (hS _ e).2.1 rfl)
  have hV := hf.at_ h.vers (fun e => (hS _ e).2.2.1 rfl)
  have hM := h.map.fr hf (fun e => (hS _ e).2.2.2 rfl)
  obtain ⟨n1, n2, n3, n4, n5, n6⟩ := h.apart
  refine ⟨by rw [blk_set hb]; rfl, (blk_set_other (Ne.symm n1) _).trans hW, (blk_set_other (Ne.symm n2) _).trans hV, hM.setCell n3 _, ?_, h.ne, h.lo, hg⟩
  refine owns_fr ho ((Fr.refl (· = q.b) w').setCell ⟨q.b, 4, none⟩ fv' (.inr rfl)) (fun k hk e => ?_)
  obtain ⟨c, hc⟩ := owns_blk ho hk
  rw [e, hb] at hc
  simp at hc
theorem HeapAt.putTop {w : World} {base : Nat} {q : HB} {s : HS} (h : HeapAt w base q s) {t : Int} (h0 : 100 ≤ t) (h1 : t ≤ 1100) : HeapAt (w.setCell ⟨q.b, 5, none⟩ (.int .i64 t)) base q { s with top := t } := by
  obtain ⟨n1, n2, n3, n4, n5, n6⟩ := h.apart
  refine ⟨by rw [blk_set h.blk]; rfl, (blk_set_other (Ne.symm n1) _).trans h.words, (blk_set_other (Ne.symm n2) _).trans h.vers, h.map.setCell n3 _, ?_, h.ne, h.lo, h.good.topped h0 h1⟩
  exact owns_fr h.free ((Fr.refl (· = q.b) w).setCell ⟨q.b, 5, none⟩ (.int .i64 t) (.inr rfl)) (fun k hk e => (n6 k hk).1 e)
theorem HeapAt.putMap {w : World} {base : Nat} {q : HB} {s : HS} (h : HeapAt w base q s) {ob : Obj} {l : List (Int × Int)} (hm : IMap (setBlock w q.M ob) q.M (kvOf l)) (hg : Good { s with nodes := l }) : HeapAt (setBlock w q.M ob) base q { s with nodes := l } := by
  obtain ⟨n1, n2, n3, n4, n5, n6⟩ := h.apart
  refine ⟨(blk_block_other (Ne.symm n3)).trans h.blk, (blk_block_other (Ne.symm n4)).trans h.words, (blk_block_other (Ne.symm n5)).trans h.vers, hm, ?_, h.ne, h.lo, hg⟩
  exact owns_fr h.free ((Fr.refl (· = q.M) w).block q.M ob (.inr rfl)) (fun k hk e => (n6 k hk).2.2.2 e)
def NewFv (w : World) (q : HB) (fv' : Value) : Prop := fv'.ownBlock = q.fv.ownBlock ∨ ∃ k, w.heap.size ≤ k ∧ fv'.ownBlock = some k
def MakeP (w : World) (base : Nat) (q : HB) (s : HS) (size : Int) (e : Ending) (w' : World) : Prop :=
  e = .returned (.tuple #[.int .i64 (s.make size).2.1, .int .i64 (s.make size).2.2]) ∧ ∃ fv', HeapAt w' base { q with fv := fv' } (s.make size).1 ∧ Fr q.set w w' ∧ NewFv w q fv'
theorem places_at {w : World} {base : Nat} {q : HB} {s : HS} (h : HeapAt w base q s) : ∃ a c, q.fv = .slice a s.free.length c ∧ PlacesAt w.heap.size w (.slice a s.free.length c) s.free ∧ (s.free ≠ [] → ∃ g, a = some ⟨g, 0, none⟩) := by
  rcases h.free.2 with ⟨h1, h2⟩ | ⟨g, cap, cur, h1, hb, hg, hnc, hcm, hcs, htake⟩
  · have h3 : s.free = [] := List.eq_nil_of_length_eq_zero h2
    exact ⟨none, 0, by rw [h1, h2], .inl ⟨by rw [h2], h3⟩, fun h => absurd h3 h⟩
  · refine ⟨some ⟨g, 0, none⟩, cap, h1, .inr ⟨g, cap, rfl, blk_lt hg, fun j hj => ?_⟩, fun _ => ⟨g, rfl⟩⟩
    have hcell : ∀ j, j < s.free.length * 2 → w.cell? ⟨g, j, none⟩ = (placeCells s.free)[j]? := by
      intro j hj
      rw [blk_cell hg, ← htake, List.getElem?_take, if_pos hj]
      simp
    rw [hcell _ (by omega), hcell _ (by omega)]
    have e : placeCells s.free = placeCells (s.free.take j) ++ ([.int .i64 s.free[j].1, .int .i64 s.free[j].2] ++ placeCells (s.free.drop (j + 1))) := by
      have h := placeCells_append (s.free.take j) (s.free[j] :: s.free.drop (j + 1))
      rw [← List.drop_eq_getElem_cons hj, List.take_append_drop] at h
      rw [h, List.drop_eq_getElem_cons hj]
      rfl
    have hl : (placeCells (s.free.take j)).length = j * 2 := by rw [placeCells_length, List.length_take]; omega
    have hx : s.free[j]?.getD (0, 0) = s.free[j] := by simp [hj]
    rw [hx, e]
    constructor
    · rw [List.getElem?_append_right (by omega), hl, Nat.sub_self]; rfl
    · rw [List.getElem?_append_right (by omega), hl, show j * 2 + 1 - j * 2 = 1 by omega]; rfl
theorem make_cases {s : HS} (hg : Good s) {size : Int} (h0 : 1 ≤ size) (h1 : size ≤ 18) (hf : ¬ (lastOf s.free (rnd size) < 0 ∧ 1100 < s.top + rnd size)) :
    ∃ at_ s1, s.make size = (HS.fill { s1 with nodes := nput s1.nodes at_ size } at_.toNat (rnd size).toNat, at_, 0) ∧ 100 ≤ at_ ∧ at_ + rnd size ≤ 1100 ∧ Good s1 ∧
      ((∃ k : Nat, lastOf s.free (rnd size) = k ∧ k < s.free.length ∧ at_ = (s.free[k]?.getD (0, 0)).1 ∧ s1 = { s with free := s.free.eraseIdx k }) ∨ (lastOf s.free (rnd size) < 0 ∧ s.top + rnd size ≤ 1100 ∧ at_ = s.top ∧ s1 = { s with top := s.top + rnd size })) := by
  by_cases hk : 0 ≤ lastOf s.free (rnd size)
  · obtain ⟨k, hkk⟩ := Int.eq_ofNat_of_zero_le hk
    have hsp := lastOf_spec hk
    rw [hkk, Int.toNat_natCast] at hsp
    have hx : s.free[k]?.getD (0, 0) = s.free[k] := by simp [hsp.1]
    have hm := hg.free _ (List.getElem_mem hsp.1)
    rw [hx] at hsp
    refine ⟨s.free[k].1, { s with free := s.free.eraseIdx k }, ?_, hm.1, by rw [← hsp.2]; exact hm.2.1, hg.freed fun p hp => List.mem_of_mem_eraseIdx hp, .inl ⟨k, hkk, hsp.1, by rw [hx], rfl⟩⟩
    unfold HS.make
    rw [if_pos ⟨h0, h1⟩, if_pos hk, hkk, Int.toNat_natCast, hx]
    rfl
  · have hr : 2 ≤ rnd size := by unfold rnd; omega
    have := hg.t0
    refine ⟨s.top, { s with top := s.top + rnd size }, ?_, hg.t0, by omega, hg.topped (by omega) (by omega), .inr ⟨by omega, by omega, rfl, rfl⟩⟩
    unfold HS.make
    rw [if_pos ⟨h0, h1⟩, if_neg hk, if_neg (by omega)]
    rfl
set_option maxHeartbeats 4000000 in
set_option maxRecDepth 100000 in
theorem make_any {w : World} {base : Nat} {q : HB} {s : HS} (h : HeapAt w base q s) (hlen : s.free.length ≤ 100000) (size : Int) :
    Calls Try.prog 10 #[.pointer (some ⟨q.b, 0, none⟩), .int .i64 size] w (MakeP w base q s size) := by
  refine cph fun R HR => ?_
  have H0 := Lib.hid (none_any h)
  by_cases h1 : 1 ≤ size
  · by_cases h2 : size ≤ 18
    · have hr2 : 2 ≤ rnd size := by unfold rnd; omega
      have hr18 : rnd size ≤ 18 := by unfold rnd; omega
      have HRD := fun wx => Lib.hid (rounded_any (w := wx) (n := size) (by omega) (by omega))
      obtain ⟨a, c, hfv, hpl, hne⟩ := places_at h
      have HL := Lib.hid (last_any w a s.free.length c s.free (by omega) (rnd size) hpl)
      obtain ⟨c0, c1, c2, c3, c4, c5⟩ := h.cell
      rw [hfv] at c4
      have HH := Lib.hid h
      have hdec : (lastOf s.free (rnd size) < 0 ∧ 1100 < s.top + rnd size) ∨ ¬ (lastOf s.free (rnd size) < 0 ∧ 1100 < s.top + rnd size) := Decidable.em _
      rcases hdec with ⟨hk, hfull⟩ | hok
      · have hres : s.make size = (s, 0, 8) := by
          unfold HS.make
          rw [if_pos ⟨h1, h2⟩, if_neg (by omega), if_pos hfull]
        rw [show MakeP w base q s size = MakeP w base q s size from rfl] at HR
        have ht0 := h.good.t0
        have ht1 := h.good.t1
        generalize hkk : lastOf s.free (rnd size) = k at HL hk
        have HX := Lib.hid (And.intro hres hkk)
        clear h hpl hne hres hkk c0 c1 c2 c3
        go_enter Try.func10, Try.ntmps10
        go_wp2_with (first | (go_at_call 25; refine H0.out.mono ?_; rintro e w' ⟨rfl, rfl⟩) | (go_at_call 26; refine (HRD _).out.mono ?_; rintro e w' ⟨rfl, rfl⟩) | (go_at_call 27; refine HL.out.mono ?_))
        rintro e w1 ⟨rfl, hg⟩
        have c5 := hg.cell c5
        have HG := Lib.hid hg
        clear hg c4
        go_wp2_with fail
        refine HR.out _ _ ⟨by rw [HX.out.1]; rfl, q.fv, ?_, HG.out.mono (fun _ _ h => h.elim), .inl rfl⟩
        rw [HX.out.1]
        exact HH.out.grow HG.out
      · obtain ⟨at_, s1, hres, ha0, ha1, hgs1, hcase⟩ := make_cases h.good h1 h2 hok
        have ht0 := h.good.t0
        have ht1 := h.good.t1
        generalize hkk : lastOf s.free (rnd size) = kk at HL hcase
        have HX := Lib.hid hres
        have HP := Lib.hid (And.intro hpl hne)
        have HCASE := Lib.hid hcase
        have HFV := Lib.hid hfv
        have HS1 := Lib.hid hgs1
        clear h hpl hne hres hkk hok hcase hfv hgs1
        go_enter Try.func10, Try.ntmps10
        go_wp2_with (first | (go_at_call 25; refine H0.out.mono ?_; rintro e w' ⟨rfl, rfl⟩) | (go_at_call 26; refine (HRD _).out.mono ?_; rintro e w' ⟨rfl, rfl⟩) | (go_at_call 27; refine HL.out.mono ?_))
        rintro e w1 ⟨rfl, hg⟩
        have c0 := hg.cell c0
        have c1 := hg.cell c1
        have c3 := hg.cell c3
        have c4 := hg.cell c4
        have c5 := hg.cell c5
        have HG := Lib.hid hg
        have HH1 := Lib.hid (HH.out.grow hg)
        clear hg c2
        go_upto_if 33 with fail
        go_cut [7] (fun v wx => v = .int .i64 at_ ∧ Hid (∃ fv', HeapAt wx base { q with fv := fv' } s1 ∧ Fr q.set w wx ∧ NewFv w q fv'))
        case first =>
          rcases HCASE.out with ⟨k, hk1, hk2, hat, hs1⟩ | ⟨hk1, htop, hat, hs1⟩
          · obtain ⟨g, hga⟩ := HP.out.2 (by rintro e; rw [e] at hk2; exact absurd hk2 (by simp))
            subst hga
            have hrow := HH1.out.free
            rw [show q.fv = _ from HFV.out] at hrow
            have HDEL := Lib.hid (delete_any w1 base g c s.free k hk2 hrow)
            have hp6 : w1.cell? ⟨g, k * 2, none⟩ = some (.int .i64 at_) := by
              rcases HP.out.1 with ⟨e, _⟩ | ⟨b, cap, e, _, hc⟩
              · cases e
              · cases e
                rw [hat]
                exact HG.out.cell (hc k hk2).1
            subst hk1
            have hk3 : (k : Int) < (s.free.length : Int) := by omega
            have hk0 : (0 : Int) ≤ (k : Int) := by omega
            have HS := Lib.hid hs1
            clear hrow hs1 hat
            go_wp2_with (go_at_call 28; refine HDEL.out.mono ?_)
            rintro e w2 ⟨rfl, ho2, hf2⟩
            have hbg : q.b ≠ g := by
              have := HH1.out.apart.2.2.2.2.2 g (by rw [show q.fv = _ from HFV.out]; rfl)
              exact Ne.symm this.1
            have hb2 := hf2.at_ HH1.out.blk hbg
            have c4 := blk_cell hb2 4
            have f4 := blk_free hb2 4
            simp only [hcells, List.getElem?_toArray, List.getElem?_cons_zero, List.getElem?_cons_succ] at c4
            have H2 := Lib.hid (And.intro ho2 hf2)
            clear ho2 hf2 hb2 c0 c1 c3 c5 hp6
            go_wp2_with fail
            go_meet
            refine ⟨rfl, ?_⟩
            show ∃ fv', HeapAt _ base { q with fv := fv' } s1 ∧ Fr q.set w _ ∧ NewFv w q fv'
            refine ⟨.slice (some ⟨g, 0, none⟩) (s.free.length - 1) c, ?_, ?_, .inl ?_⟩
            · rw [HS.out]
              have ho := H2.out.1
              have el : s.free.length - 1 = (s.free.eraseIdx k).length := by rw [List.length_eraseIdx_of_lt hk2]
              rw [el] at ho ⊢
              refine HeapAt.putFree HH1.out H2.out.2 (fun i e => ?_) ho ?_
              · subst e
                have := HH1.out.apart.2.2.2.2.2 i (by rw [show q.fv = _ from HFV.out]; rfl)
                exact this
              · have := HS1.out; rw [HS.out] at this; exact this
            · have g1 : Fr q.set w w1 := Fr.mono HG.out (fun _ _ h => h.elim)
              have g2 : Fr q.set w1 w2 := Fr.mono H2.out.2 (fun i _ e => by subst e; exact .inr (.inr (.inr (.inr (by rw [show q.fv = _ from HFV.out]; rfl)))))
              exact (g1.trans g2).setCell ⟨q.b, 4, none⟩ _ (.inr (.inl rfl))
            · rw [show q.fv = _ from HFV.out]; rfl
          · have f5 := blk_free HH1.out.blk 5
            have HS := Lib.hid hs1
            subst hat
            clear hs1
            have ht2 : s.top + rnd size ≤ 1100 := htop
            go_wp2_with fail
            go_meet
            refine ⟨rfl, ?_⟩
            show ∃ fv', HeapAt _ base { q with fv := fv' } s1 ∧ Fr q.set w _ ∧ NewFv w q fv'
            refine ⟨q.fv, ?_, ?_, .inl rfl⟩
            · rw [HS.out]
              exact HH1.out.putTop (by omega) htop
            · have g1 : Fr q.set w w1 := Fr.mono HG.out (fun _ _ h => h.elim)
              exact g1.setCell ⟨q.b, 5, none⟩ _ (.inr (.inl rfl))
        case rest =>
        obtain ⟨rfl, hc2⟩ := hcut
        obtain ⟨w3, hw3⟩ : ∃ w3, w3 = wc := ⟨_, rfl⟩
        subst hw3
        obtain ⟨fv', hh3, hf3, hn3⟩ := hc2.out
        have d3 := hh3.cell.2.2.2.1
        dsimp only at d3
        have H3 := Lib.hid (And.intro hh3 (And.intro hf3 hn3))
        clear hc2 hh3 hf3 hn3 c0 c1 c3 c4 c5
        go_wp2_with (at_mapUpdate; refine wpList_mput rfl _ _ _ rfl H3.out.1.map Try.underlying43 Try.underlying3 at_ (.int .i64 size) rfl rfl rfl ?_; intro ob him)
        rw [mput_kvOf] at him
        have hh4 := H3.out.1.putMap him (HS1.out.node ha0 ha1 h1 h2)
        have hf4 : Fr q.set w (setBlock w3 q.M ob) := H3.out.2.1.block q.M ob (.inr (.inr (.inr (.inr (.inl rfl)))))
        have H4 := Lib.hid (And.intro hh4 hf4)
        clear him hh4 hf4
        obtain ⟨w4, hw4⟩ : ∃ w4, w4 = setBlock w3 q.M ob := ⟨_, rfl⟩
        rw [← hw4] at H4 ⊢
        clear hw4
        obtain ⟨m, rfl⟩ := Int.eq_ofNat_of_zero_le (show 0 ≤ at_ by omega)
        obtain ⟨N, hN⟩ := Int.eq_ofNat_of_zero_le (show 0 ≤ rnd size by omega)
        rw [hN] at ha1 hr2 hr18 ⊢
        rw [hN, Int.toNat_natCast, Int.toNat_natCast] at HX
        have hN18 : N ≤ 18 := by omega
        have hm0 : m + N ≤ 1100 := by omega
        have HN := Lib.hid hN
        clear hN d3
        go_wp2_with fail
        go_loopw [9] (fun i wr => ∃ k : Nat, k ≤ N ∧ i = .int .i64 ((m + k : Nat) : Int) ∧ Hid (HeapAt wr base { q with fv := fv' } (HS.fill { s1 with nodes := nput s1.nodes m size } m k) ∧ Fr q.set w wr)) (fun i _ => m + N - (intOf i).toNat)
        case atStart => exact ⟨0, by omega, rfl, H4.out⟩
        case round =>
          obtain ⟨k, hk, rfl, HI⟩ := hrel
          obtain ⟨d0, d1, _, _, _, _⟩ := HI.out.1.cell
          dsimp only at d0 d1
          by_cases hlt : k < N
          · have hw := HI.out.1.word (i := m + k) (by omega)
            have hv := HI.out.1.ver (i := m + k) (by omega)
            have f1 := blk_free HI.out.1.words (m + k)
            have f2 := blk_free HI.out.1.vers (m + k)
            have hne := HI.out.1.ne
            have hne' := Ne.symm HI.out.1.ne
            obtain ⟨n1, n2, _, _, _, _⟩ := HI.out.1.apart
            dsimp only at hw hv f1 f2 hne hne' n1 n2
            have hmk : m + k < 1100 := by omega
            have hmk2 : ((m + k : Nat) : Int) < (m : Int) + (N : Int) := by omega
            have hmk3 : (0 : Int) ≤ ((m + k : Nat) : Int) := by omega
            have hmk4 : ((m + k : Nat) : Int) < 1100 := by omega
            go_wp2_with fail
            go_roundw
            case rel =>
              refine ⟨k + 1, by omega, by rw [show ((m + (k + 1) : Nat) : Int) = (m : Int) + (k : Int) + 1 by omega], ?_, ?_⟩
              · exact (HI.out.1.setW (m + k) 0).setV (m + k) _
              · exact (HI.out.2.setCell ⟨q.W, m + k, none⟩ _ (.inr (.inr (.inl rfl)))).setCell ⟨q.V, m + k, none⟩ _ (.inr (.inr (.inr (.inl rfl))))
            case measure => simp [intOf] <;> omega
          · obtain rfl : k = N := by omega
            have hge : ¬ ((m + k : Nat) : Int) < (m : Int) + (k : Int) := by omega
            go_wp2_with fail
            refine HR.out _ _ ⟨by rw [HX.out], fv', ?_, HI.out.2, H3.out.2.2⟩
            rw [HX.out]
            exact HI.out.1
    · have hres : s.make size = (s, 0, 1) := by unfold HS.make; rw [if_neg (by omega)]
      have HX := Lib.hid hres
      have HH := Lib.hid h
      clear h hres
      go_enter Try.func10, Try.ntmps10
      go_wp2_with (go_at_call 25; refine H0.out.mono ?_; rintro e w' ⟨rfl, rfl⟩)
      refine HR.out _ _ ⟨by rw [HX.out]; rfl, q.fv, ?_, Fr.refl _ _, .inl rfl⟩
      rw [HX.out]
      exact HH.out
  · have hres : s.make size = (s, 0, 1) := by unfold HS.make; rw [if_neg (by omega)]
    have HX := Lib.hid hres
    have HH := Lib.hid h
    clear h hres
    go_enter Try.func10, Try.ntmps10
    go_wp2_with (go_at_call 25; refine H0.out.mono ?_; rintro e w' ⟨rfl, rfl⟩)
    refine HR.out _ _ ⟨by rw [HX.out]; rfl, q.fv, ?_, Fr.refl _ _, .inl rfl⟩
    rw [HX.out]
    exact HH.out
end Go.Proofs.Ythkcihkeklojcaa
