/- The span manager: its form in memory; has, In. -/
import Derived.Test.YtcgcljmnnjalpaaGreatGeF
set_option linter.unusedVariables false
set_option linter.unusedSimpArgs false
namespace Go.Proofs.YtcgcljmnnjalpaaGreat
open Go.RowKit Go.Kx
open Go.ChangeMaps (setBlock)
/-- A map of births. -/
def BMapP (kv : List (Int × Value)) (f : Int → Int) : Prop := ∀ x, 0 < x → (mget kv x).getD (.int .i64 0) = .int .i64 (f x)
theorem BMapP.put {kv : List (Int × Value)} {f g : Int → Int} (h : BMapP kv f) (a n : Int) (hg : ∀ y, 0 < y → g y = if y = a then n else f y) : BMapP (mput kv a (.int .i64 n)) g := by
  intro y hy
  rw [mget_put, hg y hy]
  by_cases e : y = a
  · rw [if_pos e, if_pos e]; rfl
  · rw [if_neg e, if_neg e]; exact h y hy
theorem BMapP.del {kv : List (Int × Value)} {f g : Int → Int} (h : BMapP kv f) (a : Int) (hg : ∀ y, 0 < y → g y = if y = a then 0 else f y) : BMapP (mdel kv a) g := by
  intro y hy
  rw [mget_del, hg y hy]
  by_cases e : y = a
  · rw [if_pos e, if_pos e]; rfl
  · rw [if_neg e, if_neg e]; exact h y hy
def encS (x : Itm) : List Value := [.int .i64 x.addr, .int .i64 x.birth, .int .i64 x.at_]
theorem encS_len (x : Itm) : (encS x).length = 3 := rfl
def spL (s : RS) (t : Nat) : Int := if s.ins t then s.lo t else 0
def spH (s : RS) (t : Nat) : Int := if s.ins t then s.hi t else 0
def spArr (s : RS) (M : Nat) (v : Value) : Array Value := #[.int .i64 s.now, .int .i64 s.n,
  .bool (s.ins 0), .int .i64 (spL s 0), .int .i64 (spH s 0), .int .i64 (s.holds 0 0), .int .i64 (s.holds 0 1), .int .i64 (s.holds 0 2),
  .bool (s.ins 1), .int .i64 (spL s 1), .int .i64 (spH s 1), .int .i64 (s.holds 1 0), .int .i64 (s.holds 1 1), .int .i64 (s.holds 1 2),
  .bool (s.ins 2), .int .i64 (spL s 2), .int .i64 (spH s 2), .int .i64 (s.holds 2 0), .int .i64 (s.holds 2 1), .int .i64 (s.holds 2 2),
  .bool (s.ins 3), .int .i64 (spL s 3), .int .i64 (spH s 3), .int .i64 (s.holds 3 0), .int .i64 (s.holds 3 1), .int .i64 (s.holds 3 2),
  .map (some M), v]
structure SPv (b M : Nat) (v : Value) (w : World) (F : FP) (s : RS) : Prop where
  kind : s.kind = 3
  ok : Ok s
  blk : w.heap[b]? = some (.cells (spArr s M v) 130 (0, 0))
  cmap : ∃ kv, IMap w M kv ∧ BMapP kv s.born
  row : w.ownsRow 0 147 3 v s.items.length (s.items.flatMap encS)
  fp : ∀ k, F k ↔ (k = b ∨ k = M ∨ v.ownBlock = some k)
/-- The span manager at block b. -/
def SP (b : Nat) (w : World) (F : FP) (s : RS) : Prop := ∃ M v, SPv b M v w F s
section
variable {b M : Nat} {v : Value} {w : World} {F : FP} {s : RS}
theorem SPv.neM (h : SPv b M v w F s) : M ≠ b := by
  obtain ⟨kv, hm, _⟩ := h.cmap
  exact hm.ne h.blk
theorem SPv.nev (h : SPv b M v w F s) (k : Nat) (hk : v.ownBlock = some k) : k ≠ b ∧ k ≠ M := by
  obtain ⟨c, hc⟩ := owns_blk h.row hk
  refine ⟨?_, ?_⟩
  · rintro rfl; exact absurd (blk_ty hc h.blk) (by decide)
  · rintro rfl; obtain ⟨kv, hm, _⟩ := h.cmap; exact hm.ne hc rfl
theorem SPv.local_fr {w' : World} {G : FP} (h : SPv b M v w F s) (hf : Fr G w w') (hn : ∀ k, F k → ¬ G k) : SPv b M v w' F s := by
  obtain ⟨kv, hm, hc⟩ := h.cmap
  exact ⟨h.kind, h.ok, hf.at_ h.blk (hn b ((h.fp b).2 (.inl rfl))), ⟨kv, hm.fr hf (hn M ((h.fp M).2 (.inr (.inl rfl)))), hc⟩, owns_fr h.row hf (fun k hk => hn k ((h.fp k).2 (.inr (.inr hk)))), h.fp⟩
theorem SPv.lt (h : SPv b M v w F s) (k : Nat) (hk : F k) : k < w.heap.size := by
  rcases (h.fp k).1 hk with rfl | rfl | hk
  · exact blk_lt h.blk
  · obtain ⟨kv, hm, _⟩ := h.cmap; exact hm.lt
  · exact (h.row.lt k hk).2
end
theorem SP.local (b : Nat) : Local (SP b) := ⟨fun ⟨M, v, h⟩ k hk => h.lt k hk, fun ⟨M, v, h⟩ hf hn => ⟨M, v, h.local_fr hf hn⟩⟩
theorem spHas {b M : Nat} {v : Value} {w : World} {F : FP} {s : RS} (h : SPv b M v w F s) (t : Int) : Calls Tryz.prog 109 #[.pointer (some ⟨b, 0, none⟩), .int .i64 t] w fun e w' => e = .returned (.bool (okTh s t)) ∧ w = w' := by
  refine cph fun R HR => ?_
  have k0 := (blk_cell h.blk 1).trans (rfl : _ = some (Value.int .i64 s.n))
  rcases okTh_cases s t h.ok.n4 with ⟨h1, e⟩ | ⟨h1, h2, e⟩ | ⟨h1, h2, e⟩
  · rw [e] at HR
    have d1 : decide (0 ≤ t) = false := decide_eq_false (by omega)
    clear h e
    go_enter Tryz.func109, Tryz.ntmps109
    go_wp2_with fail
    exact HR.out _ _ ⟨rfl, rfl⟩
  · rw [e] at HR
    have d1 : decide (0 ≤ t) = true := decide_eq_true h2
    have d2 : decide (t < (s.n : Int)) = false := decide_eq_false (by omega)
    clear h e
    go_enter Tryz.func109, Tryz.ntmps109
    go_wp2_with fail
    exact HR.out _ _ ⟨rfl, rfl⟩
  · rw [e] at HR
    have d1 : decide (0 ≤ t) = true := decide_eq_true h1
    have d2 : decide (t < (s.n : Int)) = true := decide_eq_true h2
    clear h e
    go_enter Tryz.func109, Tryz.ntmps109
    go_wp2_with fail
    exact HR.out _ _ ⟨rfl, rfl⟩
theorem SPv.upd {b M : Nat} {v : Value} {w : World} {F : FP} {s s' : RS} (h : SPv b M v w F s) (hok : Ok s') (hk : s'.kind = s.kind) (ha : spArr s' M v = spArr s M v) (hb : s'.born = s.born) (hit : s'.items = s.items) : SPv b M v w F s' :=
  ⟨hk.trans h.kind, hok, by rw [ha]; exact h.blk, by rw [hb]; exact h.cmap, by rw [hit]; exact h.row, h.fp⟩
def set6 (c : Array Value) (o : Nat) (x0 x1 x2 x3 x4 x5 : Value) : Array Value := (((((c.setIfInBounds o x0).setIfInBounds (o + 1) x1).setIfInBounds (o + 2) x2).setIfInBounds (o + 3) x3).setIfInBounds (o + 4) x4).setIfInBounds (o + 5) x5
theorem blk_set6 {w : World} {b : Nat} {c : Array Value} {T : TypeId} (h : w.heap[b]? = some (.cells c T (0, 0))) (o : Nat) (x0 x1 x2 x3 x4 x5 : Value) : ((((((w.setCell ⟨b, o, none⟩ x0).setCell ⟨b, o + 1, none⟩ x1).setCell ⟨b, o + 2, none⟩ x2).setCell ⟨b, o + 3, none⟩ x3).setCell ⟨b, o + 4, none⟩ x4).setCell ⟨b, o + 5, none⟩ x5).heap[b]? = some (.cells (set6 c o x0 x1 x2 x3 x4 x5) T (0, 0)) :=
  blk_set (blk_set (blk_set (blk_set (blk_set (blk_set h _ _) _ _) _ _) _ _) _ _) _ _
theorem spArr_set6 {M : Nat} {v : Value} {t : Nat} (ht : t < 4) {s s' : RS} (h1 : s'.now = s.now) (h2 : s'.n = s.n) (ho : ∀ i, i ≠ t → s'.ins i = s.ins i ∧ spL s' i = spL s i ∧ spH s' i = spH s i ∧ s'.holds i = s.holds i) :
    set6 (spArr s M v) (2 + 6 * t) (.bool (s'.ins t)) (.int .i64 (spL s' t)) (.int .i64 (spH s' t)) (.int .i64 (s'.holds t 0)) (.int .i64 (s'.holds t 1)) (.int .i64 (s'.holds t 2)) = spArr s' M v := by
  have g0 := ho 0
  have g1 := ho 1
  have g2 := ho 2
  have g3 := ho 3
  unfold spArr
  rw [h1, h2]
  obtain rfl | rfl | rfl | rfl : t = 0 ∨ t = 1 ∨ t = 2 ∨ t = 3 := by omega
  · obtain ⟨a1, a2, a3, a4⟩ := g1 (by omega)
    obtain ⟨b1, b2, b3, b4⟩ := g2 (by omega)
    obtain ⟨d1, d2, d3, d4⟩ := g3 (by omega)
    rw [a1, a2, a3, a4, b1, b2, b3, b4, d1, d2, d3, d4]
    simp [set6]
  · obtain ⟨a1, a2, a3, a4⟩ := g0 (by omega)
    obtain ⟨b1, b2, b3, b4⟩ := g2 (by omega)
    obtain ⟨d1, d2, d3, d4⟩ := g3 (by omega)
    rw [a1, a2, a3, a4, b1, b2, b3, b4, d1, d2, d3, d4]
    simp [set6]
  · obtain ⟨a1, a2, a3, a4⟩ := g0 (by omega)
    obtain ⟨b1, b2, b3, b4⟩ := g1 (by omega)
    obtain ⟨d1, d2, d3, d4⟩ := g3 (by omega)
    rw [a1, a2, a3, a4, b1, b2, b3, b4, d1, d2, d3, d4]
    simp [set6]
  · obtain ⟨a1, a2, a3, a4⟩ := g0 (by omega)
    obtain ⟨b1, b2, b3, b4⟩ := g1 (by omega)
    obtain ⟨d1, d2, d3, d4⟩ := g2 (by omega)
    rw [a1, a2, a3, a4, b1, b2, b3, b4, d1, d2, d3, d4]
    simp [set6]
def w6 (w : World) (b o : Nat) (x0 x1 x2 x3 x4 x5 : Value) : World := (((((w.setCell ⟨b, o, none⟩ x0).setCell ⟨b, o + 1, none⟩ x1).setCell ⟨b, o + 2, none⟩ x2).setCell ⟨b, o + 3, none⟩ x3).setCell ⟨b, o + 4, none⟩ x4).setCell ⟨b, o + 5, none⟩ x5
theorem sp_row6 {b M : Nat} {v : Value} {w : World} {F : FP} {s s' : RS} (h : SPv b M v w F s) {t : Nat} (ht : t < 4) (hok : Ok s') (hk : s'.kind = s.kind) (h1 : s'.now = s.now) (h2 : s'.n = s.n) (hb : s'.born = s.born) (hit : s'.items = s.items) (ho : ∀ i, i ≠ t → s'.ins i = s.ins i ∧ spL s' i = spL s i ∧ spH s' i = spH s i ∧ s'.holds i = s.holds i)
    {x0 x1 x2 x3 x4 x5 : Value} (e0 : x0 = .bool (s'.ins t)) (e1 : x1 = .int .i64 (spL s' t)) (e2 : x2 = .int .i64 (spH s' t)) (e3 : x3 = .int .i64 (s'.holds t 0)) (e4 : x4 = .int .i64 (s'.holds t 1)) (e5 : x5 = .int .i64 (s'.holds t 2)) :
    SPv b M v (w6 w b (2 + 6 * t) x0 x1 x2 x3 x4 x5) F s' ∧ Fr F w (w6 w b (2 + 6 * t) x0 x1 x2 x3 x4 x5) := by
  subst e0 e1 e2 e3 e4 e5
  have hfb : Fr (· = b) w (w6 w b (2 + 6 * t) (.bool (s'.ins t)) (.int .i64 (spL s' t)) (.int .i64 (spH s' t)) (.int .i64 (s'.holds t 0)) (.int .i64 (s'.holds t 1)) (.int .i64 (s'.holds t 2))) := by
    unfold w6
    exact ((((((Fr.refl (· = b) w).setCell _ _ (.inr rfl)).setCell _ _ (.inr rfl)).setCell _ _ (.inr rfl)).setCell _ _ (.inr rfl)).setCell _ _ (.inr rfl)).setCell _ _ (.inr rfl)
  have hbl := blk_set6 h.blk (2 + 6 * t) (.bool (s'.ins t)) (.int .i64 (spL s' t)) (.int .i64 (spH s' t)) (.int .i64 (s'.holds t 0)) (.int .i64 (s'.holds t 1)) (.int .i64 (s'.holds t 2))
  rw [spArr_set6 ht h1 h2 ho] at hbl
  obtain ⟨kv, hm, hc⟩ := h.cmap
  refine ⟨⟨hk.trans h.kind, hok, hbl, ⟨kv, hm.fr hfb h.neM, by rw [hb]; exact hc⟩, ?_, h.fp⟩, hfb.mono fun i _ e => (h.fp i).2 (.inl e)⟩
  rw [hit]
  exact owns_fr h.row hfb (fun j hj e => (h.nev j hj).1 e)
theorem sp_ends {b M : Nat} {v : Value} {w : World} {F : FP} {s s' : RS} (h : SPv b M v w F s) {t : Nat} (ht : t < 4) (hok : Ok s') (hk : s'.kind = s.kind) (h1 : s'.now = s.now) (h2 : s'.n = s.n) (hb : s'.born = s.born) (hit : s'.items = s.items) (ho : ∀ i, i ≠ t → s'.ins i = s.ins i ∧ spL s' i = spL s i ∧ spH s' i = spH s i ∧ s'.holds i = s.holds i)
    {x0 x1 x2 x3 x4 x5 : Value} (e0 : x0 = .bool (s'.ins t)) (e1 : x1 = .int .i64 (spL s' t)) (e2 : x2 = .int .i64 (spH s' t)) (e3 : x3 = .int .i64 (s'.holds t 0)) (e4 : x4 = .int .i64 (s'.holds t 1)) (e5 : x5 = .int .i64 (s'.holds t 2)) (z : Int) :
    OpP (SP b) w F ⟨s', [], z⟩ (.returned (.tuple #[.slice none 0 0, .int .i64 z])) (w6 w b (2 + 6 * t) x0 x1 x2 x3 x4 x5).drew := by
  obtain ⟨hq, hf⟩ := sp_row6 h ht hok hk h1 h2 hb hit ho e0 e1 e2 e3 e4 e5
  exact OpP.none ((SP.local b).fr ⟨M, v, hq⟩ (G := fun _ => False) (Fr.refl _ _).drew (fun _ _ h => h)) ⟨hf.drew, fun k hk => .inl hk⟩
set_option maxHeartbeats 2000000 in
theorem spIn {b : Nat} {w : World} {F : FP} {s : RS} (h : SP b w F s) (t : Int) : Calls Tryz.prog 62 #[.pointer (some ⟨b, 0, none⟩), .int .i64 t] w (OpP (SP b) w F (inS s t)) := by
  refine cph fun R HR => ?_
  have HQ := Lib.hid h
  obtain ⟨M, v, hv⟩ := h
  have HH := Lib.hid (spHas hv t)
  have HV := Lib.hid hv
  cases ht : okTh s t
  · rw [ht] at HH
    have e : inS s t = ⟨s, [], 1⟩ := by simp [inS, ht]
    rw [e] at HR
    clear hv e
    go_enter Tryz.func62, Tryz.ntmps62
    go_wp2_with (go_at_call 109; refine HH.out.mono ?_; rintro e w' ⟨rfl, rfl⟩)
    exact HR.out _ _ (OpP.none HQ.out (Step.refl _ _))
  · rw [ht] at HH
    have hok := hv.ok.in_ t
    obtain ⟨k, rfl, hk⟩ := okTh_nat ht
    have h4 : k < 4 := by have := hv.ok.n4; omega
    have hc := blk_cell hv.blk
    have hf := blk_free hv.blk
    have hcell : ∀ j, j < 6 → ∃ x, w.cell? ⟨b, 2 + 6 * k + j, none⟩ = some x := by
      intro j hj
      rw [hc]
      have : 2 + 6 * k + j < (spArr s M v).size := by simp [spArr]; omega
      exact ⟨_, Array.getElem?_eq_getElem this⟩
    have e : inS s (k : Int) = ⟨(inS s (k : Int)).st, [], 0⟩ := by simp [inS, ht]
    rw [e] at HR
    have HS := Lib.hid hok
    have k0 := (hc 0).trans (rfl : _ = some (Value.int .i64 s.now))
    have HT := Lib.hid ht
    have hbl := blk_lt hv.blk
    clear hv e hok ht
    have c0 := hcell 0 (by omega)
    have c1 := hcell 1 (by omega)
    have c2 := hcell 2 (by omega)
    have c3 := hcell 3 (by omega)
    have c4 := hcell 4 (by omega)
    have c5 := hcell 5 (by omega)
    have f0 := hf (2 + 6 * k + 0)
    have f1 := hf (2 + 6 * k + 1)
    have f2 := hf (2 + 6 * k + 2)
    have f3 := hf (2 + 6 * k + 3)
    have f4 := hf (2 + 6 * k + 4)
    have f5 := hf (2 + 6 * k + 5)
    clear hc hf hcell
    obtain ⟨x0, c0⟩ := c0
    obtain ⟨x1, c1⟩ := c1
    obtain ⟨x2, c2⟩ := c2
    obtain ⟨x3, c3⟩ := c3
    obtain ⟨x4, c4⟩ := c4
    obtain ⟨x5, c5⟩ := c5
    have hst : (inS s (k : Int)).st.n = s.n ∧ (inS s (k : Int)).st.kind = s.kind ∧ (inS s (k : Int)).st.items = s.items ∧ (inS s (k : Int)).st.born = s.born ∧ (inS s (k : Int)).st.now = s.now := by simp [inS, HT.out]
    have HW : Hid (OpP (SP b) w F ⟨(inS s (k : Int)).st, [], 0⟩ (.returned (.tuple #[.slice none 0 0, .int .i64 0])) (w6 w b (2 + 6 * k) (.bool true) (.int .i64 s.now) (.int .i64 s.now) (.int .i64 0) (.int .i64 0) (.int .i64 0)).drew) := by
      refine sp_ends HV.out h4 HS.out hst.2.1 hst.2.2.2.2 hst.1 hst.2.2.2.1 hst.2.2.1 (fun i hi => ?_) ?_ ?_ ?_ ?_ ?_ ?_ 0
      · simp [inS, HT.out, HV.out.kind, spL, spH, upd1, hi]
      all_goals simp [inS, HT.out, HV.out.kind, spL, spH, upd1]
    clear hst
    unfold w6 at HW
    obtain rfl | rfl | rfl | rfl : k = 0 ∨ k = 1 ∨ k = 2 ∨ k = 3 := by omega
    all_goals
      simp only [Nat.reduceMul, Nat.reduceAdd] at HW c0 c1 c2 c3 c4 c5 f0 f1 f2 f3 f4 f5
      go_enter Tryz.func62, Tryz.ntmps62
      go_wp2_with (go_at_call 109; refine HH.out.mono ?_; rintro e w' ⟨rfl, rfl⟩)
      go_region_law fail
    all_goals
      go_wp2_with fail
      exact HR.out _ _ HW.out
end Go.Proofs.YtcgcljmnnjalpaaGreat
