/- The span manager: its form in memory; has, In. The span manager: meets, sweep. The span manager: sweep. The span manager, in every state: Waiting, Rest, Out, Hold. The span manager, in every state: Hold, Born, Retire, New. The span manager, in every state: Retire. -/
import Derived.Test.YtcgcljmnnjalpaaGreatGxE
import Derived.Deep.MidRow
import Derived.StillTailTactics
set_option linter.unusedVariables false
set_option linter.unusedSimpArgs false
namespace Go.Proofs.YtcgcljmnnjalpaaGreat
open Go.RowKit Go.Kx
open Go.ChangeMaps (setBlock)
/-- A map of births. -/
def BMapP (kv : List (Int × Value)) (f : Int → Int) : Prop := ∀ x, 0 < x → (mget kv x).getD (.int .i64 0) = .int .i64 (f x)
theorem BMapP.put {kv : List (Int × Value)} {f g : Int → Int} (h : BMapP kv f) (a n : Int) (hg : ∀ y, 0 < y → g y = if y = a then n else f y) : BMapP (mput kv a (.int .i64 n)) g := by
  intro y hy
  rw [mget_put, hg y hy]
  by_cases e : y = a
  · rw [if_pos e, if_pos e]; rfl
  · rw [if_neg e, if_neg e]; exact h y hy
theorem BMapP.del {kv : List (Int × Value)} {f g : Int → Int} (h : BMapP kv f) (a : Int) (hg : ∀ y, 0 < y → g y = if y = a then 0 else f y) : BMapP (mdel kv a) g := by
  intro y hy
  rw [mget_del, hg y hy]
  by_cases e : y = a
  · rw [if_pos e, if_pos e]; rfl
  · rw [if_neg e, if_neg e]; exact h y hy
def encS (x : Itm) : List Value := [.int .i64 x.addr, .int .i64 x.birth, .int .i64 x.at_]
theorem encS_len (x : Itm) : (encS x).length = 3 := rfl
def spL (s : RS) (t : Nat) : Int := if s.ins t then s.lo t else 0
def spH (s : RS) (t : Nat) : Int := if s.ins t then s.hi t else 0
def spArr (s : RS) (M : Nat) (v : Value) : Array Value := #[.int .i64 s.now, .int .i64 s.n,
  .bool (s.ins 0), .int .i64 (spL s 0), .int .i64 (spH s 0), .int .i64 (s.holds 0 0), .int .i64 (s.holds 0 1), .int .i64 (s.holds 0 2),
  .bool (s.ins 1), .int .i64 (spL s 1), .int .i64 (spH s 1), .int .i64 (s.holds 1 0), .int .i64 (s.holds 1 1), .int .i64 (s.holds 1 2),
  .bool (s.ins 2), .int .i64 (spL s 2), .int .i64 (spH s 2), .int .i64 (s.holds 2 0), .int .i64 (s.holds 2 1), .int .i64 (s.holds 2 2),
  .bool (s.ins 3), .int .i64 (spL s 3), .int .i64 (spH s 3), .int .i64 (s.holds 3 0), .int .i64 (s.holds 3 1), .int .i64 (s.holds 3 2),
  .map (some M), v]
structure SPv (b M : Nat) (v : Value) (w : World) (F : FP) (s : RS) : Prop where
  kind : s.kind = 3
  ok : Ok s
  blk : w.heap[b]? = some (.cells (spArr s M v) 130 (0, 0))
  cmap : ∃ kv, IMap w M kv ∧ BMapP kv s.born
  row : w.ownsRow 0 147 3 v s.items.length (s.items.flatMap encS)
  fp : ∀ k, F k ↔ (k = b ∨ k = M ∨ v.ownBlock = some k)
/-- The span manager at block b. -/
def SP (b : Nat) (w : World) (F : FP) (s : RS) : Prop := ∃ M v, SPv b M v w F s
section
variable {b M : Nat} {v : Value} {w : World} {F : FP} {s : RS}
theorem SPv.neM (h : SPv b M v w F s) : M ≠ b := by
  obtain ⟨kv, hm, _⟩ := h.cmap
  exact hm.ne h.blk
theorem SPv.nev (h : SPv b M v w F s) (k : Nat) (hk : v.ownBlock = some k) : k ≠ b ∧ k ≠ M := by
  obtain ⟨c, hc⟩ := owns_blk h.row hk
  refine ⟨?_, ?_⟩
  · rintro rfl; exact absurd (blk_ty hc h.blk) (by decide)
  · rintro rfl; obtain ⟨kv, hm, _⟩ := h.cmap; exact hm.ne hc rfl
theorem SPv.local_fr {w' : World} {G : FP} (h : SPv b M v w F s) (hf : Fr G w w') (hn : ∀ k, F k → ¬ G k) : SPv b M v w' F s := by
  obtain ⟨kv, hm, hc⟩ := h.cmap
  exact ⟨h.kind, h.ok, hf.at_ h.blk (hn b ((h.fp b).2 (.inl rfl))), ⟨kv, hm.fr hf (hn M ((h.fp M).2 (.inr (.inl rfl)))), hc⟩, owns_fr h.row hf (fun k hk => hn k ((h.fp k).2 (.inr (.inr hk)))), h.fp⟩
theorem SPv.lt (h : SPv b M v w F s) (k : Nat) (hk : F k) : k < w.heap.size := by
  rcases (h.fp k).1 hk with rfl | rfl | hk
  · exact blk_lt h.blk
  · obtain ⟨kv, hm, _⟩ := h.cmap; exact hm.lt
  · exact (h.row.lt k hk).2
end
theorem SP.local (b : Nat) : Local (SP b) := ⟨fun ⟨M, v, h⟩ k hk => h.lt k hk, fun ⟨M, v, h⟩ hf hn => ⟨M, v, h.local_fr hf hn⟩⟩
theorem spHas {b M : Nat} {v : Value} {w : World} {F : FP} {s : RS} (h : SPv b M v w F s) (t : Int) : Calls Tryz.prog 109 #[.pointer (some ⟨b, 0, none⟩), .int .i64 t] w fun e w' => e = .returned (.bool (okTh s t)) ∧ w = w' := by
  refine cph fun R HR => ?_
  have k0 := (blk_cell h.blk 1).trans (rfl : _ = some (Value.int .i64 s.n))
  rcases okTh_cases s t h.ok.n4 with ⟨h1, e⟩ | ⟨h1, h2, e⟩ | ⟨h1, h2, e⟩
  · rw [e] at HR
    have d1 : decide (0 ≤ t) = false := decide_eq_false (by omega)
    clear h e
    go_enter Tryz.func109, Tryz.ntmps109
    go_wp2_with fail
    exact HR.out _ _ ⟨rfl, rfl⟩
  · rw [e] at HR
    have d1 : decide (0 ≤ t) = true := decide_eq_true h2
    have d2 : decide (t < (s.n : Int)) = false := decide_eq_false (by omega)
    clear h e
    go_enter Tryz.func109, Tryz.ntmps109
    go_wp2_with fail
    exact HR.out _ _ ⟨rfl, rfl⟩
  · rw [e] at HR
    have d1 : decide (0 ≤ t) = true := decide_eq_true h1
    have d2 : decide (t < (s.n : Int)) = true := decide_eq_true h2
    clear h e
    go_enter Tryz.func109, Tryz.ntmps109
    go_wp2_with fail
    exact HR.out _ _ ⟨rfl, rfl⟩
theorem SPv.upd {b M : Nat} {v : Value} {w : World} {F : FP} {s s' : RS} (h : SPv b M v w F s) (hok : Ok s') (hk : s'.kind = s.kind) (ha : spArr s' M v = spArr s M v) (hb : s'.born = s.born) (hit : s'.items = s.items) : SPv b M v w F s' :=
  ⟨hk.trans h.kind, hok, by rw [ha]; exact h.blk, by rw [hb]; exact h.cmap, by rw [hit]; exact h.row, h.fp⟩
def set6 (c : Array Value) (o : Nat) (x0 x1 x2 x3 x4 x5 : Value) : Array Value := (((((c.setIfInBounds o x0).setIfInBounds (o + 1) x1).setIfInBounds (o + 2) x2).setIfInBounds (o + 3) x3).setIfInBounds (o + 4) x4).setIfInBounds (o + 5) x5
theorem blk_set6 {w : World} {b : Nat} {c : Array Value} {T : TypeId} (h : w.heap[b]? = some (.cells c T (0, 0))) (o : Nat) (x0 x1 x2 x3 x4 x5 : Value) : ((((((w.setCell ⟨b, o, none⟩ x0).setCell ⟨b, o + 1, none⟩ x1).setCell ⟨b, o + 2, none⟩ x2).setCell ⟨b, o + 3, none⟩ x3).setCell ⟨b, o + 4, none⟩ x4).setCell ⟨b, o + 5, none⟩ x5).heap[b]? = some (.cells (set6 c o x0 x1 x2 x3 x4 x5) T (0, 0)) :=
  blk_set (blk_set (blk_set (blk_set (blk_set (blk_set h _ _) _ _) _ _) _ _) _ _) _ _
theorem spArr_set6 {M : Nat} {v : Value} {t : Nat} (ht : t < 4) {s s' : RS} (h1 : s'.now = s.now) (h2 : s'.n = s.n) (ho : ∀ i, i ≠ t → s'.ins i = s.ins i ∧ spL s' i = spL s i ∧ spH s' i = spH s i ∧ s'.holds i = s.holds i) :
    set6 (spArr s M v) (2 + 6 * t) (.bool (s'.ins t)) (.int .i64 (spL s' t)) (.int .i64 (spH s' t)) (.int .i64 (s'.holds t 0)) (.int .i64 (s'.holds t 1)) (.int .i64 (s'.holds t 2)) = spArr s' M v := by
  have g0 := ho 0
  have g1 := ho 1
  have g2 := ho 2
  have g3 := ho 3
  unfold spArr
  rw [h1, h2]
  obtain rfl | rfl | rfl | rfl : t = 0 ∨ t = 1 ∨ t = 2 ∨ t = 3 := by omega
  · obtain ⟨a1, a2, a3, a4⟩ := g1 (by omega)
    obtain ⟨b1, b2, b3, b4⟩ := g2 (by omega)
    obtain ⟨d1, d2, d3, d4⟩ := g3 (by omega)
    rw [a1, a2, a3, a4, b1, b2, b3, b4, d1, d2, d3, d4]
    simp [set6]
  · obtain ⟨a1, a2, a3, a4⟩ := g0 (by omega)
    obtain ⟨b1, b2, b3, b4⟩ := g2 (by omega)
    obtain ⟨d1, d2, d3, d4⟩ := g3 (by omega)
    rw [a1, a2, a3, a4, b1, b2, b3, b4, d1, d2, d3, d4]
    simp [set6]
  · obtain ⟨a1, a2, a3, a4⟩ := g0 (by omega)
    obtain ⟨b1, b2, b3, b4⟩ := g1 (by omega)
    obtain ⟨d1, d2, d3, d4⟩ := g3 (by omega)
    rw [a1, a2, a3, a4, b1, b2, b3, b4, d1, d2, d3, d4]
    simp [set6]
  · obtain ⟨a1, a2, a3, a4⟩ := g0 (by omega)
    obtain ⟨b1, b2, b3, b4⟩ := g1 (by omega)
    obtain ⟨d1, d2, d3, d4⟩ := g2 (by omega)
    rw [a1, a2, a3, a4, b1, b2, b3, b4, d1, d2, d3, d4]
    simp [set6]
def w6 (w : World) (b o : Nat) (x0 x1 x2 x3 x4 x5 : Value) : World := (((((w.setCell ⟨b, o, none⟩ x0).setCell ⟨b, o + 1, none⟩ x1).setCell ⟨b, o + 2, none⟩ x2).setCell ⟨b, o + 3, none⟩ x3).setCell ⟨b, o + 4, none⟩ x4).setCell ⟨b, o + 5, none⟩ x5
theorem sp_row6 {b M : Nat} {v : Value} {w : World} {F : FP} {s s' : RS} (h : SPv b M v w F s) {t : Nat} (ht : t < 4) (hok : Ok s') (hk : s'.kind = s.kind) (h1 : s'.now = s.now) (h2 : s'.n = s.n) (hb : s'.born = s.born) (hit : s'.items = s.items) (ho : ∀ i, i ≠ t → s'.ins i = s.ins i ∧ spL s' i = spL s i ∧ spH s' i = spH s i ∧ s'.holds i = s.holds i)
    {x0 x1 x2 x3 x4 x5 : Value} (e0 : x0 = .bool (s'.ins t)) (e1 : x1 = .int .i64 (spL s' t)) (e2 : x2 = .int .i64 (spH s' t)) (e3 : x3 = .int .i64 (s'.holds t 0)) (e4 : x4 = .int .i64 (s'.holds t 1)) (e5 : x5 = .int .i64 (s'.holds t 2)) :
    SPv b M v (w6 w b (2 + 6 * t) x0 x1 x2 x3 x4 x5) F s' ∧ Fr F w (w6 w b (2 + 6 * t) x0 x1 x2 x3 x4 x5) := by
  subst e0 e1 e2 e3 e4 e5
  have hfb : Fr (· = b) w (w6 w b (2 + 6 * t) (.bool (s'.ins t)) (.int .i64 (spL s' t)) (.int .i64 (spH s' t)) (.int .i64 (s'.holds t 0)) (.int .i64 (s'.holds t 1)) (.int .i64 (s'.holds t 2))) := by
    unfold w6
    exact ((((((Fr.refl (· = b) w).setCell _ _ (.inr rfl)).setCell _ _ (.inr rfl)).setCell _ _ (.inr rfl)).setCell _ _ (.inr rfl)).setCell _ _ (.inr rfl)).setCell _ _ (.inr rfl)
  have hbl := blk_set6 h.blk (2 + 6 * t) (.bool (s'.ins t)) (.int .i64 (spL s' t)) (.int .i64 (spH s' t)) (.int .i64 (s'.holds t 0)) (.int .i64 (s'.holds t 1)) (.int .i64 (s'.holds t 2))
  rw [spArr_set6 ht h1 h2 ho] at hbl
  obtain ⟨kv, hm, hc⟩ := h.cmap
  refine ⟨⟨hk.trans h.kind, hok, hbl, ⟨kv, hm.fr hfb h.neM, by rw [hb]; exact hc⟩, ?_, h.fp⟩, hfb.mono fun i _ e => (h.fp i).2 (.inl e)⟩
  rw [hit]
  exact owns_fr h.row hfb (fun j hj e => (h.nev j hj).1 e)
theorem sp_ends {b M : Nat} {v : Value} {w : World} {F : FP} {s s' : RS} (h : SPv b M v w F s) {t : Nat} (ht : t < 4) (hok : Ok s') (hk : s'.kind = s.kind) (h1 : s'.now = s.now) (h2 : s'.n = s.n) (hb : s'.born = s.born) (hit : s'.items = s.items) (ho : ∀ i, i ≠ t → s'.ins i = s.ins i ∧ spL s' i = spL s i ∧ spH s' i = spH s i ∧ s'.holds i = s.holds i)
    {x0 x1 x2 x3 x4 x5 : Value} (e0 : x0 = .bool (s'.ins t)) (e1 : x1 = .int .i64 (spL s' t)) (e2 : x2 = .int .i64 (spH s' t)) (e3 : x3 = .int .i64 (s'.holds t 0)) (e4 : x4 = .int .i64 (s'.holds t 1)) (e5 : x5 = .int .i64 (s'.holds t 2)) (z : Int) :
    OpP (SP b) w F ⟨s', [], z⟩ (.returned (.tuple #[.slice none 0 0, .int .i64 z])) (w6 w b (2 + 6 * t) x0 x1 x2 x3 x4 x5).drew := by
  obtain ⟨hq, hf⟩ := sp_row6 h ht hok hk h1 h2 hb hit ho e0 e1 e2 e3 e4 e5
  exact OpP.none ((SP.local b).fr ⟨M, v, hq⟩ (G := fun _ => False) (Fr.refl _ _).drew (fun _ _ h => h)) ⟨hf.drew, fun k hk => .inl hk⟩
set_option maxHeartbeats 2000000 in
theorem spIn {b : Nat} {w : World} {F : FP} {s : RS} (h : SP b w F s) (t : Int) : Calls Tryz.prog 62 #[.pointer (some ⟨b, 0, none⟩), .int .i64 t] w (OpP (SP b) w F (inS s t)) := by
  refine cph fun R HR => ?_
  have HQ := Lib.hid h
  obtain ⟨M, v, hv⟩ := h
  have HH := Lib.hid (spHas hv t)
  have HV := Lib.hid hv
  cases ht : okTh s t
  · rw [ht] at HH
    have e : inS s t = ⟨s, [], 1⟩ := by simp [inS, ht]
    rw [e] at HR
    clear hv e
    go_enter Tryz.func62, Tryz.ntmps62
    go_wp2_with (go_at_call 109; refine HH.out.mono ?_; rintro e w' ⟨rfl, rfl⟩)
    exact HR.out _ _ (OpP.none HQ.out (Step.refl _ _))
  · rw [ht] at HH
    have hok := hv.ok.in_ t
    obtain ⟨k, rfl, hk⟩ := okTh_nat ht
    have h4 : k < 4 := by have := hv.ok.n4; omega
    have hc := blk_cell hv.blk
    have hf := blk_free hv.blk
    have hcell : ∀ j, j < 6 → ∃ x, w.cell? ⟨b, 2 + 6 * k + j, none⟩ = some x := by
      intro j hj
      rw [hc]
      have : 2 + 6 * k + j < (spArr s M v).size := by simp [spArr]; omega
      exact ⟨_, Array.getElem?_eq_getElem this⟩
    have e : inS s (k : Int) = ⟨(inS s (k : Int)).st, [], 0⟩ := by simp [inS, ht]
    rw [e] at HR
    have HS := Lib.hid hok
    have k0 := (hc 0).trans (rfl : _ = some (Value.int .i64 s.now))
    have HT := Lib.hid ht
    have hbl := blk_lt hv.blk
    clear hv e hok ht
    have c0 := hcell 0 (by omega)
    have c1 := hcell 1 (by omega)
    have c2 := hcell 2 (by omega)
    have c3 := hcell 3 (by omega)
    have c4 := hcell 4 (by omega)
    have c5 := hcell 5 (by omega)
    have f0 := hf (2 + 6 * k + 0)
    have f1 := hf (2 + 6 * k + 1)
    have f2 := hf (2 + 6 * k + 2)
    have f3 := hf (2 + 6 * k + 3)
    have f4 := hf (2 + 6 * k + 4)
    have f5 := hf (2 + 6 * k + 5)
    clear hc hf hcell
    obtain ⟨x0, c0⟩ := c0
    obtain ⟨x1, c1⟩ := c1
    obtain ⟨x2, c2⟩ := c2
    obtain ⟨x3, c3⟩ := c3
    obtain ⟨x4, c4⟩ := c4
    obtain ⟨x5, c5⟩ := c5
    have hst : (inS s (k : Int)).st.n = s.n ∧ (inS s (k : Int)).st.kind = s.kind ∧ (inS s (k : Int)).st.items = s.items ∧ (inS s (k : Int)).st.born = s.born ∧ (inS s (k : Int)).st.now = s.now := by simp [inS, HT.out]
    have HW : Hid (OpP (SP b) w F ⟨(inS s (k : Int)).st, [], 0⟩ (.returned (.tuple #[.slice none 0 0, .int .i64 0])) (w6 w b (2 + 6 * k) (.bool true) (.int .i64 s.now) (.int .i64 s.now) (.int .i64 0) (.int .i64 0) (.int .i64 0)).drew) := by
      refine sp_ends HV.out h4 HS.out hst.2.1 hst.2.2.2.2 hst.1 hst.2.2.2.1 hst.2.2.1 (fun i hi => ?_) ?_ ?_ ?_ ?_ ?_ ?_ 0
      · simp [inS, HT.out, HV.out.kind, spL, spH, upd1, hi]
      all_goals simp [inS, HT.out, HV.out.kind, spL, spH, upd1]
    clear hst
    unfold w6 at HW
    obtain rfl | rfl | rfl | rfl : k = 0 ∨ k = 1 ∨ k = 2 ∨ k = 3 := by omega
    all_goals
      simp only [Nat.reduceMul, Nat.reduceAdd] at HW c0 c1 c2 c3 c4 c5 f0 f1 f2 f3 f4 f5
      go_enter Tryz.func62, Tryz.ntmps62
      go_wp2_with (go_at_call 109; refine HH.out.mono ?_; rintro e w' ⟨rfl, rfl⟩)
      go_region_law fail
    all_goals
      go_wp2_with fail
      exact HR.out _ _ HW.out
end Go.Proofs.YtcgcljmnnjalpaaGreat
set_option linter.unusedVariables false
set_option linter.unusedSimpArgs false
namespace Go.Proofs.YtcgcljmnnjalpaaGreat
open Go.RowKit Go.Kx
open Go.ChangeMaps (setBlock)
theorem spIdx0 (x0 x1 x2 x3 x4 x5 x6 x7 x8 x9 x10 x11 x12 x13 x14 x15 x16 x17 x18 x19 x20 x21 x22 x23 : Value) (W : World) : (Instr.index 127 (.agg #[x0, x1, x2, x3, x4, x5, x6, x7, x8, x9, x10, x11, x12, x13, x14, x15, x16, x17, x18, x19, x20, x21, x22, x23]) (.int .i64 0)).run Tryz.prog W = .ok (.agg #[x0, x1, x2, x3, x4, x5]) W := by kernel_rfl
theorem spIdx1 (x0 x1 x2 x3 x4 x5 x6 x7 x8 x9 x10 x11 x12 x13 x14 x15 x16 x17 x18 x19 x20 x21 x22 x23 : Value) (W : World) : (Instr.index 127 (.agg #[x0, x1, x2, x3, x4, x5, x6, x7, x8, x9, x10, x11, x12, x13, x14, x15, x16, x17, x18, x19, x20, x21, x22, x23]) (.int .i64 1)).run Tryz.prog W = .ok (.agg #[x6, x7, x8, x9, x10, x11]) W := by kernel_rfl
theorem spIdx2 (x0 x1 x2 x3 x4 x5 x6 x7 x8 x9 x10 x11 x12 x13 x14 x15 x16 x17 x18 x19 x20 x21 x22 x23 : Value) (W : World) : (Instr.index 127 (.agg #[x0, x1, x2, x3, x4, x5, x6, x7, x8, x9, x10, x11, x12, x13, x14, x15, x16, x17, x18, x19, x20, x21, x22, x23]) (.int .i64 2)).run Tryz.prog W = .ok (.agg #[x12, x13, x14, x15, x16, x17]) W := by kernel_rfl
theorem spIdx3 (x0 x1 x2 x3 x4 x5 x6 x7 x8 x9 x10 x11 x12 x13 x14 x15 x16 x17 x18 x19 x20 x21 x22 x23 : Value) (W : World) : (Instr.index 127 (.agg #[x0, x1, x2, x3, x4, x5, x6, x7, x8, x9, x10, x11, x12, x13, x14, x15, x16, x17, x18, x19, x20, x21, x22, x23]) (.int .i64 3)).run Tryz.prog W = .ok (.agg #[x18, x19, x20, x21, x22, x23]) W := by kernel_rfl
def spRow (s : RS) (t : Nat) : Array Value := #[.bool (s.ins t), .int .i64 (spL s t), .int .i64 (spH s t), .int .i64 (s.holds t 0), .int .i64 (s.holds t 1), .int .i64 (s.holds t 2)]
def spSeen (s : RS) : Array Value := #[.bool (s.ins 0), .int .i64 (spL s 0), .int .i64 (spH s 0), .int .i64 (s.holds 0 0), .int .i64 (s.holds 0 1), .int .i64 (s.holds 0 2), .bool (s.ins 1), .int .i64 (spL s 1), .int .i64 (spH s 1), .int .i64 (s.holds 1 0), .int .i64 (s.holds 1 1), .int .i64 (s.holds 1 2), .bool (s.ins 2), .int .i64 (spL s 2), .int .i64 (spH s 2), .int .i64 (s.holds 2 0), .int .i64 (s.holds 2 1), .int .i64 (s.holds 2 2), .bool (s.ins 3), .int .i64 (spL s 3), .int .i64 (spH s 3), .int .i64 (s.holds 3 0), .int .i64 (s.holds 3 1), .int .i64 (s.holds 3 2)]
def spanC (s : RS) (x : Itm) (t : Nat) : Bool := s.ins t && ((decide (x.birth ≤ spH s t) && decide (spL s t ≤ x.at_)) || decide (x.addr ∈ [s.holds t 0, s.holds t 1, s.holds t 2]))
theorem spanB_C (s : RS) (x : Itm) (t : Nat) : spanB s x t = spanC s x t := by
  unfold spanB spanC spL spH
  cases s.ins t
  · rfl
  · simp only [Bool.true_and, if_true, List.range, List.range.loop, List.any_cons, List.any_nil, Bool.or_false, List.mem_cons, List.not_mem_nil, or_false, Bool.decide_or]
    congr 1
    have e : ∀ i, (s.holds t i == x.addr) = decide (x.addr = s.holds t i) := fun i => by
      rw [Bool.eq_iff_iff]; simp; exact eq_comm
    rw [e, e, e]
theorem spIdx (s : RS) {t : Nat} (ht : t < 4) (W : World) : (Instr.index 127 (.agg (spSeen s)) (.int .i64 t)).run Tryz.prog W = .ok (.agg (spRow s t)) W := by
  obtain rfl | rfl | rfl | rfl : t = 0 ∨ t = 1 ∨ t = 2 ∨ t = 3 := by omega
  · exact spIdx0 _ _ _ _ _ _ _ _ _ _ _ _ _ _ _ _ _ _ _ _ _ _ _ _ W
  · exact spIdx1 _ _ _ _ _ _ _ _ _ _ _ _ _ _ _ _ _ _ _ _ _ _ _ _ W
  · exact spIdx2 _ _ _ _ _ _ _ _ _ _ _ _ _ _ _ _ _ _ _ _ _ _ _ _ W
  · exact spIdx3 _ _ _ _ _ _ _ _ _ _ _ _ _ _ _ _ _ _ _ _ _ _ _ _ W
theorem size127 : (Tryz.prog.info? 127).map (·.size) = some 24 := by kernel_rfl
theorem sp_range {w : World} {b M : Nat} {v : Value} {s : RS} (h : w.heap[b]? = some (.cells (spArr s M v) 130 (0, 0))) : w.rangeAt b 2 (spSeen s).toList := by
  intro j u hj
  have e : (spArr s M v).toList = [Value.int .i64 s.now, Value.int .i64 s.n] ++ ((spSeen s).toList ++ [.map (some M), v]) := rfl
  have hl : j < (spSeen s).toList.length := (List.getElem?_eq_some_iff.1 hj).1
  rw [blk_cell h, ← Array.getElem?_toList, e, List.getElem?_append_right (by simp), List.getElem?_append_left (by simp only [List.length_cons, List.length_nil]; omega)]
  rw [show 2 + j - [Value.int .i64 s.now, Value.int .i64 s.n].length = j by simp only [List.length_cons, List.length_nil]; omega]
  exact hj
set_option maxRecDepth 100000 in
set_option maxHeartbeats 4000000 in
theorem spMeets {b M : Nat} {v : Value} {w : World} {s : RS} (hb : w.heap[b]? = some (.cells (spArr s M v) 130 (0, 0))) (x : Itm) : Calls Tryz.prog 141 #[.pointer (some ⟨b, 0, none⟩), .agg #[.int .i64 x.addr, .int .i64 x.birth, .int .i64 x.at_]] w fun e w' => e = .returned (.bool ((List.range 4).any (spanB s x))) ∧ Grow w w' := by
  refine cph fun R HR => ?_
  have hload := sp_range (blk_alloc' (Obj.cells #[.int .i64 x.addr, .int .i64 x.birth, .int .i64 x.at_] 147) hb)
  have hbl := blk_lt hb
  have hcb := blk_cell hb
  have k2 : ∃ u, w.cell? ⟨b, 2, none⟩ = some u := ⟨_, hcb 2⟩
  obtain ⟨u2, k2⟩ := k2
  have HID : Hid (∀ t : Nat, t < 4 → ∀ W, (Instr.index 127 (.agg (spSeen s).toList.toArray) (.int .i64 t)).run Tryz.prog W = .ok (.agg (spRow s t)) W) := Lib.hid fun t ht W => by rw [Array.toArray_toList]; exact spIdx s ht W
  have hlen : (Tryz.prog.info? 127).map (·.size) = some (spSeen s).toList.length := size127
  generalize (spSeen s).toList = AV at HID hload hlen
  have hnw := cells_new w [.int .i64 x.addr, .int .i64 x.birth, .int .i64 x.at_] 147
  have hbx := blk_new w (Obj.cells #[.int .i64 x.addr, .int .i64 x.birth, .int .i64 x.at_] 147)
  have hg1 := (Grow.refl w).alloc (Obj.cells #[.int .i64 x.addr, .int .i64 x.birth, .int .i64 x.at_] 147)
  have hs1 := size_alloc w (Obj.cells #[.int .i64 x.addr, .int .i64 x.birth, .int .i64 x.at_] 147)
  obtain ⟨w1, hw1⟩ : ∃ w1, w.alloc (Obj.cells #[.int .i64 x.addr, .int .i64 x.birth, .int .i64 x.at_] 147) = w1 := ⟨_, rfl⟩
  rw [hw1] at hload hbx hg1 hs1
  have H1 := Lib.hid (And.intro hbx (And.intro hg1 (And.intro hs1 (And.intro hload hlen))))
  clear hb hcb hbx hg1 hs1 hnw hload hlen
  go_enter Tryz.func141, Tryz.ntmps141
  go_wp2_with (refine wpList_load_mid rfl 127 (.tmp 9) rfl b 2 rfl AV _ H1.out.2.2.2.1 Tryz.underlying127 rfl H1.out.2.2.2.2 ?_)
  go_loopw [11] (fun i wr => ∃ k : Nat, k ≤ 4 ∧ i = .int .i64 k ∧ Hid (Grow w1 wr ∧ ∀ t, t < k → spanB s x t = false)) (fun i _ => 4 - (intOf i).toNat)
  case atStart => exact ⟨0, by omega, rfl, Grow.refl _, fun t h => by omega⟩
  case round =>
    obtain ⟨k, hk, rfl, HO⟩ := hrel
    by_cases hlt : k < 4
    · have hidx := HID.out k hlt
      unfold spRow at hidx
      have hCC := spanB_C s x k
      unfold spanC at hCC
      have hni := blk_new wr (Obj.cells #[.bool (s.ins k), .int .i64 (spL s k), .int .i64 (spH s k), .int .i64 (s.holds k 0), .int .i64 (s.holds k 1), .int .i64 (s.holds k 2)] 126)
      have hgi := HO.out.1.alloc (Obj.cells #[.bool (s.ins k), .int .i64 (spL s k), .int .i64 (spH s k), .int .i64 (s.holds k 0), .int .i64 (s.holds k 1), .int .i64 (s.holds k 2)] 126)
      generalize s.ins k = ins at hidx hCC hni hgi
      generalize spL s k = lo at hidx hCC hni hgi
      generalize spH s k = hi at hidx hCC hni hgi
      generalize s.holds k 0 = h0 at hidx hCC hni hgi
      generalize s.holds k 1 = h1 at hidx hCC hni hgi
      generalize s.holds k 2 = h2 at hidx hCC hni hgi
      have HCC := Lib.hid hCC
      obtain ⟨w2, hw2⟩ : ∃ w2, wr.alloc (Obj.cells #[.bool ins, .int .i64 lo, .int .i64 hi, .int .i64 h0, .int .i64 h1, .int .i64 h2] 126) = w2 := ⟨_, rfl⟩
      rw [hw2] at hni hgi
      have hbr := blk_cell (hgi.at_ H1.out.1)
      have d0 := (hbr 0).trans (rfl : _ = some (Value.int .i64 x.addr))
      have d1 := (hbr 1).trans (rfl : _ = some (Value.int .i64 x.birth))
      have d2 := (hbr 2).trans (rfl : _ = some (Value.int .i64 x.at_))
      have hbi := blk_cell hni
      have g0 := (hbi 0).trans (rfl : _ = some (Value.bool ins))
      have g1 := (hbi 1).trans (rfl : _ = some (Value.int .i64 lo))
      have g2 := (hbi 2).trans (rfl : _ = some (Value.int .i64 hi))
      have HC : Hid (∀ n, Calls Tryz.prog 106 #[.slice (some ⟨wr.heap.size, 3, none⟩) 3 3, .int .i64 x.addr] (w2.drewN n) fun e w' => e = .returned (.bool (decide (x.addr ∈ [h0, h1, h2]))) ∧ w2.drewN n = w') := Lib.hid fun n =>
        containsI_any (cap := 3) (l := [h0, h1, h2]) x.addr (.inr ⟨wr.heap.size, 3, rfl, fun j y hj => by
          have hb3 : (w2.drewN n).cell? ⟨wr.heap.size, 3 + j, none⟩ = _ := blk_cell (w := w2.drewN n) hni (3 + j)
          rw [hb3]
          match j, hj with
          | 0, hj => simp at hj; subst hj; rfl
          | 1, hj => simp at hj; subst hj; rfl
          | 2, hj => simp at hj; subst hj; rfl
          | j + 3, hj => simp at hj⟩) (by simp)
      have hki : (k : Int) < 4 := by omega
      have HG := Lib.hid hgi
      clear hbr hbi hni hgi hCC
      go_upto_region 4 with fail
      cases hj : ins
      · subst hj
        have hsp : spanB s x k = false := HCC.out
        have HSP := Lib.hid hsp
        clear hsp
        go_quiet (fail)
        go_wp2_with fail
        go_roundw
        case rel => exact ⟨k + 1, by omega, by go_num, HG.out.drewN nq, fun t ht => (Nat.lt_succ_iff_lt_or_eq.1 ht).elim (HO.out.2 t) (fun e => e ▸ HSP.out)⟩
        case measure => simp [intOf] <;> omega
      · subst hj
        by_cases c12 : x.birth ≤ hi ∧ lo ≤ x.at_
        · obtain ⟨c1, c2⟩ := c12
          have hsp : spanB s x k = true := by rw [HCC.out]; simp [c1, c2]
          have HSP := Lib.hid hsp
          clear hsp
          go_quiet (fail)
          go_wp2_with fail
          refine HR.out _ _ ⟨?_, (H1.out.2.1.trans HG.out).drewN nq⟩
          rw [List.any_eq_true.2 ⟨k, List.mem_range.2 hlt, HSP.out⟩]; try rfl
        · cases hmem : decide (x.addr ∈ [h0, h1, h2])
          · have hsp : spanB s x k = false := by
              rw [HCC.out, hmem]
              by_cases c1 : x.birth ≤ hi
              · have c2 : ¬ lo ≤ x.at_ := fun c2 => c12 ⟨c1, c2⟩
                simp [c2]
              · simp [c1]
            have HSP := Lib.hid hsp
            clear hsp
            by_cases c1 : x.birth ≤ hi
            · have c2 : ¬ lo ≤ x.at_ := fun c2 => c12 ⟨c1, c2⟩
              clear c12
              go_quiet ((first | (go_at_call 106; exact Calls.quiet_of_same ((HC.out _).mono fun e w' h => ⟨by rw [h.1, hmem], h.2.symm⟩))))
              go_wp2_with fail
              go_roundw
              case rel => exact ⟨k + 1, by omega, by go_num, HG.out.drewN nq, fun t ht => (Nat.lt_succ_iff_lt_or_eq.1 ht).elim (HO.out.2 t) (fun e => e ▸ HSP.out)⟩
              case measure => simp [intOf] <;> omega
            · clear c12
              go_quiet ((first | (go_at_call 106; exact Calls.quiet_of_same ((HC.out _).mono fun e w' h => ⟨by rw [h.1, hmem], h.2.symm⟩))))
              go_wp2_with fail
              go_roundw
              case rel => exact ⟨k + 1, by omega, by go_num, HG.out.drewN nq, fun t ht => (Nat.lt_succ_iff_lt_or_eq.1 ht).elim (HO.out.2 t) (fun e => e ▸ HSP.out)⟩
              case measure => simp [intOf] <;> omega
          · have hsp : spanB s x k = true := by rw [HCC.out, hmem]; simp
            have HSP := Lib.hid hsp
            clear hsp
            by_cases c1 : x.birth ≤ hi
            · have c2 : ¬ lo ≤ x.at_ := fun c2 => c12 ⟨c1, c2⟩
              clear c12
              go_quiet ((first | (go_at_call 106; exact Calls.quiet_of_same ((HC.out _).mono fun e w' h => ⟨by rw [h.1, hmem], h.2.symm⟩))))
              go_wp2_with fail
              refine HR.out _ _ ⟨?_, (H1.out.2.1.trans HG.out).drewN nq⟩
              rw [List.any_eq_true.2 ⟨k, List.mem_range.2 hlt, HSP.out⟩]; try rfl
            · clear c12
              go_quiet ((first | (go_at_call 106; exact Calls.quiet_of_same ((HC.out _).mono fun e w' h => ⟨by rw [h.1, hmem], h.2.symm⟩))))
              go_wp2_with fail
              refine HR.out _ _ ⟨?_, (H1.out.2.1.trans HG.out).drewN nq⟩
              rw [List.any_eq_true.2 ⟨k, List.mem_range.2 hlt, HSP.out⟩]; try rfl
    · obtain rfl : k = 4 := by omega
      have hsp : (List.range 4).any (spanB s x) = false := by
        rw [List.any_eq_false]
        intro t ht
        rw [HO.out.2 t (List.mem_range.1 ht)]
        simp
      rw [hsp] at HR
      clear hsp
      go_wp2_with fail
      exact HR.out _ _ ⟨rfl, H1.out.2.1.trans HO.out.1⟩
end Go.Proofs.YtcgcljmnnjalpaaGreat
set_option linter.unusedVariables false
set_option linter.unusedSimpArgs false
namespace Go.Proofs.YtcgcljmnnjalpaaGreat
open Go.RowKit Go.Kx
open Go.ChangeMaps (setBlock)
theorem infoS : (Tryz.prog.info? 147).map (fun i => (i.zero, i.size, i.bytes)) = some (some (.agg #[.int .i64 0, .int .i64 0, .int .i64 0]), 3, 24) := by kernel_rfl
theorem fr_grow {S : Nat → Prop} {a b c : World} (h : Fr S a b) (g : Grow b c) : Fr S a c := h.then g (fun _ _ h => h.elim)
/-- Of the first k items those of which p holds. -/
def bkP (p : Itm → Bool) (l : List Itm) (k : Nat) : List Itm := (l.take k).filter p
theorem bkP_succ {p : Itm → Bool} {l : List Itm} {k : Nat} {x : Itm} (h : l[k]? = some x) : bkP p l (k + 1) = if p x then bkP p l k ++ [x] else bkP p l k := by
  unfold bkP
  rw [List.take_add_one, h, List.filter_append]
  cases hg : p x <;> simp [hg]
theorem bkP_len (p : Itm → Bool) (l : List Itm) (k : Nat) : (bkP p l k).length ≤ k := Nat.le_trans (List.length_filter_le _ _) (List.length_take_le _ _)
theorem bkP_all (p : Itm → Bool) (l : List Itm) : bkP p l l.length = l.filter p := by unfold bkP; rw [List.take_length]
def goneS (s : RS) (x : Itm) : Bool := !((List.range 4).any (spanB s x))
theorem freeS {s : RS} (h : s.kind = 3) (x : Itm) : freeB s x = goneS s x := by
  unfold freeB goneS
  rw [if_neg (by omega), if_neg (by omega), if_pos h]
def bornK (s : RS) (B : List Itm) : Int → Int := fun a => if a ∈ B.map (·.addr) then 0 else s.born a
theorem sweepP {s : RS} (h : s.kind = 3) : (sweepS s fun _ => true).back = (bkP (goneS s) s.items s.items.length).map (·.addr) ∧ (sweepS s fun _ => true).st.items = bkP (fun x => !goneS s x) s.items s.items.length ∧ (sweepS s fun _ => true).st.born = bornK s (bkP (goneS s) s.items s.items.length) := by
  have e : ∀ x : Itm, (true && freeB s x) = goneS s x := fun x => by rw [Bool.true_and, freeS h]
  unfold sweepS bornK
  rw [bkP_all, bkP_all]
  refine ⟨?_, ?_, ?_⟩
  all_goals simp only [e]
/-- What stands in the middle of the loop. -/
structure SwI (w : World) (M : Nat) (s : RS) (B L : List Itm) (u x : Value) (wr : World) : Prop where
  back : wr.ownsRow w.heap.size 3 1 u B.length (B.map fun x => Value.int .i64 x.addr)
  left : wr.ownsRow w.heap.size 147 3 x L.length (L.flatMap encS)
  fr : Fr (· = M) w wr
  born : ∃ kv, IMap wr M kv ∧ BMapP kv (bornK s B)
set_option maxRecDepth 100000 in
set_option maxHeartbeats 8000000 in
theorem spSweep {b : Nat} {w : World} {F : FP} {s : RS} (h : SP b w F s) (hs : s.items.length ≤ 200000) : Calls Tryz.prog 110 #[.pointer (some ⟨b, 0, none⟩)] w (OpL (SP b) w F (sweepS s fun _ => true)) := by
  refine cph fun R HR => ?_
  obtain ⟨M, v, hv⟩ := h
  have k27 := (blk_cell hv.blk 27).trans (rfl : _ = some v)
  have hbl := blk_lt hv.blk
  have HV := Lib.hid hv
  obtain ⟨i0, hi, hz0, hz1, hz2⟩ := info_parts info3x
  have HI := Lib.hid (And.intro hi (And.intro hz0 (And.intro hz1 hz2)))
  clear hi hz0 hz1 hz2
  obtain ⟨i1, hi, hz0, hz1, hz2⟩ := info_parts infoS
  have HJ := Lib.hid (And.intro hi (And.intro hz0 (And.intro hz1 hz2)))
  clear hi hz0 hz1 hz2
  have hsh : ∃ A cap, v = .slice A s.items.length cap ∧ (s.items ≠ [] → ∃ g, A = some ⟨g, 0, none⟩) := by
    rcases own_val hv.row with ⟨rfl, h0⟩ | ⟨g, cap, rfl, _⟩
    · have : s.items = [] := List.eq_nil_of_length_eq_zero h0
      exact ⟨none, 0, by rw [h0], fun h => absurd this h⟩
    · exact ⟨_, cap, rfl, fun _ => ⟨g, rfl⟩⟩
  obtain ⟨A, cap, rfl, hA⟩ := hsh
  have HA := Lib.hid hA
  have hMl : M < w.heap.size := by obtain ⟨kv, hm, _⟩ := hv.cmap; exact hm.lt
  clear hv hA
  go_enter Tryz.func110, Tryz.ntmps110
  go_wp2_with fail
  go_loopw [3, 4, 12] (fun u x i wr => ∃ k : Nat, k ≤ s.items.length ∧ i = .int .i64 k ∧ Hid (SwI w M s (bkP (goneS s) s.items k) (bkP (fun x => !goneS s x) s.items k) u x wr)) (fun _ _ i _ => s.items.length - (intOf i).toNat)
  case atStart =>
    refine ⟨0, by omega, rfl, World.ownsRow_nil _ _ _ _, World.ownsRow_nil _ _ _ _, Fr.refl _ _, ?_⟩
    obtain ⟨kv, hm, hc⟩ := HV.out.cmap
    exact ⟨kv, hm, fun y hy => by rw [hc y hy]; simp [bornK, bkP]⟩
  case round =>
    obtain ⟨k, hk, rfl, HO⟩ := hrel
    by_cases hlt : k < s.items.length
    · obtain ⟨x, hx⟩ : ∃ x, s.items[k]? = some x := ⟨s.items[k], by simp [hlt]⟩
      obtain ⟨g, rfl⟩ := HA.out (by intro e; rw [e] at hlt; simp at hlt)
      have hrow := owns_fr HV.out.row HO.out.fr (fun j hj e => (HV.out.nev j hj).2 e)
      have c0 := (own_at encS_len hrow hx (o := 0) (by omega)).trans (rfl : _ = some (Value.int .i64 x.addr))
      have c1 := (own_at encS_len hrow hx (o := 1) (by omega)).trans (rfl : _ = some (Value.int .i64 x.birth))
      have c2 := (own_at encS_len hrow hx (o := 2) (by omega)).trans (rfl : _ = some (Value.int .i64 x.at_))
      rw [Nat.add_zero] at c0
      have hki : (k : Int) < (s.items.length : Int) := by omega
      have hgs := HO.out.fr.size
      have hb1 := bkP_len (goneS s) s.items k
      have hb2 := bkP_len (fun x => !goneS s x) s.items k
      have hbr := HO.out.fr.at_ HV.out.blk (fun e => HV.out.neM e.symm)
      have h1 := bkP_succ (p := goneS s) hx
      have h2 := bkP_succ (p := fun x => !goneS s x) hx
      have hxa := HV.out.ok.addr x (List.mem_of_getElem? hx)
      -- the item's own copy
      have hnA := blk_new wr (Obj.cells #[.int .i64 x.addr, .int .i64 x.birth, .int .i64 x.at_] 147)
      have hgA := (Grow.refl wr).alloc (Obj.cells #[.int .i64 x.addr, .int .i64 x.birth, .int .i64 x.at_] 147)
      obtain ⟨wA, hwA⟩ : ∃ wA, wr.alloc (Obj.cells #[.int .i64 x.addr, .int .i64 x.birth, .int .i64 x.at_] 147) = wA := ⟨_, rfl⟩
      rw [hwA] at hnA hgA
      have a0 := (blk_cell hnA 0).trans (rfl : _ = some (Value.int .i64 x.addr))
      have a1 := (blk_cell hnA 1).trans (rfl : _ = some (Value.int .i64 x.birth))
      have a2 := (blk_cell hnA 2).trans (rfl : _ = some (Value.int .i64 x.at_))
      have HM := Lib.hid (spMeets (hgA.at_ hbr) x)
      have HNA := Lib.hid (And.intro hnA (And.intro hgA hbr))
      have HXA := Lib.hid hxa
      clear hx hrow hnA hgA hbr hxa
      cases hq : (List.range 4).any (spanB s x)
      · have hgo : goneS s x = true := by unfold goneS; rw [hq]; rfl
        rw [hq] at HM
        rw [hgo] at h1
        simp only [hgo, Bool.not_true, Bool.false_eq_true, if_false, if_true] at h1 h2
        have HN := Lib.hid (And.intro h1 h2)
        clear h1 h2 hgo hq
        generalize bkP (goneS s) s.items k = B at HO HN hb1
        generalize bkP (fun x => !goneS s x) s.items k = L at HO HN hb2
        go_wp2_with (first | (go_at_call 141; refine HM.out.mono ?_; rintro e wB ⟨rfl, hgB⟩; have b0 := hgB.cell a0; have HGB := Lib.hid (HNA.out.2.1.trans hgB); have hsB := HGB.out.size; have HBB := Lib.hid (hgB.at_ HNA.out.1); clear hgB) | (at_builtin; refine wpList_append_own_at _ rfl (.tmp 23) (.tmp 26) 34 rfl w.heap.size 3 i0 (.int .i64 0) 1 8 Tryz.underlying34 HI.out.1 HI.out.2.1 HI.out.2.2.1 HI.out.2.2.2 rfl (by decide) _ _ _ rfl ((owns_grow HO.out.back HGB.out).alloc _) ⟨wB.heap.size, 0, none⟩ 1 1 [.int .i64 x.addr] rfl rfl (cell_one_new _ _ _) (by simp [Value.oneCell']) (by unfold maxLen; omega) (by omega) (by simp; omega) ?_))
        intro v' w3 hown hgrow _ hat
        have hfg := fr_grown hgrow
        have hM3 : ∀ j, u3.ownBlock = some j → M ≠ j := fun j e => by have := (HO.out.back.lt j e).1; omega
        have hfr3 : Fr (· = M) w w3 := ((fr_grow HO.out.fr HGB.out).alloc _).grown hgrow (fun j e => .inl (HO.out.back.lt j e).1)
        have hJ3 := hfg.at_ (blk_alloc' _ HBB.out) (fun e => by have := (HO.out.back.lt _ e).2; omega)
        have hb3 := hfr3.at_ HV.out.blk (fun e => HV.out.neM e.symm)
        have hl3 := owns_fr (owns_grow HO.out.left (HGB.out.alloc (Obj.cells #[.int .i64 x.addr] 3))) hfg (fun j hj e => own_ne HO.out.back HO.out.left (by decide) j hj e)
        obtain ⟨kv, hm, hc⟩ := HO.out.born
        have hm3 := (hm.fr (HGB.out.alloc (Obj.cells #[.int .i64 x.addr] 3)) (fun h => h)).fr hfg (fun e => hM3 M e rfl)
        have H3 : Hid ((w3.drewN 1).ownsRow w.heap.size 3 1 v' (B ++ [x]).length ((B ++ [x]).map fun x => Value.int .i64 x.addr) ∧ (w3.drewN 1).ownsRow w.heap.size 147 3 u4 L.length (L.flatMap encS) ∧ Fr (· = M) w (w3.drewN 1) ∧ IMap (w3.drewN 1) M kv) :=
          ⟨owns_grow (by simpa using hown) ((Grow.refl _).drewN 1), owns_grow hl3 ((Grow.refl _).drewN 1), hfr3.drewN 1, hm3.fr (S := fun _ => False) ((Fr.refl _ w3).drewN 1) (fun h => h)⟩
        have HC := Lib.hid hc
        have k26 : (w3.drewN 1).cell? ⟨b, 26, none⟩ = some (.map (some M)) := (blk_cell hb3 26).trans rfl
        have j0 : (w3.drewN 1).cell? ⟨wr.heap.size, 0, none⟩ = some (.int .i64 x.addr) := (blk_cell hJ3 0).trans rfl
        clear hown hgrow hat hfg hM3 hfr3 hJ3 hb3 hl3 hm hm3 hc
        go_upto_region 9 with fail
        refine wp_region_still_tail 6 (by kernel_rfl) (by kernel_rfl) ?_
        change wpStill _ _ (w3.drewN 1) (fun a' => wpList _ _ _ _ a' (w3.drewN 1)) _ _
        generalize w3.drewN 1 = w4 at H3 k26 j0 ⊢
        simp only [List.take_succ_cons, List.take_zero, List.drop_succ_cons, List.drop_zero]
        repeat still_step
        refine wpStill_nil ?_
        obtain ⟨ob, hdel, him⟩ := H3.out.2.2.2.delete (e := 3) Tryz.underlying124 Tryz.underlying3 x.addr 0
        have hfb : Fr (· = M) w4 (setBlock w4 M ob) := (Fr.refl _ _).block _ _ (.inr rfl)
        have H7 : Hid (SwI w M s (B ++ [x]) L v' u4 (setBlock w4 M ob)) := by
          refine ⟨owns_fr H3.out.1 hfb (fun j hj e => by have := (H3.out.1.lt j hj).1; omega), owns_fr H3.out.2.1 hfb (fun j hj e => by have := (H3.out.2.1.lt j hj).1; omega), H3.out.2.2.1.trans hfb, _, him, HC.out.del x.addr (fun y hy => ?_)⟩
          unfold bornK
          by_cases e : y = x.addr
          · rw [if_pos e, if_pos (by simp [e])]
          · rw [if_neg e, List.map_append]
            simp only [List.mem_append, List.map_cons, List.map_nil, List.mem_singleton, e, or_false]
        clear him hfb
        go_wp2_with fail
        go_roundw
        case rel => exact ⟨k + 1, by omega, by go_num, by rw [HN.out.1, HN.out.2]; exact H7.out⟩
        case measure => simp [intOf] <;> omega
      · have hgo : goneS s x = false := by unfold goneS; rw [hq]; rfl
        rw [hq] at HM
        rw [hgo] at h1
        simp only [hgo, Bool.not_false, Bool.false_eq_true, if_false, if_true] at h1 h2
        have HN := Lib.hid (And.intro h1 h2)
        clear h1 h2 hgo hq
        generalize bkP (goneS s) s.items k = B at HO HN hb1
        generalize bkP (fun x => !goneS s x) s.items k = L at HO HN hb2
        go_wp2_with (first | (go_at_call 141; refine HM.out.mono ?_; rintro e wB ⟨rfl, hgB⟩; have b0 := hgB.cell a0; have b1 := hgB.cell a1; have b2 := hgB.cell a2; have HGB := Lib.hid (HNA.out.2.1.trans hgB); have hsB := HGB.out.size; clear hgB) | (at_builtin; refine wpList_append_own_at _ rfl (.tmp 19) (.tmp 21) 128 rfl w.heap.size 147 i1 (.agg #[.int .i64 0, .int .i64 0, .int .i64 0]) 3 24 Tryz.underlying128 HJ.out.1 HJ.out.2.1 HJ.out.2.2.1 HJ.out.2.2.2 rfl (by decide) _ _ _ rfl ((owns_grow HO.out.left HGB.out).alloc _) ⟨wB.heap.size, 0, none⟩ 1 1 [.int .i64 x.addr, .int .i64 x.birth, .int .i64 x.at_] rfl rfl (cells_new wB [.int .i64 x.addr, .int .i64 x.birth, .int .i64 x.at_] 147) (by simp [Value.oneCell']) (by unfold maxLen; omega) (by omega) (by simp; omega) ?_))
        intro v' w3 hown hgrow _ hat
        have hfg := fr_grown hgrow
        have hM3 : ∀ j, u4.ownBlock = some j → M ≠ j := fun j e => by have := (HO.out.left.lt j e).1; omega
        have H7 : Hid (SwI w M s B (L ++ [x]) u3 v' w3) := by
          obtain ⟨kv, hm, hc⟩ := HO.out.born
          refine ⟨owns_fr (owns_grow HO.out.back (HGB.out.alloc _)) hfg (fun j hj e => own_ne HO.out.left HO.out.back (by decide) j hj e), ?_, ((fr_grow HO.out.fr HGB.out).alloc _).grown hgrow (fun j e => .inl (HO.out.left.lt j e).1), kv, (hm.fr (HGB.out.alloc _) (fun h => h)).fr hfg (fun e => hM3 M e rfl), hc⟩
          have he : [Value.int .i64 x.addr, .int .i64 x.birth, .int .i64 x.at_] = encS x := rfl
          rw [he] at hown
          simpa using hown
        clear hown hgrow hat hfg hM3
        go_wp2_with fail
        go_roundw
        case rel => exact ⟨k + 1, by omega, by go_num, by rw [HN.out.1, HN.out.2]; exact H7.out⟩
        case measure => simp [intOf] <;> omega
    · obtain rfl : k = s.items.length := by omega
      have hki : ¬ (s.items.length : Int) < (s.items.length : Int) := by omega
      have kb := HO.out.fr.at_ HV.out.blk (fun e => HV.out.neM e.symm)
      have k27' := (blk_cell kb 27).trans (rfl : _ = some (Value.slice A s.items.length cap))
      have f27' := blk_free kb 27
      obtain ⟨A4, m4, p4, hu4⟩ := own_sl HO.out.left
      subst hu4
      have HF : Hid (OpL (SP b) w F (sweepS s fun _ => true) (.returned u3) (wr.setCell ⟨b, 27, none⟩ (.slice A4 m4 p4))) := by
        obtain ⟨hbe, hie, hbo⟩ := sweepP (s := s) HV.out.kind
        have hfb : Fr (· = b) wr (wr.setCell ⟨b, 27, none⟩ (.slice A4 m4 p4)) := (Fr.refl _ _).setCell _ _ (.inr rfl)
        obtain ⟨kv, hm, hc⟩ := HO.out.born
        refine ⟨u3, fun k => k = b ∨ k = M ∨ (Value.slice A4 m4 p4).ownBlock = some k, rfl, ?_, ⟨M, .slice A4 m4 p4, HV.out.kind, HV.out.ok.sweep _, blk_set kb 27 _, ⟨kv, hm.fr hfb HV.out.neM, ?_⟩, ?_, fun k => Iff.rfl⟩, ?_, ?_⟩
        · rw [hbe, List.length_map, List.map_map]
          exact owns_fr HO.out.back hfb (fun j hj e => by have := (HO.out.back.lt j hj).1; omega)
        · rw [hbo]; exact hc
        · rw [hie]
          exact own_base_le (owns_fr HO.out.left hfb (fun j hj e => by have := (HO.out.left.lt j hj).1; omega)) (Nat.zero_le _)
        · refine ⟨Fr.then (HO.out.fr.mono fun i _ e => (HV.out.fp i).2 (.inr (.inl e))) hfb (fun i _ e => (HV.out.fp i).2 (.inl e)), fun k hk => ?_⟩
          rcases hk with e | e | e
          · exact .inl ((HV.out.fp k).2 (.inl e))
          · exact .inl ((HV.out.fp k).2 (.inr (.inl e)))
          · exact .inr (HO.out.left.lt k e).1
        · intro k hk hf
          have h1 := (HO.out.back.lt k hk).1
          rcases hf with e | e | e
          · omega
          · omega
          · exact own_ne HO.out.left HO.out.back (by decide) k hk e
      clear kb
      go_wp2_with fail
      exact HR.out _ _ HF.out
end Go.Proofs.YtcgcljmnnjalpaaGreat
set_option linter.unusedVariables false
set_option linter.unusedSimpArgs false
namespace Go.Proofs.YtcgcljmnnjalpaaGreat
open Go.RowKit Go.Kx
open Go.ChangeMaps (setBlock)
set_option maxRecDepth 100000 in
set_option maxHeartbeats 4000000 in
theorem spWaiting {b : Nat} {w : World} {F : FP} {s : RS} (h : SP b w F s) (hs : s.items.length ≤ 100000) : Calls Tryz.prog 76 #[.pointer (some ⟨b, 0, none⟩)] w (WaitP w s) := by
  refine cph fun R HR => ?_
  obtain ⟨M, v, hv⟩ := h
  have HH := Lib.hid (spHas hv 0)
  rw [okTh_zero hv.ok] at HH
  have k5 := (blk_cell hv.blk 27).trans (rfl : _ = some v)
  have HV := Lib.hid hv
  obtain ⟨i0, hi, hz0, hz1, hz2⟩ := info_parts info3x
  have HI := Lib.hid (And.intro hi (And.intro hz0 (And.intro hz1 hz2)))
  clear hi hz0 hz1 hz2
  have hsh : ∃ A cap, v = .slice A s.items.length cap ∧ (s.items ≠ [] → ∃ g, A = some ⟨g, 0, none⟩) := by
    rcases own_val hv.row with ⟨rfl, h0⟩ | ⟨g, cap, rfl, _⟩
    · have : s.items = [] := List.eq_nil_of_length_eq_zero h0
      exact ⟨none, 0, by rw [h0], fun h => absurd this h⟩
    · exact ⟨_, cap, rfl, fun _ => ⟨g, rfl⟩⟩
  obtain ⟨A, cap, rfl, hA⟩ := hsh
  have HA := Lib.hid hA
  clear hv hA
  go_enter Tryz.func76, Tryz.ntmps76
  go_wp2_with (go_at_call 109; refine HH.out.mono ?_; rintro e w' ⟨rfl, rfl⟩)
  go_loopw [3, 14] (fun u i wr => ∃ k : Nat, k ≤ s.items.length ∧ i = .int .i64 k ∧ Hid (wr.ownsRow w.heap.size 3 1 u k ((s.items.map fun x => Value.int .i64 x.addr).take k) ∧ Grow w wr)) (fun _ i _ => s.items.length - (intOf i).toNat)
  case atStart => exact ⟨0, by omega, rfl, World.ownsRow_nil _ _ _ _, Grow.refl _⟩
  case round =>
    obtain ⟨k, hk, rfl, HO⟩ := hrel
    by_cases hlt : k < s.items.length
    · obtain ⟨x, hx⟩ : ∃ x, s.items[k]? = some x := ⟨s.items[k], by simp [hlt]⟩
      obtain ⟨g, rfl⟩ := HA.out (by intro e; rw [e] at hlt; simp at hlt)
      have c0 := HO.out.2.cell ((own_at encS_len HV.out.row hx (o := 0) (by omega)).trans rfl)
      have c1 := HO.out.2.cell ((own_at encS_len HV.out.row hx (o := 1) (by omega)).trans rfl)
      have c2 := HO.out.2.cell ((own_at encS_len HV.out.row hx (o := 2) (by omega)).trans rfl)
      have hki : (k : Int) < (s.items.length : Int) := by omega
      have hgs := HO.out.2.size
      have HX := Lib.hid hx
      clear hx
      rw [Nat.add_zero] at c0
      have hnw := cell_one_new (wr.alloc (Obj.cells #[.int .i64 x.addr, .int .i64 x.birth, .int .i64 x.at_] 147)) (.int .i64 x.addr) 3
      rw [size_alloc] at hnw
      have HNW := Lib.hid hnw
      clear hnw
      go_wp2_with (at_builtin; refine wpList_append_own_at _ rfl (.tmp 18) (.tmp 21) 34 rfl w.heap.size 3 i0 (.int .i64 0) 1 8 Tryz.underlying34 HI.out.1 HI.out.2.1 HI.out.2.2.1 HI.out.2.2.2 rfl (by decide) _ _ _ rfl ((HO.out.1.alloc _).alloc _) ⟨wr.heap.size + 1, 0, none⟩ 1 1 [.int .i64 x.addr] rfl rfl HNW.out (by simp [Value.oneCell']) (by unfold maxLen; omega) (by omega) (by simp; omega) ?_)
      intro v' w3 hown hgrow _ hat
      have H7 : Hid (w3.ownsRow w.heap.size 3 1 v' (k + 1) ((s.items.map fun x => Value.int .i64 x.addr).take (k + 1)) ∧ Grow w w3) := ⟨by
        rw [List.take_add_one, List.getElem?_map, HX.out]; exact hown, ((HO.out.2.alloc _).alloc _).grown hgrow (fun j e => (HO.out.1.lt j e).1)⟩
      clear hown hgrow hat
      go_wp2_with fail
      go_roundw
      case rel => exact ⟨k + 1, by omega, by go_num, H7.out⟩
      case measure => simp [intOf] <;> omega
    · obtain rfl : k = s.items.length := by omega
      have hki : ¬ (s.items.length : Int) < (s.items.length : Int) := by omega
      go_wp2_with fail
      refine HR.out _ _ ⟨_, rfl, ?_, HO.out.2⟩
      have := HO.out.1
      rwa [List.take_of_length_le (by simp)] at this
theorem spRest {b : Nat} {w : World} {F : FP} {s : RS} (h : SP b w F s) (hs : s.items.length ≤ 100000) : Calls Tryz.prog 67 #[.pointer (some ⟨b, 0, none⟩)] w (OpL (SP b) w F (restS s)) := by
  refine cph fun R HR => ?_
  have HLo := Lib.hid (spSweep h (by omega))
  obtain ⟨M, v, hv⟩ := h
  have HH := Lib.hid (spHas hv 0)
  rw [okTh_zero hv.ok] at HH
  have e2 : restS s = sweepS s fun _ => true := by
    have hk := hv.kind
    unfold restS
    rw [if_neg (by omega), if_neg (by omega)]
  rw [e2] at HR
  clear hv e2
  go_enter Tryz.func67, Tryz.ntmps67
  go_wp2_with (first | (go_at_call 109; refine HH.out.mono ?_; rintro e w' ⟨rfl, rfl⟩) | (go_at_call 110; refine HLo.out.mono ?_; rintro e w9 ⟨v9, F', rfl, ho⟩; have H9 : Hid (OpL (SP b) w F (sweepS s fun _ => true) (.returned v9) w9) := ⟨v9, F', rfl, ho⟩; clear ho))
  exact HR.out _ _ H9.out
theorem items_out (s : RS) (t : Nat) : (outS0 s t).items.flatMap encS = s.items.flatMap encS ∧ (outS0 s t).items.length = s.items.length := by
  unfold outS0
  dsimp only
  rw [List.flatMap_map]
  exact ⟨rfl, by simp⟩
set_option maxHeartbeats 4000000 in
theorem spOut {b : Nat} {w : World} {F : FP} {s : RS} (h : SP b w F s) (hs : s.items.length ≤ 100000) (t : Int) : Calls Tryz.prog 63 #[.pointer (some ⟨b, 0, none⟩), .int .i64 t] w (OpP (SP b) w F (outS s t)) := by
  refine cph fun R HR => ?_
  have HQ := Lib.hid h
  obtain ⟨M, v, hv⟩ := h
  have HH := Lib.hid (spHas hv t)
  have HV := Lib.hid hv
  cases ht : okTh s t
  · rw [ht] at HH
    have e : outS s t = ⟨s, [], 1⟩ := by simp [outS, ht]
    rw [e] at HR
    clear hv e
    go_enter Tryz.func63, Tryz.ntmps63
    go_wp2_with (go_at_call 109; refine HH.out.mono ?_; rintro e w' ⟨rfl, rfl⟩)
    exact HR.out _ _ (OpP.none HQ.out (Step.refl _ _))
  · rw [ht] at HH
    obtain ⟨k, rfl, hk⟩ := okTh_nat ht
    have h4 : k < 4 := by have := hv.ok.n4; omega
    have hc := blk_cell hv.blk
    have hf := blk_free hv.blk
    have hcell : ∀ j, j < 6 → ∃ x, w.cell? ⟨b, 2 + 6 * k + j, none⟩ = some x := by
      intro j hj
      rw [hc]
      have : 2 + 6 * k + j < (spArr s M v).size := by simp [spArr]; omega
      exact ⟨_, Array.getElem?_eq_getElem this⟩
    have hbl := blk_lt hv.blk
    have e2 : outS s (k : Int) = ⟨(sweepS (outS0 s k) fun _ => true).st, (sweepS (outS0 s k) fun _ => true).back, 0⟩ := by simp [outS, ht, hv.kind, sweepS]
    rw [e2] at HR
    have HW : Hid (SP b (w6 w b (2 + 6 * k) (.bool false) (.int .i64 0) (.int .i64 0) (.int .i64 0) (.int .i64 0) (.int .i64 0)) F (outS0 s k) ∧ Fr F w (w6 w b (2 + 6 * k) (.bool false) (.int .i64 0) (.int .i64 0) (.int .i64 0) (.int .i64 0) (.int .i64 0))) := by
      have hit := items_out s k
      have h1 := sp_row6 (s' := { outS0 s k with items := s.items }) hv h4 (x0 := .bool false) (x1 := .int .i64 0) (x2 := .int .i64 0) (x3 := .int .i64 0) (x4 := .int .i64 0) (x5 := .int .i64 0)
        (by
          have ho := hv.ok.out0 hk
          exact ⟨ho.n1, ho.n4, ho.holds, ho.pos, ho.ins, hv.ok.forI, hv.ok.addr, ho.now0⟩) rfl rfl rfl rfl rfl (fun i hi => by simp [outS0, spL, spH, upd1, hi]) (by simp [outS0, upd1]) (by simp [outS0, spL, upd1]) (by simp [outS0, spH, upd1]) (by simp [outS0, upd1]) (by simp [outS0, upd1]) (by simp [outS0, upd1])
      refine ⟨⟨M, v, h1.1.kind, hv.ok.out0 hk, h1.1.blk, h1.1.cmap, ?_, h1.1.fp⟩, h1.2⟩
      rw [hit.1, hit.2]
      exact h1.1.row
    have HSW := Lib.hid (spSweep HW.out.1 (by rw [(items_out s k).2]; omega))
    have HST : Hid (Step F w F (w6 w b (2 + 6 * k) (.bool false) (.int .i64 0) (.int .i64 0) (.int .i64 0) (.int .i64 0) (.int .i64 0))) := ⟨HW.out.2, fun j hj => .inl hj⟩
    clear hv e2 ht HW
    have c0 := hcell 0 (by omega)
    have c1 := hcell 1 (by omega)
    have c2 := hcell 2 (by omega)
    have c3 := hcell 3 (by omega)
    have c4 := hcell 4 (by omega)
    have c5 := hcell 5 (by omega)
    have f0 := hf (2 + 6 * k + 0)
    have f1 := hf (2 + 6 * k + 1)
    have f2 := hf (2 + 6 * k + 2)
    have f3 := hf (2 + 6 * k + 3)
    have f4 := hf (2 + 6 * k + 4)
    have f5 := hf (2 + 6 * k + 5)
    clear hc hf hcell
    obtain ⟨x0, c0⟩ := c0
    obtain ⟨x1, c1⟩ := c1
    obtain ⟨x2, c2⟩ := c2
    obtain ⟨x3, c3⟩ := c3
    obtain ⟨x4, c4⟩ := c4
    obtain ⟨x5, c5⟩ := c5
    unfold w6 at HSW HST
    obtain rfl | rfl | rfl | rfl : k = 0 ∨ k = 1 ∨ k = 2 ∨ k = 3 := by omega
    all_goals
      simp only [Nat.reduceMul, Nat.reduceAdd] at HSW HST c0 c1 c2 c3 c4 c5 f0 f1 f2 f3 f4 f5
      go_enter Tryz.func63, Tryz.ntmps63
      go_wp2_with (first | (go_at_call 109; refine HH.out.mono ?_; rintro e w' ⟨rfl, rfl⟩) | (go_at_call 110; refine HSW.out.mono ?_; intro e w9 ho; obtain ⟨v9, rfl, hp9⟩ := ho.toP2 HST.out; have H9 := Lib.hid hp9; clear hp9 ho))
      exact HR.out _ _ H9.out
end Go.Proofs.YtcgcljmnnjalpaaGreat
set_option linter.unusedVariables false
set_option linter.unusedSimpArgs false
namespace Go.Proofs.YtcgcljmnnjalpaaGreat
open Go.RowKit Go.Kx
open Go.ChangeMaps (setBlock)
theorem spArr_hold {M : Nat} {v : Value} {s : RS} {t k : Nat} (ht : t < 4) (hk : k < 3) (a : Int) (hi : s.ins t = true) :
    ((spArr s M v).setIfInBounds (2 + 6 * t + 2) (.int .i64 s.now)).setIfInBounds (2 + 6 * t + 3 + k) (.int .i64 a) = spArr (holdS0 s t k a) M v := by
  obtain rfl | rfl | rfl | rfl : t = 0 ∨ t = 1 ∨ t = 2 ∨ t = 3 := by omega
  all_goals
    obtain rfl | rfl | rfl : k = 0 ∨ k = 1 ∨ k = 2 := by omega
    all_goals simp [spArr, holdS0, spL, spH, upd1, hi]
theorem sp_hold {b M : Nat} {v : Value} {w : World} {F : FP} {s : RS} (h : SPv b M v w F s) {t k : Nat} (ht : t < s.n) (hk : k < 3) {a : Int} (ha : 0 ≤ a) (hi : s.ins t = true) {w9 : World}
    (hw : w9 = ((w.setCell ⟨b, 2 + 6 * t + 2, none⟩ (.int .i64 s.now)).drew).setCell ⟨b, 2 + 6 * t + 3 + k, none⟩ (.int .i64 a)) : SPv b M v w9 F (holdS0 s t k a) ∧ Fr F w w9 := by
  subst hw
  have hfb : Fr (· = b) w (((w.setCell ⟨b, 2 + 6 * t + 2, none⟩ (.int .i64 s.now)).drew).setCell ⟨b, 2 + 6 * t + 3 + k, none⟩ (.int .i64 a)) := (((Fr.refl (· = b) _).setCell _ _ (.inr rfl)).drew).setCell _ _ (.inr rfl)
  have hb1 := blk_set h.blk (2 + 6 * t + 2) (.int .i64 s.now)
  have hb2 := blk_set (w := (w.setCell ⟨b, 2 + 6 * t + 2, none⟩ (.int .i64 s.now)).drew) hb1 (2 + 6 * t + 3 + k) (.int .i64 a)
  rw [spArr_hold (by have := h.ok.n4; omega) hk a hi] at hb2
  obtain ⟨kv, hm, hc⟩ := h.cmap
  exact ⟨⟨h.kind, h.ok.hold0 ht hk ha, hb2, ⟨kv, hm.fr hfb h.neM, hc⟩, owns_fr h.row hfb (fun j hj e => (h.nev j hj).1 e), h.fp⟩, hfb.mono fun i _ e => (h.fp i).2 (.inl e)⟩
set_option maxHeartbeats 4000000 in
theorem spHold {b : Nat} {w : World} {F : FP} {s : RS} (h : SP b w F s) (t k a : Int) : Calls Tryz.prog 64 #[.pointer (some ⟨b, 0, none⟩), .int .i64 t, .int .i64 k, .int .i64 a] w (OpP (SP b) w F (holdS s t k a)) := by
  refine cph fun R HR => ?_
  have HQ := Lib.hid h
  obtain ⟨M, v, hv⟩ := h
  have HH := Lib.hid (spHas hv t)
  have HV := Lib.hid hv
  cases ht : okTh s t
  · rw [ht] at HH
    have e : holdS s t k a = ⟨s, [], 1⟩ := by simp [holdS, ht]
    rw [e] at HR
    clear hv e
    go_enter Tryz.func64, Tryz.ntmps64
    go_wp2_with (go_at_call 109; refine HH.out.mono ?_; rintro e w' ⟨rfl, rfl⟩)
    exact HR.out _ _ (OpP.none HQ.out (Step.refl _ _))
  rw [ht] at HH
  rcases holdOk_cases k a with ⟨h1, e⟩ | ⟨h1, h2, e⟩ | ⟨h1, h2, h3, e⟩ | ⟨h1, h2, h3, e⟩
  iterate 3
    have e2 : holdS s t k a = ⟨s, [], 1⟩ := by simp [holdS, e]
    rw [e2] at HR
    clear hv e e2 ht
    go_enter Tryz.func64, Tryz.ntmps64
    go_wp2_with (go_at_call 109; refine HH.out.mono ?_; rintro e w' ⟨rfl, rfl⟩)
    exact HR.out _ _ (OpP.none HQ.out (Step.refl _ _))
  obtain ⟨t', rfl, ht'⟩ := okTh_nat ht
  obtain ⟨k', rfl⟩ := Int.eq_ofNat_of_zero_le h1
  have h4 : t' < 4 := by have := hv.ok.n4; omega
  have hc := blk_cell hv.blk
  have hf := blk_free hv.blk
  have e0 : w.cell? ⟨b, 0, none⟩ = some (.int .i64 s.now) := (hc 0).trans rfl
  have eI : w.cell? ⟨b, 2 + 6 * t', none⟩ = some (.bool (s.ins t')) := by
    rw [hc]
    obtain rfl | rfl | rfl | rfl : t' = 0 ∨ t' = 1 ∨ t' = 2 ∨ t' = 3 := by omega
    all_goals rfl
  have eH : ∃ x, w.cell? ⟨b, 2 + 6 * t' + 2, none⟩ = some x := by
    rw [hc]
    have : 2 + 6 * t' + 2 < (spArr s M v).size := by simp [spArr]; omega
    exact ⟨_, Array.getElem?_eq_getElem this⟩
  have fH := hf (2 + 6 * t' + 2)
  cases hin : s.ins t'
  · rw [hin] at eI
    have e2 : holdS s (t' : Int) (k' : Int) a = ⟨s, [], 0⟩ := by simp [holdS, ht, e, hv.kind, hin]
    rw [e2] at HR
    clear hv e e2 ht hc hf fH eH
    obtain rfl | rfl | rfl | rfl : t' = 0 ∨ t' = 1 ∨ t' = 2 ∨ t' = 3 := by omega
    all_goals
      simp only [Nat.reduceMul, Nat.reduceAdd] at eI
      go_enter Tryz.func64, Tryz.ntmps64
      go_wp2_with (go_at_call 109; refine HH.out.mono ?_; rintro e w' ⟨rfl, rfl⟩)
      exact HR.out _ _ (OpP.none HQ.out (Step.refl _ _))
  · rw [hin] at eI
    have e2 : holdS s (t' : Int) (k' : Int) a = ⟨holdS0 s t' k' a, [], 0⟩ := by simp [holdS, ht, e, hv.kind, hin]
    rw [e2] at HR
    obtain ⟨xH, eH⟩ := eH
    have hki : (k' : Int) < 3 := by omega
    have hb1 := blk_set hv.blk (2 + 6 * t' + 2) (.int .i64 s.now)
    have eK : ∃ x, ((w.setCell ⟨b, 2 + 6 * t' + 2, none⟩ (.int .i64 s.now)).drew).cell? ⟨b, 2 + 6 * t' + 3 + k', none⟩ = some x := by
      have := blk_cell (w := (w.setCell ⟨b, 2 + 6 * t' + 2, none⟩ (.int .i64 s.now)).drew) hb1 (2 + 6 * t' + 3 + k')
      rw [this]
      have : 2 + 6 * t' + 3 + k' < ((spArr s M v).setIfInBounds (2 + 6 * t' + 2) (.int .i64 s.now)).size := by simp [spArr]; omega
      exact ⟨_, Array.getElem?_eq_getElem this⟩
    have fK : ((w.setCell ⟨b, 2 + 6 * t' + 2, none⟩ (.int .i64 s.now)).drew).frozen? ⟨b, 2 + 6 * t' + 3 + k', none⟩ = false := blk_free (w := (w.setCell ⟨b, 2 + 6 * t' + 2, none⟩ (.int .i64 s.now)).drew) hb1 _
    obtain ⟨xK, eK⟩ := eK
    have HF : Hid (OpP (SP b) w F ⟨holdS0 s t' k' a, [], 0⟩ (.returned (.tuple #[.slice none 0 0, .int .i64 0])) (((w.setCell ⟨b, 2 + 6 * t' + 2, none⟩ (.int .i64 s.now)).drew).setCell ⟨b, 2 + 6 * t' + 3 + k', none⟩ (.int .i64 a))) := by
      obtain ⟨h5, h6⟩ := sp_hold hv ht' (by omega : k' < 3) h3 hin rfl
      exact OpP.none ⟨M, v, h5⟩ ⟨h6, fun j hj => .inl hj⟩
    clear hv e e2 ht hc hf hb1
    obtain rfl | rfl | rfl | rfl : t' = 0 ∨ t' = 1 ∨ t' = 2 ∨ t' = 3 := by omega
    all_goals
      simp only [Nat.reduceMul, Nat.reduceAdd] at eI eH fH eK fK HF
      go_enter Tryz.func64, Tryz.ntmps64
      go_wp2_with (go_at_call 109; refine HH.out.mono ?_; rintro e w' ⟨rfl, rfl⟩)
      go_region_law fail
    all_goals
      go_wp2_with fail
      exact HR.out _ _ HF.out
set_option maxRecDepth 100000 in
set_option maxHeartbeats 4000000 in
theorem spBorn {b : Nat} {w : World} {F : FP} {s : RS} (h : SP b w F s) (hs : s.now ≤ 1000000) (a : Int) : Calls Tryz.prog 65 #[.pointer (some ⟨b, 0, none⟩), .int .i64 a] w (OpE (SP b) w F (bornS s a)) := by
  refine cph fun R HR => ?_
  have HQ := Lib.hid h
  obtain ⟨M, v, hv⟩ := h
  have HH := Lib.hid (spHas hv 0)
  rw [okTh_zero hv.ok] at HH
  by_cases ha : 0 < a
  · have e : bornS s a = ⟨{ s with now := s.now + 1, born := fun b => if b = a then s.now + 1 else s.born b }, [], 0⟩ := by simp [bornS, ha, hv.kind]
    rw [e] at HR
    have ha2 : ¬ a ≤ 0 := by omega
    have h0 := hv.ok.now0
    have hc := blk_cell hv.blk
    have e0 : w.cell? ⟨b, 0, none⟩ = some (.int .i64 s.now) := (hc 0).trans rfl
    have f0 := blk_free hv.blk 0
    have hfb : Fr (· = b) w (w.setCell ⟨b, 0, none⟩ (.int .i64 (s.now + 1))) := (Fr.refl (· = b) _).setCell _ _ (.inr rfl)
    have hb1 : (w.setCell ⟨b, 0, none⟩ (.int .i64 (s.now + 1))).heap[b]? = some (.cells (spArr { s with now := s.now + 1 } M v) 130 (0, 0)) := blk_set hv.blk 0 _
    obtain ⟨kv, hm, hcm⟩ := hv.cmap
    have hm1 := hm.fr hfb hv.neM
    have HV := Lib.hid hv
    have e1 : ((w.setCell ⟨b, 0, none⟩ (.int .i64 (s.now + 1))).drewN 1).cell? ⟨b, 0, none⟩ = some (.int .i64 (s.now + 1)) := (blk_cell hb1 0).trans rfl
    have e26 : ((w.setCell ⟨b, 0, none⟩ (.int .i64 (s.now + 1))).drewN 1).cell? ⟨b, 26, none⟩ = some (.map (some M)) := (blk_cell hb1 26).trans rfl
    have H1 : Hid (IMap ((w.setCell ⟨b, 0, none⟩ (.int .i64 (s.now + 1))).drewN 1) M kv ∧ Fr (· = b) w ((w.setCell ⟨b, 0, none⟩ (.int .i64 (s.now + 1))).drewN 1) ∧ ((w.setCell ⟨b, 0, none⟩ (.int .i64 (s.now + 1))).drewN 1).heap[b]? = some (.cells (spArr { s with now := s.now + 1 } M v) 130 (0, 0))) := ⟨hm1.fr (S := fun _ => False) ((Fr.refl _ _).drewN 1) (fun h => h), hfb.drewN 1, hb1⟩
    have HC := Lib.hid hcm
    clear hv e hc hb1 hfb hm hm1 hcm
    go_enter Tryz.func65, Tryz.ntmps65
    go_upto_region 4 with (go_at_call 109; refine HH.out.mono ?_; rintro e w' ⟨rfl, rfl⟩)
    refine wp_region_still_tail 9 (by kernel_rfl) (by kernel_rfl) ?_
    change wpStill _ _ ((w.setCell ⟨b, 0, none⟩ (.int .i64 (s.now + 1))).drewN 1) (fun a' => wpList _ _ _ _ a' ((w.setCell ⟨b, 0, none⟩ (.int .i64 (s.now + 1))).drewN 1)) _ _
    generalize (w.setCell ⟨b, 0, none⟩ (.int .i64 (s.now + 1))).drewN 1 = w4 at H1 e1 e26 ⊢
    simp only [List.take_succ_cons, List.take_zero, List.drop_succ_cons, List.drop_zero]
    repeat still_step
    refine wpStill_nil ?_
    refine wpList_mput rfl _ _ _ rfl H1.out.1 Tryz.underlying124 Tryz.underlying3 a (.int .i64 (s.now + 1)) rfl rfl rfl ?_
    intro ob him
    have hfm : Fr (· = M) w4 (setBlock w4 M ob) := (Fr.refl _ _).block _ _ (.inr rfl)
    have HF : Hid (OpE (SP b) w F ⟨{ s with now := s.now + 1, born := fun b => if b = a then s.now + 1 else s.born b }, [], 0⟩ (.returned (.int .i64 0)) (setBlock w4 M ob)) := by
      refine ⟨F, rfl, ⟨M, v, HV.out.kind, HV.out.ok.sub rfl rfl rfl (fun x hx => hx) (show s.now ≤ s.now + 1 by omega), hfm.at_ H1.out.2.2 (fun e => HV.out.neM e.symm), ⟨_, him, HC.out.put a (s.now + 1) (fun y hy => rfl)⟩, ?_, HV.out.fp⟩, ?_, fun k hk => .inl hk⟩
      · exact owns_fr (owns_fr HV.out.row H1.out.2.1 (fun j hj e => (HV.out.nev j hj).1 e)) hfm (fun j hj e => (HV.out.nev j hj).2 e)
      · exact (H1.out.2.1.mono fun i _ e => (HV.out.fp i).2 (.inl e)).trans (hfm.mono fun i _ e => (HV.out.fp i).2 (.inr (.inl e)))
    clear him hfm
    go_wp2_with fail
    exact HR.out _ _ HF.out
  · have e : bornS s a = ⟨s, [], 1⟩ := by simp [bornS, ha]
    rw [e] at HR
    have ha2 : a ≤ 0 := by omega
    clear hv e
    go_enter Tryz.func65, Tryz.ntmps65
    go_wp2_with (go_at_call 109; refine HH.out.mono ?_; rintro e w' ⟨rfl, rfl⟩)
    exact HR.out _ _ ⟨F, rfl, HQ.out, Step.refl _ _⟩
set_option maxHeartbeats 1000000 in
theorem spNew (w : World) (t : Int) : Calls Tryz.prog 50 #[.int .i64 t] w (NewP SP 3 w t) := by
  refine cph fun R HR => ?_
  by_cases h1 : t < 1
  · go_enter Tryz.func50, Tryz.ntmps50
    go_wp2_with fail
    exact HR.out _ _ (NewP.no (by omega) (Grow.refl _))
  by_cases h4 : 4 < t
  · go_enter Tryz.func50, Tryz.ntmps50
    go_wp2_with fail
    exact HR.out _ _ (NewP.no (by omega) (Grow.refl _))
  obtain ⟨n, rfl⟩ := Int.eq_ofNat_of_zero_le (a := t) (by omega)
  have hmm := @run_makeMap Tryz.prog
  obtain ⟨w1, hw1⟩ : ∃ w1, w.alloc (.map #[] 0) = w1 := ⟨_, rfl⟩
  have hs1 : w1.heap.size = w.heap.size + 1 := by rw [← hw1]; exact size_alloc _ _
  have hmm2 := hmm 124 w
  rw [hw1] at hmm2
  have HQ : Hid (SP w1.heap.size (w1.alloc (.cells (spArr (newS 3 n) w.heap.size (.slice none 0 0)) 130)) (fun k => k = w1.heap.size ∨ k = w.heap.size ∨ (Value.slice none 0 0).ownBlock = some k) (newS 3 n)) := by
    refine ⟨w.heap.size, .slice none 0 0, rfl, ok_new 3 (by omega) (by omega), blk_new w1 _, ⟨[], ?_, ?_⟩, World.ownsRow_nil _ _ _ _, fun k => Iff.rfl⟩
    · rw [← hw1]; exact (IMap.new w).alloc _
    · intro x hx; rfl
  unfold spArr at HQ
  have HG : Hid (Grow w w1) := by rw [← hw1]; exact (Grow.refl _).alloc _
  rw [show (newS 3 n).now = 0 from rfl, show (newS 3 n).n = n from rfl] at HQ
  simp only [show ∀ i, (newS 3 n).ins i = false from fun _ => rfl, show ∀ i, spL (newS 3 n) i = 0 from fun _ => rfl, show ∀ i, spH (newS 3 n) i = 0 from fun _ => rfl, show ∀ i j, (newS 3 n).holds i j = 0 from fun _ _ => rfl] at HQ
  have HS := Lib.hid hs1
  rw [hs1] at HQ
  go_enter Tryz.func50, Tryz.ntmps50
  go_wp2_with fail
  exact HR.out _ _ (NewP.yes ⟨by omega, by omega⟩ HQ.out (HG.out.alloc _) (fun j hj => by
    rcases hj with e | e | e
    · omega
    · omega
    · simp [Value.ownBlock] at e))
end Go.Proofs.YtcgcljmnnjalpaaGreat
set_option linter.unusedVariables false
set_option linter.unusedSimpArgs false
namespace Go.Proofs.YtcgcljmnnjalpaaGreat
open Go.RowKit Go.Kx
open Go.ChangeMaps (setBlock)
/-- What Waiting leaves, met by Contains. -/
theorem WaitP.has {w w' : World} {s : RS} {e : Ending} (h : WaitP w s e w') (hs : s.items.length ≤ 100000) (a : Int) : ∃ A n c, e = .returned (.slice A n c) ∧ Grow w w' ∧ Calls Tryz.prog 106 #[.slice A n c, .int .i64 a] w' fun e w'' => e = .returned (.bool (decide (a ∈ addrs s))) ∧ w' = w'' := by
  obtain ⟨v, rfl, ho, hg⟩ := h
  rw [wait_ints, ← addrs_len] at ho
  obtain ⟨A, c, rfl, hints, _, _⟩ := ints_of_own (l := addrs s) ho
  exact ⟨A, (addrs s).length, c, rfl, hg, containsI_any (cap := c) a hints (by rw [addrs_len]; omega)⟩
set_option maxRecDepth 100000 in
set_option maxHeartbeats 4000000 in
theorem spRetire {b : Nat} {w : World} {F : FP} {s : RS} (h : SP b w F s) (hs : s.items.length ≤ 100000) (t a : Int) : Calls Tryz.prog 66 #[.pointer (some ⟨b, 0, none⟩), .int .i64 t, .int .i64 a] w (OpP (SP b) w F (retS s t a)) := by
  refine cph fun R HR => ?_
  have HQ := Lib.hid h
  have HWt := Lib.hid (spWaiting h hs)
  obtain ⟨M, v, hv⟩ := h
  have HT := Lib.hid (spHas hv t)
  have HV := Lib.hid hv
  cases ht : okTh s t
  · rw [ht] at HT
    have e : retS s t a = ⟨s, [], 1⟩ := by simp [retS, ht]
    rw [e] at HR
    clear hv e
    go_enter Tryz.func66, Tryz.ntmps66
    go_wp2_with (go_at_call 109; refine HT.out.mono ?_; rintro e w' ⟨rfl, rfl⟩)
    exact HR.out _ _ (OpP.none HQ.out (Step.refl _ _))
  rw [ht] at HT
  by_cases ha : a ≤ 0
  · have e : retS s t a = ⟨s, [], 1⟩ := by simp [retS]; omega
    rw [e] at HR
    clear hv e ht
    go_enter Tryz.func66, Tryz.ntmps66
    go_wp2_with (go_at_call 109; refine HT.out.mono ?_; rintro e w' ⟨rfl, rfl⟩)
    exact HR.out _ _ (OpP.none HQ.out (Step.refl _ _))
  have ha0 : 0 < a := by omega
  have hbl := blk_lt hv.blk
  cases hw : waitsB s a
  · have e : retS s t a = ⟨(sweepS (retS0 s t a) fun _ => true).st, (sweepS (retS0 s t a) fun _ => true).back, 0⟩ := by simp [retS, ht, ha0, hw, hv.kind, sweepS]
    rw [e] at HR
    rw [waits_mem] at hw
    have hw' : decide (a ∈ addrs s) = false := hw
    have HWM := Lib.hid hw'
    have hokr := Lib.hid (hv.ok.ret0 t a ha0)
    obtain ⟨i1, hi, hz0, hz1, hz2⟩ := info_parts infoS
    have HJ := Lib.hid (And.intro hi (And.intro hz0 (And.intro hz1 hz2)))
    obtain ⟨A, m, cap, hvs⟩ := own_sl hv.row
    subst hvs
    clear hi hz0 hz1 hz2 hv e ht hw hw'
    go_enter Tryz.func66, Tryz.ntmps66
    go_upto_region 5 with (first | (go_at_call 109; refine HT.out.mono ?_; rintro e w' ⟨rfl, rfl⟩) | (go_at_call 76; refine HWt.out.mono ?_; intro e w1 ho; obtain ⟨A1, n1, c1, rfl, hg, hcon⟩ := ho.has hs a; rw [HWM.out] at hcon; have HC := Lib.hid hcon; have HG1 := Lib.hid hg; clear ho hg hcon) | (go_at_call 106; refine HC.out.mono ?_; rintro e w' ⟨rfl, rfl⟩))
    have hb1 := HG1.out.at_ HV.out.blk
    have hrow := owns_grow HV.out.row HG1.out
    have e0 := (blk_cell hb1 0).trans (rfl : _ = some (Value.int .i64 s.now))
    have e26 := (blk_cell hb1 26).trans (rfl : _ = some (Value.map (some M)))
    have e27 := (blk_cell hb1 27).trans (rfl : _ = some (Value.slice A m cap))
    have f27 := blk_free hb1 27
    have hbl1 := blk_lt hb1
    obtain ⟨kv, hm, hcm⟩ := HV.out.cmap
    have hmd : IMap w1.drew M kv := (hm.fr HG1.out (fun h => h)).fr (S := fun _ => False) (Fr.refl _ _).drew (fun h => h)
    have hlook := hmd.lookup Tryz.underlying124 Tryz.underlying3 (zero3x w1.drew) a false
    simp only [Bool.false_eq_true, if_false] at hlook
    rw [hcm a ha0] at hlook
    have hgs := HG1.out.size
    have H2 := Lib.hid (And.intro hb1 (And.intro hrow (And.intro hmd hcm)))
    have hMl : M < w.heap.size := hm.lt
    clear hb1 hrow hm hmd hcm
    have henc : Hid ([Value.int .i64 a, .int .i64 (s.born a), .int .i64 s.now] = encS (mkItm s t a)) := rfl
    generalize s.born a = ba at henc hlook
    go_region_law ((refine step_append_own rfl (.tmp 24) (.tmp 37) 128 rfl 0 147 i1 (.agg #[.int .i64 0, .int .i64 0, .int .i64 0]) 3 24 Tryz.underlying128 HJ.out.1 HJ.out.2.1 HJ.out.2.2.1 HJ.out.2.2.2 rfl (by decide) _ s.items.length (s.items.flatMap encS) rfl (H2.out.2.1.alloc _) ⟨w1.heap.size, 0, none⟩ 1 1 [.int .i64 a, .int .i64 ba, .int .i64 s.now] rfl rfl (cells_new w1.drew [.int .i64 a, .int .i64 ba, .int .i64 s.now] 147) (by simp [Value.oneCell']) (by unfold maxLen; omega) (by omega) (by simp) ?_); intro v2 w3 hown hgrow _ hat; obtain ⟨g, cap3, rfl⟩ := own_some hown; have hb3 : w3.heap[b]? = some (.cells (spArr s M (.slice A m cap)) 130 (0, 0)) := (fr_grown hgrow).at_ (blk_alloc' _ H2.out.1) (fun e => (HV.out.nev b e).1 rfl); have e27' := (blk_cell hb3 27).trans (rfl : _ = some (Value.slice A m cap)); have f27' := blk_free hb3 27; have H8 := Lib.hid (And.intro hb3 (And.intro hown (And.intro hgrow hat))); clear hb3 hown hgrow hat)
    all_goals
      have hnew : g = w1.heap.size + 1 ∨ (Value.slice A m cap).ownBlock = some g := by
        rcases H8.out.2.2.2 with e | e
        · exact .inr (e.symm.trans rfl)
        · left; simpa [Value.ownBlock] using e
      have hgb : g ≠ b ∧ g ≠ M := by
        rcases hnew with e | e
        · exact ⟨by omega, by omega⟩
        · exact HV.out.nev _ e
      have hb4 := blk_set H8.out.1 27 (.slice (some ⟨g, 0, none⟩) (s.items.length + 1) cap3)
      have hgr : Fr (fun k => (Value.slice A m cap).ownBlock = some k) w w3 := (((HG1.out.mono (fun _ _ h => h.elim)).drew).alloc _).grown H8.out.2.2.1 (fun k e => .inr e)
      have hfb : Fr (· = b) w3 (w3.setCell ⟨b, 27, none⟩ (.slice (some ⟨g, 0, none⟩) (s.items.length + 1) cap3)) := (Fr.refl (· = b) _).setCell _ _ (.inr rfl)
      have hq : SP b (w3.setCell ⟨b, 27, none⟩ (.slice (some ⟨g, 0, none⟩) (s.items.length + 1) cap3)) (fun k => k = b ∨ k = M ∨ (Value.slice (some ⟨g, 0, none⟩) (s.items.length + 1) cap3).ownBlock = some k) (retS0 s t a) := by
        refine ⟨M, _, HV.out.kind, hokr.out, hb4, ?_, ?_, fun k => Iff.rfl⟩
        · obtain ⟨kv, hm, hc⟩ := HV.out.cmap
          exact ⟨kv, (hm.fr hgr (fun e => (HV.out.nev M e).2 rfl)).fr hfb HV.out.neM, hc⟩
        · have h1 := owns_fr H8.out.2.1 hfb (fun j hj e => by
            have : g = j := by simpa [Value.ownBlock] using hj
            exact hgb.1 (this.trans e))
          rw [henc.out] at h1
          simpa [retS0] using h1
      have HSt : Hid (Step F w (fun k => k = b ∨ k = M ∨ (Value.slice (some ⟨g, 0, none⟩) (s.items.length + 1) cap3).ownBlock = some k) (w3.setCell ⟨b, 27, none⟩ (.slice (some ⟨g, 0, none⟩) (s.items.length + 1) cap3))) :=
        ⟨(hgr.mono (fun i _ e => (HV.out.fp i).2 (.inr (.inr e)))).trans (hfb.mono (fun i _ e => (HV.out.fp i).2 (.inl e))), fun k hk => by
          rcases hk with e | e | e
          · exact .inl ((HV.out.fp k).2 (.inl e))
          · exact .inl ((HV.out.fp k).2 (.inr (.inl e)))
          · have hgk : g = k := by simpa [Value.ownBlock] using e
            subst hgk
            rcases hnew with e | e
            · exact .inr (by omega)
            · exact .inl ((HV.out.fp _).2 (.inr (.inr e)))⟩
      have HLo := Lib.hid (spSweep hq (by simp [retS0]; omega))
      clear hq hgr hfb hb4
      go_wp2_with (go_at_call 110; refine HLo.out.mono ?_; intro e w9 ho; obtain ⟨v9, rfl, hp9⟩ := ho.toP2 HSt.out; have H9 := Lib.hid hp9; clear hp9 ho)
      exact HR.out _ _ H9.out
  · have e : retS s t a = ⟨s, [], 6⟩ := by simp [retS, ht, ha0, hw]
    rw [e] at HR
    rw [waits_mem] at hw
    have hw' : decide (a ∈ addrs s) = true := hw
    have HWM := Lib.hid hw'
    clear hv e ht hw hw'
    go_enter Tryz.func66, Tryz.ntmps66
    go_wp2_with (first | (go_at_call 109; refine HT.out.mono ?_; rintro e w' ⟨rfl, rfl⟩) | (go_at_call 76; refine HWt.out.mono ?_; intro e w1 ho; obtain ⟨A1, n1, c1, rfl, hg, hcon⟩ := ho.has hs a; rw [HWM.out] at hcon; have HC := Lib.hid hcon; have HG1 := Lib.hid hg; clear ho hg hcon) | (go_at_call 106; refine HC.out.mono ?_; rintro e w' ⟨rfl, rfl⟩))
    exact HR.out _ _ (OpP.none ((SP.local b).fr HQ.out (G := fun _ => False) HG1.out (fun _ _ h => h)) ⟨HG1.out.mono fun _ _ h => h.elim, fun j hj => .inl hj⟩)
end Go.Proofs.YtcgcljmnnjalpaaGreat
