/- The counting manager: its form in memory; has, set. The counting manager: has, set. The counting manager, in every state: loose and all that is asked of it. The counting manager, in every state: In, Out, Hold, Born, Retire, Rest, Waiting, New. -/
import Derived.Test.YtcgcljmnnjalpaaGreatGxD
set_option linter.unusedVariables false
set_option linter.unusedSimpArgs false
namespace Go.Proofs.YtcgcljmnnjalpaaGreat
open Go.RowKit Go.Kx
open Go.ChangeMaps (setBlock)
theorem mget_put (kv : List (Int × Value)) (x k : Int) (v : Value) : mget (mput kv x v) k = if k = x then some v else mget kv k := by
  have hmap : ∀ l : List (Int × Value), mget (l.map fun p => if p.1 == x then (p.1, v) else p) k = if k = x then (mget l k).map fun _ => v else mget l k := by
    intro l
    induction l with
    | nil => simp [mget]
    | cons p l ih =>
      unfold mget at ih ⊢
      simp only [List.map_cons, List.find?_cons]
      by_cases hp : p.1 = x
      · have e1 : (p.1 == x) = true := by simp [hp]
        simp only [e1, if_true]
        by_cases hk : k = x
        · subst hk
          have : (p.1 == k) = true := by simp [hp]
          simp [this]
        · have : (p.1 == k) = false := by simp [hp]; exact fun e => hk e.symm
          simp only [this]
          rw [if_neg hk] at ih ⊢
          exact ih
      · have e1 : (p.1 == x) = false := by simp [hp]
        simp only [e1, Bool.false_eq_true, if_false]
        by_cases hk : (p.1 == k) = true
        · have : k ≠ x := fun e => hp (by simp at hk; omega)
          simp [hk, this]
        · have hk2 : (p.1 == k) = false := by simpa using hk
          simp only [hk2]
          exact ih
  unfold mput
  by_cases hs : (mget kv x).isSome
  · rw [if_pos hs, hmap]
    by_cases hk : k = x
    · subst hk
      rw [if_pos rfl, if_pos rfl]
      obtain ⟨u, hu⟩ := Option.isSome_iff_exists.1 hs
      rw [hu]; rfl
    · rw [if_neg hk, if_neg hk]
  · rw [if_neg hs]
    have hn : mget kv x = none := by simpa using hs
    unfold mget at hn ⊢
    rw [List.find?_append]
    by_cases hk : k = x
    · subst hk
      rw [if_pos rfl]
      have : kv.find? (fun p => p.1 == k) = none := by simpa using hn
      rw [this]
      simp
    · rw [if_neg hk]
      have : ([(x, v)] : List (Int × Value)).find? (fun p => p.1 == k) = none := by simp; exact fun e => hk e.symm
      rw [this, Option.or_none]
theorem mget_del (kv : List (Int × Value)) (x k : Int) : mget (mdel kv x) k = if k = x then none else mget kv k := by
  unfold mdel mget
  induction kv with
  | nil => simp
  | cons p l ih =>
    by_cases hp : p.1 = x
    · have e1 : (!(p.1 == x)) = false := by simp [hp]
      rw [List.filter_cons, e1]
      simp only [Bool.false_eq_true, if_false]
      rw [ih]
      by_cases hk : k = x
      · simp [hk]
      · rw [if_neg hk, if_neg hk, List.find?_cons]
        have : (p.1 == k) = false := by simp [hp]; exact fun e => hk e.symm
        simp [this]
    · have e1 : (!(p.1 == x)) = true := by simp [hp]
      rw [List.filter_cons, e1]
      simp only [if_true, List.find?_cons]
      by_cases hk : (p.1 == k) = true
      · have : k ≠ x := fun e => hp (by simp at hk; omega)
        simp [hk, this]
      · have hk2 : (p.1 == k) = false := by simpa using hk
        simp only [hk2]
        exact ih
/-- How many holds have an address. -/
def cnH (h : Nat → Nat → Int) (a : Int) : Nat := (List.range 12).countP fun i => h (i / 3) (i % 3) == a
theorem count_one {f : Nat → Int} {i0 : Nat} {v a : Int} : ∀ N, i0 < N → (List.range N).countP (fun i => (if i = i0 then v else f i) == a) + (if f i0 = a then 1 else 0) = (List.range N).countP (fun i => f i == a) + (if v = a then 1 else 0)
  | 0, h => by omega
  | N + 1, h => by
    rw [List.range_succ, List.countP_append, List.countP_append, List.countP_singleton, List.countP_singleton]
    by_cases e : i0 = N
    · cases e
      have hs : (List.range i0).countP (fun i => (if i = i0 then v else f i) == a) = (List.range i0).countP (fun i => f i == a) := by
        apply List.countP_congr
        intro i hi
        rw [if_neg (by have := List.mem_range.1 hi; omega)]
      rw [hs]
      simp
      omega
    · have ih := count_one (f := f) (i0 := i0) (v := v) (a := a) N (by omega)
      rw [if_neg (fun h => e h.symm : ¬ N = i0)]
      omega
theorem cnH_upd {h : Nat → Nat → Int} {t k : Nat} (ht : t < 4) (hk : k < 3) (v a : Int) : cnH (upd1 h t (upd1 (h t) k v)) a + (if h t k = a then 1 else 0) = cnH h a + (if v = a then 1 else 0) := by
  have e : cnH (upd1 h t (upd1 (h t) k v)) a = (List.range 12).countP (fun i => (if i = t * 3 + k then v else h (i / 3) (i % 3)) == a) := by
    unfold cnH
    apply List.countP_congr
    intro i hi
    have hi' := List.mem_range.1 hi
    have : upd1 h t (upd1 (h t) k v) (i / 3) (i % 3) = if i = t * 3 + k then v else h (i / 3) (i % 3) := by
      unfold upd1
      by_cases e1 : i / 3 = t
      · rw [if_pos e1]
        by_cases e2 : i % 3 = k
        · rw [if_pos e2, if_pos (by omega)]
        · rw [if_neg e2, if_neg (by omega), e1]
      · rw [if_neg e1, if_neg (by omega)]
    rw [this]
  have := count_one (f := fun i => h (i / 3) (i % 3)) (i0 := t * 3 + k) (v := v) (a := a) 12 (by omega)
  rw [show (t * 3 + k) / 3 = t by omega, show (t * 3 + k) % 3 = k by omega] at this
  rw [e]
  exact this
theorem cnH_le (h : Nat → Nat → Int) (a : Int) : cnH h a ≤ 12 := by
  have := List.countP_le_length (p := fun i => h (i / 3) (i % 3) == a) (l := List.range 12)
  unfold cnH
  simpa using this
theorem held_cn (s : RS) (a : Int) : heldB s a = decide (cnH s.holds a ≠ 0) := by
  rw [Bool.eq_iff_iff, decide_eq_true_iff]
  unfold heldB cnH
  rw [List.any_eq_true]
  constructor
  · rintro ⟨t, ht, h⟩
    obtain ⟨k, hk, he⟩ := List.any_eq_true.1 h
    have ht' := List.mem_range.1 ht
    have hk' := List.mem_range.1 hk
    intro h0
    rw [List.countP_eq_zero] at h0
    refine h0 (t * 3 + k) (List.mem_range.2 (by omega)) ?_
    rw [show (t * 3 + k) / 3 = t by omega, show (t * 3 + k) % 3 = k by omega]
    exact he
  · intro h0
    have : 0 < (List.range 12).countP fun i => s.holds (i / 3) (i % 3) == a := Nat.pos_of_ne_zero h0
    obtain ⟨i, hi, he⟩ := List.countP_pos_iff.1 this
    have hi' := List.mem_range.1 hi
    exact ⟨i / 3, List.mem_range.2 (by omega), List.any_eq_true.2 ⟨i % 3, List.mem_range.2 (by omega), he⟩⟩
/-- A map of counts. -/
def CMapP (kv : List (Int × Value)) (f : Int → Nat) : Prop := ∀ x, x ≠ 0 → mget kv x = if f x = 0 then none else some (.int .i64 (f x))
theorem CMapP.get {kv : List (Int × Value)} {f : Int → Nat} (h : CMapP kv f) {x : Int} (hx : x ≠ 0) : (mget kv x).getD (.int .i64 0) = .int .i64 (f x) := by
  rw [h x hx]
  split
  · next h => rw [h]; rfl
  · rfl
theorem CMapP.put {kv : List (Int × Value)} {f g : Int → Nat} (h : CMapP kv f) {x : Int} (n : Int) (hn : n = g x) (hp : g x ≠ 0) (hg : ∀ y, y ≠ x → g y = f y) : CMapP (mput kv x (.int .i64 n)) g := by
  intro y hy
  rw [mget_put]
  by_cases e : y = x
  · subst e; rw [if_pos rfl, if_neg hp, hn]
  · rw [if_neg e, hg y e]; exact h y hy
theorem CMapP.del {kv : List (Int × Value)} {f g : Int → Nat} (h : CMapP kv f) {x : Int} (v : Value) (hp : g x = 0) (hg : ∀ y, y ≠ x → g y = f y) : CMapP (mdel (mput kv x v) x) g := by
  intro y hy
  rw [mget_del]
  by_cases e : y = x
  · subst e; rw [if_pos rfl, if_pos hp]
  · rw [if_neg e, mget_put, if_neg e, hg y e]; exact h y hy
def encH (r : Nat → Int) : List Value := [.int .i64 (r 0), .int .i64 (r 1), .int .i64 (r 2)]
theorem encH_len (r : Nat → Int) : (encH r).length = 3 := rfl
def hRows (s : RS) : List (Nat → Int) := (List.range s.n).map s.holds
theorem hRows_len (s : RS) : (hRows s).length = s.n := by simp [hRows]
theorem hRows_at {s : RS} {t : Nat} (ht : t < s.n) : (hRows s)[t]? = some (s.holds t) := by simp [hRows, ht]
theorem hRows_upd {s : RS} {t : Nat} (ht : t < s.n) (r : Nat → Int) (s' : RS) (hn : s'.n = s.n) (hh : s'.holds = upd1 s.holds t r) : (hRows s).set t r = hRows s' := by
  unfold hRows
  rw [hn, hh]
  apply List.ext_getElem?
  intro i
  rw [List.getElem?_set]
  by_cases e : t = i
  · subst e; simp [ht, upd1]
  · rw [if_neg e]
    simp only [List.getElem?_map]
    by_cases hi : i < s.n
    · have e2 : ¬ i = t := fun h => e h.symm
      simp [hi, upd1, e2]
    · simp [hi]
theorem encH_set (r : Nat → Int) {k : Nat} (hk : k < 3) (v : Int) : (encH r).set k (.int .i64 v) = encH (upd1 r k v) := by
  obtain rfl | rfl | rfl : k = 0 ∨ k = 1 ∨ k = 2 := by omega
  all_goals simp [encH, upd1]
end Go.Proofs.YtcgcljmnnjalpaaGreat
set_option linter.unusedVariables false
set_option linter.unusedSimpArgs false
namespace Go.Proofs.YtcgcljmnnjalpaaGreat
open Go.RowKit Go.Kx
open Go.ChangeMaps (setBlock)
structure CMv (b H cH M : Nat) (v : Value) (w : World) (F : FP) (s : RS) : Prop where
  kind : s.kind = 4
  ok : Ok s
  blk : w.heap[b]? = some (.cells #[.slice (some ⟨H, 0, none⟩) s.n cH, .map (some M), v] 132 (0, 0))
  hrow : w.ownsRow 0 76 3 (.slice (some ⟨H, 0, none⟩) s.n cH) s.n ((hRows s).flatMap encH)
  cmap : ∃ kv, IMap w M kv ∧ CMapP kv (cnH s.holds)
  row : w.ownsRow 0 3 1 v (addrs s).length ((addrs s).map (Value.int .i64))
  fp : ∀ k, F k ↔ (k = b ∨ k = H ∨ k = M ∨ v.ownBlock = some k)
/-- The counting manager at block b. -/
def CM (b : Nat) (w : World) (F : FP) (s : RS) : Prop := ∃ H cH M v, CMv b H cH M v w F s
theorem blk_ty {w : World} {k : Nat} {c d : Array Value} {t u : TypeId} {fz gz : Nat × Nat} (h : w.heap[k]? = some (.cells c t fz)) (h2 : w.heap[k]? = some (.cells d u gz)) : t = u := by
  rw [h] at h2; simp at h2; exact h2.2.1
section
variable {b H cH M : Nat} {v : Value} {w : World} {F : FP} {s : RS}
theorem CMv.hblk (h : CMv b H cH M v w F s) : ∃ c, w.heap[H]? = some (.cells c 76 (0, 0)) := owns_blk h.hrow rfl
theorem CMv.neH (h : CMv b H cH M v w F s) : H ≠ b := by
  rintro rfl; obtain ⟨c, hc⟩ := h.hblk
  exact absurd (blk_ty hc h.blk) (by decide)
theorem CMv.neM (h : CMv b H cH M v w F s) : M ≠ b := by
  obtain ⟨kv, hm, _⟩ := h.cmap
  exact hm.ne h.blk
theorem CMv.neHM (h : CMv b H cH M v w F s) : M ≠ H := by
  obtain ⟨kv, hm, _⟩ := h.cmap
  obtain ⟨c, hc⟩ := h.hblk
  exact hm.ne hc
theorem CMv.nev (h : CMv b H cH M v w F s) (k : Nat) (hk : v.ownBlock = some k) : k ≠ b ∧ k ≠ H ∧ k ≠ M := by
  obtain ⟨c, hc⟩ := owns_blk h.row hk
  refine ⟨?_, ?_, ?_⟩
  · rintro rfl; exact absurd (blk_ty hc h.blk) (by decide)
  · rintro rfl; obtain ⟨d, hd⟩ := h.hblk; exact absurd (blk_ty hc hd) (by decide)
  · rintro rfl; obtain ⟨kv, hm, _⟩ := h.cmap; exact hm.ne hc rfl
theorem CMv.local_fr {w' : World} {G : FP} (h : CMv b H cH M v w F s) (hf : Fr G w w') (hn : ∀ k, F k → ¬ G k) : CMv b H cH M v w' F s := by
  obtain ⟨kv, hm, hc⟩ := h.cmap
  exact ⟨h.kind, h.ok, hf.at_ h.blk (hn b ((h.fp b).2 (.inl rfl))), owns_fr h.hrow hf (fun k hk => hn k ((h.fp k).2 (.inr (.inl (by simpa [Value.ownBlock] using hk.symm))))), ⟨kv, hm.fr hf (hn M ((h.fp M).2 (.inr (.inr (.inl rfl))))), hc⟩, owns_fr h.row hf (fun k hk => hn k ((h.fp k).2 (.inr (.inr (.inr hk))))), h.fp⟩
theorem CMv.lt (h : CMv b H cH M v w F s) (k : Nat) (hk : F k) : k < w.heap.size := by
  rcases (h.fp k).1 hk with rfl | rfl | rfl | hk
  · exact blk_lt h.blk
  · obtain ⟨c, hc⟩ := h.hblk; exact blk_lt hc
  · obtain ⟨kv, hm, _⟩ := h.cmap; exact hm.lt
  · exact (h.row.lt k hk).2
end
theorem CM.local (b : Nat) : Local (CM b) := ⟨fun ⟨H, cH, M, v, h⟩ k hk => h.lt k hk, fun ⟨H, cH, M, v, h⟩ hf hn => ⟨H, cH, M, v, h.local_fr hf hn⟩⟩
theorem zero3x (w : World) : (zeroValue 3).run Tryz.prog w = .ok (.int .i64 0) w := by kernel_rfl
theorem coHas {b H cH M : Nat} {v : Value} {w : World} {F : FP} {s : RS} (h : CMv b H cH M v w F s) (t : Int) : Calls Tryz.prog 111 #[.pointer (some ⟨b, 0, none⟩), .int .i64 t] w fun e w' => e = .returned (.bool (okTh s t)) ∧ w = w' := by
  refine cph fun R HR => ?_
  have k0 := (blk_cell h.blk 0).trans (rfl : _ = some (Value.slice (some ⟨H, 0, none⟩) s.n cH))
  rcases okTh_cases s t h.ok.n4 with ⟨h1, e⟩ | ⟨h1, h2, e⟩ | ⟨h1, h2, e⟩
  · rw [e] at HR
    have d1 : decide (0 ≤ t) = false := decide_eq_false (by omega)
    clear h e
    go_enter Tryz.func111, Tryz.ntmps111
    go_wp2_with fail
    exact HR.out _ _ ⟨rfl, rfl⟩
  · rw [e] at HR
    have d1 : decide (0 ≤ t) = true := decide_eq_true h2
    have d2 : decide (t < (s.n : Int)) = false := decide_eq_false (by omega)
    clear h e
    go_enter Tryz.func111, Tryz.ntmps111
    go_wp2_with fail
    exact HR.out _ _ ⟨rfl, rfl⟩
  · rw [e] at HR
    have d1 : decide (0 ≤ t) = true := decide_eq_true h1
    have d2 : decide (t < (s.n : Int)) = true := decide_eq_true h2
    clear h e
    go_enter Tryz.func111, Tryz.ntmps111
    go_wp2_with fail
    exact HR.out _ _ ⟨rfl, rfl⟩
def SetP (b H cH M : Nat) (v : Value) (w : World) (F : FP) (s' : RS) (e : Ending) (w' : World) : Prop := e = .returned (.tuple #[]) ∧ CMv b H cH M v w' F s' ∧ Fr F w w'
set_option maxRecDepth 100000 in
set_option maxHeartbeats 4000000 in
theorem coSet {b H cH M : Nat} {v : Value} {w : World} {F : FP} {s : RS} (h : CMv b H cH M v w F s) {t k : Nat} (ht : t < s.n) (hk : k < 3) (a : Int) (ha : 0 ≤ a) :
    Calls Tryz.prog 112 #[.pointer (some ⟨b, 0, none⟩), .int .i64 t, .int .i64 k, .int .i64 a] w (SetP b H cH M v w F (holdS0 s t k a)) := by
  refine cph fun R HR => ?_
  have HV := Lib.hid h
  have h4 : t < 4 := by have := h.ok.n4; omega
  have hokn := Lib.hid (h.ok.hold0 ht hk ha)
  have kb0 := (blk_cell h.blk 0).trans (rfl : _ = some (Value.slice (some ⟨H, 0, none⟩) s.n cH))
  have kb1 := (blk_cell h.blk 1).trans (rfl : _ = some (Value.map (some M)))
  have hold := own_at encH_len h.hrow (hRows_at ht) (o := k) hk
  have hold2 : w.cell? ⟨H, t * 3 + k, none⟩ = some (.int .i64 (s.holds t k)) := by
    rw [hold]
    obtain rfl | rfl | rfl : k = 0 ∨ k = 1 ∨ k = 2 := by omega
    all_goals rfl
  have hfz := h.hrow.frozenAt (t * 3 + k)
  have hti : (t : Int) < (s.n : Int) := by omega
  have hki : (k : Int) < 3 := by omega
  -- behind the store
  obtain ⟨w1, hw1⟩ : ∃ w1, w.setCell ⟨H, t * 3 + k, none⟩ (.int .i64 a) = w1 := ⟨_, rfl⟩
  have hfr1 : Fr F w w1 := by rw [← hw1]; exact (Fr.refl F w).setCell _ _ (.inr ((h.fp H).2 (.inr (.inl rfl))))
  have hb1 : w1.heap[b]? = some (.cells #[.slice (some ⟨H, 0, none⟩) s.n cH, .map (some M), v] 132 (0, 0)) := by
    rw [← hw1]; exact (blk_set_other (a := ⟨H, t * 3 + k, none⟩) (fun e => h.neH e.symm) _).trans h.blk
  have hh1 : w1.ownsRow 0 76 3 (.slice (some ⟨H, 0, none⟩) s.n cH) s.n ((hRows (holdS0 s t k a)).flatMap encH) := by
    have h1 := (h.hrow.stored (t * 3 + k) (.int .i64 a)).1
    rw [flat_set encH_len _ t _ (upd1 (s.holds t) k a) k _ (hRows_at ht) hk (encH_set _ hk a), hRows_upd ht _ (holdS0 s t k a) rfl rfl, hw1] at h1
    exact h1
  have hr1 : w1.ownsRow 0 3 1 v (addrs s).length ((addrs s).map (Value.int .i64)) := by
    rw [← hw1]
    exact owns_fr h.row ((Fr.refl (· = H) w).setCell _ _ (.inr rfl)) (fun j hj e => (h.nev j hj).2.1 e)
  obtain ⟨kv, hm, hcm⟩ := h.cmap
  have hm1 : IMap w1 M kv := by rw [← hw1]; exact hm.setCell h.neHM _
  have hup := fun x => cnH_upd (h := s.holds) h4 hk a x
  have hpos := h.ok.pos t k
  have H1 := Lib.hid (And.intro hfr1 (And.intro hb1 (And.intro hh1 (And.intro hr1 (And.intro hm1 hcm)))))
  have HU := Lib.hid hup
  have hle := fun x => cnH_le s.holds x
  have HLE := Lib.hid hle
  have HW := Lib.hid hw1
  have kc0 := (blk_cell hb1 0).trans (rfl : _ = some (Value.slice (some ⟨H, 0, none⟩) s.n cH))
  have kc1 := (blk_cell hb1 1).trans (rfl : _ = some (Value.map (some M)))
  have hlook := hm1.lookup Tryz.underlying124 Tryz.underlying3 (zero3x w1) a false
  simp only [Bool.false_eq_true, if_false] at hlook
  clear h hold hfr1 hb1 hh1 hr1 hm hm1 hcm hup hle
  generalize hold' : s.holds t k = old at hold2 hpos HU
  go_enter Tryz.func112, Tryz.ntmps112
  go_upto_if 28 with fail
  clear hw1
  go_cut [] (fun wx => Hid (∃ kv1, IMap wx M kv1 ∧ CMapP kv1 (fun x => cnH s.holds x + if a = x then 1 else 0) ∧ Fr (· = M) w1 wx))
  case first =>
    by_cases ha0 : a = 0
    · subst ha0
      go_wp2_with fail
      go_meet
      exact ⟨kv, H1.out.2.2.2.2.1, fun x hx => by
        have := H1.out.2.2.2.2.2 x hx
        have h0 : (if (0 : Int) = x then 1 else 0) = 0 := if_neg (fun e => hx e.symm)
        simp only [h0, Nat.add_zero]
        exact this, Fr.refl _ _⟩
    · rw [CMapP.get H1.out.2.2.2.2.2 ha0] at hlook
      have hb := HLE.out a
      generalize hn : cnH s.holds a = n at hlook hb
      have hb2 : (n : Int) ≤ 12 := by omega
      have HN := Lib.hid hn
      clear hn
      go_wp2_with (at_mapUpdate; refine wpList_mput rfl _ _ _ rfl H1.out.2.2.2.2.1 Tryz.underlying124 Tryz.underlying3 a (.int .i64 ((n : Int) + 1)) rfl rfl rfl ?_; intro ob him; have HF := Lib.hid him; clear him)
      go_meet
      exact ⟨_, HF.out, H1.out.2.2.2.2.2.put (x := a) ((n : Int) + 1) (by simp [HN.out]) (by simp) (fun y hy => by rw [if_neg (fun e => hy e.symm)]; rfl), (Fr.refl _ _).block _ _ (.inr rfl)⟩
  case rest =>
    obtain ⟨w2, hw2⟩ : ∃ w2, w2 = wc := ⟨_, rfl⟩
    subst hw2
    obtain ⟨kv1, hm2, hc2, hf2⟩ := hcut.out
    have hnM : ∀ j, F j → True := fun _ _ => trivial
    have hFM : F M := (HV.out.fp M).2 (.inr (.inr (.inl rfl)))
    have hb2 := hf2.at_ H1.out.2.1 (fun e => HV.out.neM e.symm)
    have hh2 := owns_fr H1.out.2.2.1 hf2 (fun j hj e => HV.out.neHM (by
      have : H = j := by simpa [Value.ownBlock] using hj
      rw [this, e]))
    have hr2 := owns_fr H1.out.2.2.2.1 hf2 (fun j hj e => (HV.out.nev j hj).2.2 e)
    have hF2 : Fr F w w2 := Fr.then H1.out.1 hf2 (fun i _ (e : i = M) => e ▸ hFM)
    have ke1 := (blk_cell hb2 1).trans (rfl : _ = some (Value.map (some M)))
    have hbl := blk_lt hb2
    -- what the whole has in the end
    have HE : Hid (∀ w' kv', IMap w' M kv' → CMapP kv' (cnH (upd1 s.holds t (upd1 (s.holds t) k a))) → Fr (· = M) w2 w' → SetP b H cH M v w F (holdS0 s t k a) (.returned (.tuple #[])) w') := by
      intro w' kv' hm' hc' hf'
      refine ⟨rfl, ⟨HV.out.kind, hokn.out, hf'.at_ hb2 (fun e => HV.out.neM e.symm), owns_fr hh2 hf' (fun j hj e => HV.out.neHM (by
        have : H = j := by simpa [Value.ownBlock] using hj
        rw [this, e])), ⟨kv', hm', hc'⟩, owns_fr hr2 hf' (fun j hj e => (HV.out.nev j hj).2.2 e), HV.out.fp⟩, Fr.then hF2 hf' (fun i _ (e : i = M) => e ▸ hFM)⟩
    by_cases ho : old = 0
    · subst ho
      have HF := Lib.hid (HE.out w2 kv1 hm2 (fun x hx => by
        have h1 := hc2 x hx
        have h2 := HU.out x
        rw [if_neg (fun e => hx e.symm)] at h2
        rw [show cnH (upd1 s.holds t (upd1 (s.holds t) k a)) x = cnH s.holds x + if a = x then 1 else 0 by omega]
        exact h1) (Fr.refl _ _))
      clear hm2 hc2 hf2 hb2 hh2 hr2 hF2 hcut
      go_wp2_with fail
      refine bodyPost_ret (results_none rfl _ _ _) rfl ?_
      exact HR.out _ _ HF.out
    · have hlook2 := hm2.lookup Tryz.underlying124 Tryz.underlying3 (zero3x w2) old false
      simp only [Bool.false_eq_true, if_false] at hlook2
      rw [CMapP.get hc2 ho] at hlook2
      have hU := HU.out old
      rw [if_pos rfl] at hU
      have hle := HLE.out old
      generalize hn1 : cnH s.holds old + (if a = old then 1 else 0) = n1 at hlook2 hU
      have hn13 : n1 ≤ 13 := by rw [← hn1]; split <;> omega
      generalize hg : cnH (upd1 s.holds t (upd1 (s.holds t) k a)) old = gn at hU
      have hgn : (n1 : Int) = gn + 1 := by omega
      have HGo : Hid (∀ y, y ≠ old → cnH (upd1 s.holds t (upd1 (s.holds t) k a)) y = cnH s.holds y + if a = y then 1 else 0) := fun y hy => by
        have := HU.out y
        rw [if_neg (fun e => hy e.symm)] at this
        omega
      have HGn := Lib.hid hg
      have HM2 := Lib.hid (And.intro hm2 hc2)
      have HB2 := Lib.hid hb2
      have hgb : (gn : Int) ≤ 13 := by omega
      rw [hgn] at hlook2
      clear hm2 hc2 hf2 hb2 hh2 hr2 hF2 hcut hn1 hg hgn hU hn13
      go_upto_region 6 with (at_mapUpdate; refine wpList_mput rfl _ _ _ rfl HM2.out.1 Tryz.underlying124 Tryz.underlying3 old (.int .i64 gn) rfl rfl (by simp [Act.eval, Act.put]) ?_; intro ob him; have HF := Lib.hid him; clear him)
      obtain ⟨w3, hw3⟩ : ∃ w3, setBlock w2 M ob = w3 := ⟨_, rfl⟩
      have hf3 : Fr (· = M) w2 w3 := by rw [← hw3]; exact (Fr.refl _ _).block _ _ (.inr rfl)
      have hm3 : IMap w3 M (mput kv1 old (.int .i64 gn)) := by rw [← hw3]; exact HF.out
      have hb3 := hf3.at_ HB2.out (fun e => HV.out.neM e.symm)
      have kf1 := (blk_cell hb3 1).trans (rfl : _ = some (Value.map (some M)))
      have hlook3 := hm3.lookup Tryz.underlying124 Tryz.underlying3 (zero3x w3) old false
      simp only [Bool.false_eq_true, if_false] at hlook3
      rw [mget_put, if_pos rfl, Option.getD_some] at hlook3
      rw [hw3]
      have H3 := Lib.hid (And.intro hf3 hm3)
      clear hf3 hm3 hb3 hw3 HF
      by_cases hz : gn = 0
      · subst hz
        obtain ⟨ob2, hdel, him2⟩ := H3.out.2.delete (e := 3) Tryz.underlying124 Tryz.underlying3 old 0
        have HF2 := Lib.hid him2
        clear him2
        go_wp2_with fail
        go_end0
        exact HR.out _ _ (HE.out _ _ HF2.out (HM2.out.2.del (x := old) _ HGn.out HGo.out) (Fr.trans H3.out.1 ((Fr.refl _ _).block _ _ (.inr rfl))))
      · have hz2 : ¬ (gn : Int) = 0 := by omega
        have HF2 := Lib.hid (HE.out w3 _ H3.out.2 (HM2.out.2.put (x := old) (gn : Int) (by rw [HGn.out]) (by rw [HGn.out]; exact hz) HGo.out) H3.out.1)
        go_wp2_with fail
        go_end0
        exact HR.out _ _ HF2.out
end Go.Proofs.YtcgcljmnnjalpaaGreat
set_option linter.unusedVariables false
set_option linter.unusedSimpArgs false
namespace Go.Proofs.YtcgcljmnnjalpaaGreat
open Go.RowKit Go.Kx
open Go.ChangeMaps (setBlock)
theorem CMv.upd {b H cH M : Nat} {v : Value} {w : World} {F : FP} {s s' : RS} (h : CMv b H cH M v w F s) (hok : Ok s') (hk : s'.kind = s.kind) (hn : s'.n = s.n) (hh : s'.holds = s.holds) (hit : addrs s' = addrs s) : CMv b H cH M v w F s' :=
  ⟨hk.trans h.kind, hok, by rw [hn]; exact h.blk, by rw [hn, show hRows s' = hRows s by unfold hRows; rw [hn, hh]]; exact h.hrow, by rw [hh]; exact h.cmap, by rw [hit]; exact h.row, h.fp⟩
/-- Of the first k addresses those of which p holds. -/
def bkI (p : Int → Bool) (l : List Int) (k : Nat) : List Int := (l.take k).filter p
theorem bkI_succ {p : Int → Bool} {l : List Int} {k : Nat} {x : Int} (h : l[k]? = some x) : bkI p l (k + 1) = if p x then bkI p l k ++ [x] else bkI p l k := by
  unfold bkI
  rw [List.take_add_one, h, List.filter_append]
  cases hg : p x <;> simp [hg]
theorem bkI_len (p : Int → Bool) (l : List Int) (k : Nat) : (bkI p l k).length ≤ k := Nat.le_trans (List.length_filter_le _ _) (List.length_take_le _ _)
def goneC (s : RS) (a : Int) : Bool := decide (cnH s.holds a = 0)
theorem freeC {s : RS} (h : s.kind = 4) (x : Itm) : freeB s x = goneC s x.addr := by
  unfold freeB goneC
  rw [if_pos (.inr h), held_cn]
  by_cases e : cnH s.holds x.addr = 0 <;> simp [e]
theorem sweepC {s : RS} (h : s.kind = 4) : (sweepS s fun _ => true).back = bkI (goneC s) (addrs s) (addrs s).length ∧ addrs (sweepS s fun _ => true).st = bkI (fun a => !goneC s a) (addrs s) (addrs s).length := by
  have e : ∀ x : Itm, (true && freeB s x) = goneC s x.addr := fun x => by rw [Bool.true_and, freeC h]
  unfold sweepS bkI addrs
  rw [List.take_length]
  simp only [e]
  constructor
  · rw [List.filter_map]; rfl
  · rw [List.filter_map]; rfl
set_option maxRecDepth 100000 in
set_option maxHeartbeats 8000000 in
theorem coLoose {b : Nat} {w : World} {F : FP} {s : RS} (h : CM b w F s) (hs : s.items.length ≤ 200000) : Calls Tryz.prog 113 #[.pointer (some ⟨b, 0, none⟩)] w (OpL (CM b) w F (sweepS s fun _ => true)) := by
  refine cph fun R HR => ?_
  obtain ⟨H, cH, M, v, hv⟩ := h
  have k2 := (blk_cell hv.blk 2).trans (rfl : _ = some v)
  have hbl := blk_lt hv.blk
  have HV := Lib.hid hv
  obtain ⟨i0, hi, hz0, hz1, hz2⟩ := info_parts info3x
  have HI := Lib.hid (And.intro hi (And.intro hz0 (And.intro hz1 hz2)))
  clear hi hz0 hz1 hz2
  obtain ⟨A, cap, rfl, hints, _, _⟩ := ints_of_own hv.row
  have hal : (addrs s).length ≤ 200000 := by rw [addrs_len]; exact hs
  have hpos : Hid (∀ x ∈ addrs s, x ≠ 0) := fun x hx => by
    obtain ⟨y, hy, rfl⟩ := List.mem_map.1 hx
    have := hv.ok.addr y hy
    omega
  obtain ⟨kv, hm, hcm⟩ := hv.cmap
  have HM := Lib.hid (And.intro hm hcm)
  have HIn := Lib.hid hints
  clear hv hints hm hcm
  go_enter Tryz.func113, Tryz.ntmps113
  go_wp2_with fail
  go_loopw [3, 4, 12] (fun u x i wr => ∃ k : Nat, k ≤ (addrs s).length ∧ i = .int .i64 k ∧ Hid (wr.ownsRow w.heap.size 3 1 u (bkI (goneC s) (addrs s) k).length ((bkI (goneC s) (addrs s) k).map (Value.int .i64)) ∧ wr.ownsRow w.heap.size 3 1 x (bkI (fun a => !goneC s a) (addrs s) k).length ((bkI (fun a => !goneC s a) (addrs s) k).map (Value.int .i64)) ∧ Grow w wr ∧ ∀ j, u.ownBlock = some j → ¬ x.ownBlock = some j)) (fun _ _ i _ => (addrs s).length - (intOf i).toNat)
  case atStart => exact ⟨0, by omega, rfl, World.ownsRow_nil _ _ _ _, World.ownsRow_nil _ _ _ _, Grow.refl _, fun j hj => by simp [Value.ownBlock] at hj⟩
  case round =>
    obtain ⟨k, hk, rfl, HO⟩ := hrel
    by_cases hlt : k < (addrs s).length
    · obtain ⟨x, hx⟩ : ∃ x, (addrs s)[k]? = some x := ⟨(addrs s)[k], by simp [hlt]⟩
      obtain ⟨bA, offA, hAe, hca⟩ := HIn.out.resolve_left (by intro e; rw [e] at hlt; simp at hlt)
      subst hAe
      have c0 := HO.out.2.2.1.cell (hca k x hx)
      have hxp := hpos.out x (List.mem_of_getElem? hx)
      have hki : (k : Int) < ((addrs s).length : Int) := by omega
      have hgs := HO.out.2.2.1.size
      have hb1 := bkI_len (goneC s) (addrs s) k
      have hb2 := bkI_len (fun a => !goneC s a) (addrs s) k
      have kb1 := (blk_cell (HO.out.2.2.1.at_ HV.out.blk) 1).trans (rfl : _ = some (Value.map (some M)))
      have hmr := HM.out.1.fr HO.out.2.2.1 (fun h => h)
      have hlook := hmr.lookup Tryz.underlying124 Tryz.underlying3 (zero3x wr) x false
      simp only [Bool.false_eq_true, if_false] at hlook
      rw [CMapP.get HM.out.2 hxp] at hlook
      have h1 := bkI_succ (p := goneC s) hx
      have h2 := bkI_succ (p := fun a => !goneC s a) hx
      have hgo : goneC s x = decide (cnH s.holds x = 0) := rfl
      generalize cnH s.holds x = n at hlook hgo
      clear hx hca hmr
      by_cases hn : n = 0
      · subst hn
        have hgo2 : goneC s x = true := by rw [hgo]; rfl
        rw [hgo2] at h1
        simp only [hgo2, Bool.not_true, Bool.false_eq_true, if_false, if_true] at h1 h2
        have HN := Lib.hid (And.intro h1 h2)
        clear h1 h2 hgo hgo2
        generalize bkI (goneC s) (addrs s) k = B at HO HN hb1
        generalize bkI (fun a => !goneC s a) (addrs s) k = L at HO HN hb2
        go_wp2_with (at_builtin; refine wpList_append_own_at _ rfl (.tmp 23) (.tmp 25) 34 rfl w.heap.size 3 i0 (.int .i64 0) 1 8 Tryz.underlying34 HI.out.1 HI.out.2.1 HI.out.2.2.1 HI.out.2.2.2 rfl (by decide) _ _ _ rfl (HO.out.1.alloc _) ⟨wr.heap.size, 0, none⟩ 1 1 [.int .i64 x] rfl rfl (cell_one_new _ _ _) (by simp [Value.oneCell']) (by unfold maxLen; omega) (by omega) (by simp; omega) ?_)
        intro v' w3 hown hgrow _ hat
        have H7 : Hid (w3.ownsRow w.heap.size 3 1 v' (B ++ [x]).length ((B ++ [x]).map (Value.int .i64)) ∧ w3.ownsRow w.heap.size 3 1 u4 L.length (L.map (Value.int .i64)) ∧ Grow w w3 ∧ ∀ j, v'.ownBlock = some j → ¬ u4.ownBlock = some j) := by
          refine ⟨by simpa using hown, owns_fr (owns_grow HO.out.2.1 ((Grow.refl _).alloc _)) (fr_grown hgrow) (fun j hj e => HO.out.2.2.2 j e hj), (HO.out.2.2.1.alloc _).grown hgrow (fun j e => (HO.out.1.lt j e).1), fun j hj e => ?_⟩
          rcases hat with h | h
          · exact HO.out.2.2.2 j (h ▸ hj) e
          · rw [h] at hj
            have := (HO.out.2.1.lt j e).2
            simp at hj
            omega
        clear hown hgrow hat
        go_wp2_with fail
        go_roundw
        case rel => exact ⟨k + 1, by omega, by go_num, by rw [HN.out.1, HN.out.2]; exact H7.out⟩
        case measure => simp [intOf] <;> omega
      · have hn2 : ¬ (n : Int) = 0 := by omega
        have hgo2 : goneC s x = false := by rw [hgo]; exact decide_eq_false hn
        rw [hgo2] at h1
        simp only [hgo2, Bool.not_false, Bool.false_eq_true, if_false, if_true] at h1 h2
        have HN := Lib.hid (And.intro h1 h2)
        clear h1 h2 hgo hgo2
        generalize bkI (goneC s) (addrs s) k = B at HO HN hb1
        generalize bkI (fun a => !goneC s a) (addrs s) k = L at HO HN hb2
        go_wp2_with (at_builtin; refine wpList_append_own_at _ rfl (.tmp 27) (.tmp 29) 34 rfl w.heap.size 3 i0 (.int .i64 0) 1 8 Tryz.underlying34 HI.out.1 HI.out.2.1 HI.out.2.2.1 HI.out.2.2.2 rfl (by decide) _ _ _ rfl (HO.out.2.1.alloc _) ⟨wr.heap.size, 0, none⟩ 1 1 [.int .i64 x] rfl rfl (cell_one_new _ _ _) (by simp [Value.oneCell']) (by unfold maxLen; omega) (by omega) (by simp; omega) ?_)
        intro v' w3 hown hgrow _ hat
        have H7 : Hid (w3.ownsRow w.heap.size 3 1 u3 B.length (B.map (Value.int .i64)) ∧ w3.ownsRow w.heap.size 3 1 v' (L ++ [x]).length ((L ++ [x]).map (Value.int .i64)) ∧ Grow w w3 ∧ ∀ j, u3.ownBlock = some j → ¬ v'.ownBlock = some j) := by
          refine ⟨owns_fr (owns_grow HO.out.1 ((Grow.refl _).alloc _)) (fr_grown hgrow) (fun j hj e => HO.out.2.2.2 j hj e), by simpa using hown, (HO.out.2.2.1.alloc _).grown hgrow (fun j e => (HO.out.2.1.lt j e).1), fun j hj e => ?_⟩
          rcases hat with h | h
          · exact HO.out.2.2.2 j hj (h ▸ e)
          · rw [h] at e
            have := (HO.out.1.lt j hj).2
            simp at e
            omega
        clear hown hgrow hat
        go_wp2_with fail
        go_roundw
        case rel => exact ⟨k + 1, by omega, by go_num, by rw [HN.out.1, HN.out.2]; exact H7.out⟩
        case measure => simp [intOf] <;> omega
    · obtain rfl : k = (addrs s).length := by omega
      have hki : ¬ ((addrs s).length : Int) < ((addrs s).length : Int) := by omega
      have kb := HO.out.2.2.1.at_ HV.out.blk
      have k2' := (blk_cell kb 2).trans (rfl : _ = some (Value.slice A (addrs s).length cap))
      have f2' := blk_free kb 2
      obtain ⟨A4, m4, p4, hu4⟩ := own_sl HO.out.2.1
      subst hu4
      have HF : Hid (OpL (CM b) w F (sweepS s fun _ => true) (.returned u3) (wr.setCell ⟨b, 2, none⟩ (.slice A4 m4 p4))) := by
        obtain ⟨hbe, hie⟩ := sweepC (s := s) HV.out.kind
        have hfb : Fr (· = b) wr (wr.setCell ⟨b, 2, none⟩ (.slice A4 m4 p4)) := (Fr.refl _ _).setCell _ _ (.inr rfl)
        have hHl : H < w.heap.size := by obtain ⟨c, hc⟩ := HV.out.hblk; exact blk_lt hc
        have hMl : M < w.heap.size := HM.out.1.lt
        refine ⟨u3, fun k => k = b ∨ k = H ∨ k = M ∨ (Value.slice A4 m4 p4).ownBlock = some k, rfl, ?_, ⟨H, cH, M, .slice A4 m4 p4, HV.out.kind, HV.out.ok.sweep _, blk_set kb 2 _, ?_, ?_, ?_, fun k => Iff.rfl⟩, ?_, ?_⟩
        · rw [hbe]
          exact owns_fr HO.out.1 hfb (fun j hj e => by have := (HO.out.1.lt j hj).1; omega)
        · exact owns_fr (owns_grow HV.out.hrow HO.out.2.2.1) hfb (fun j hj e => HV.out.neH (by
            have : H = j := by simpa [Value.ownBlock] using hj
            rw [this, e]))
        · exact ⟨kv, (HM.out.1.fr HO.out.2.2.1 (fun h => h)).fr hfb (fun e => HV.out.neM e), HM.out.2⟩
        · rw [hie]
          exact own_base_le (owns_fr HO.out.2.1 hfb (fun j hj e => by have := (HO.out.2.1.lt j hj).1; omega)) (Nat.zero_le _)
        · refine Step.mono HO.out.2.2.1 ((Fr.refl F _).setCell _ _ (.inr ((HV.out.fp b).2 (.inl rfl)))) (fun k hk => ?_)
          rcases hk with e | e | e | e
          · exact .inl ((HV.out.fp k).2 (.inl e))
          · exact .inl ((HV.out.fp k).2 (.inr (.inl e)))
          · exact .inl ((HV.out.fp k).2 (.inr (.inr (.inl e))))
          · exact .inr (HO.out.2.1.lt k e).1
        · intro k hk hf
          have h1 := (HO.out.1.lt k hk).1
          rcases hf with e | e | e | e
          · omega
          · omega
          · omega
          · exact HO.out.2.2.2 k hk e
      clear kb
      go_wp2_with fail
      exact HR.out _ _ HF.out
end Go.Proofs.YtcgcljmnnjalpaaGreat
set_option linter.unusedVariables false
set_option linter.unusedSimpArgs false
namespace Go.Proofs.YtcgcljmnnjalpaaGreat
open Go.RowKit Go.Kx
open Go.ChangeMaps (setBlock)
theorem coIn {b : Nat} {w : World} {F : FP} {s : RS} (h : CM b w F s) (t : Int) : Calls Tryz.prog 185 #[.pointer (some ⟨b, 0, none⟩), .int .i64 t] w (OpP (CM b) w F (inS s t)) := by
  refine cph fun R HR => ?_
  obtain ⟨H, cH, M, v, hv⟩ := h
  have HH := Lib.hid (coHas hv t)
  have HF : Hid (OpP (CM b) w F (inS s t) (.returned (.tuple #[.slice none 0 0, .int .i64 (if okTh s t then 0 else 1)])) w) := by
    cases ht : okTh s t
    · have e : inS s t = ⟨s, [], 1⟩ := by simp [inS, ht]
      rw [e]
      exact OpP.none ⟨H, cH, M, v, hv⟩ (Step.refl _ _)
    · have hok := hv.ok.in_ t
      have e : inS s t = ⟨(inS s t).st, [], 0⟩ := by simp [inS, ht]
      rw [e]
      exact OpP.none ⟨H, cH, M, v, hv.upd hok (by simp [inS, ht]) (by simp [inS, ht]) (by simp [inS, ht, hv.kind]) (by simp [inS, ht, addrs])⟩ (Step.refl _ _)
  clear hv
  cases ht : okTh s t
  · rw [ht] at HH HF
    go_enter Tryz.func185, Tryz.ntmps185
    go_wp2_with (go_at_call 111; refine HH.out.mono ?_; rintro e w' ⟨rfl, rfl⟩)
    exact HR.out _ _ HF.out
  · rw [ht] at HH HF
    go_enter Tryz.func185, Tryz.ntmps185
    go_wp2_with (go_at_call 111; refine HH.out.mono ?_; rintro e w' ⟨rfl, rfl⟩)
    exact HR.out _ _ HF.out
theorem coBorn {b : Nat} {w : World} {F : FP} {s : RS} (h : CM b w F s) (a : Int) : Calls Tryz.prog 184 #[.pointer (some ⟨b, 0, none⟩), .int .i64 a] w (OpE (CM b) w F (bornS s a)) := by
  refine cph fun R HR => ?_
  have HQ := Lib.hid h
  obtain ⟨H, cH, M, v, hv⟩ := h
  have HH := Lib.hid (coHas hv 0)
  rw [okTh_zero hv.ok] at HH
  by_cases ha : 0 < a
  · have e : bornS s a = ⟨s, [], 0⟩ := by simp [bornS, ha, hv.kind]
    rw [e] at HR
    have ha2 : ¬ a ≤ 0 := by omega
    clear hv e
    go_enter Tryz.func184, Tryz.ntmps184
    go_wp2_with (go_at_call 111; refine HH.out.mono ?_; rintro e w' ⟨rfl, rfl⟩)
    exact HR.out _ _ ⟨F, rfl, HQ.out, Step.refl _ _⟩
  · have e : bornS s a = ⟨s, [], 1⟩ := by simp [bornS, ha]
    rw [e] at HR
    have ha2 : a ≤ 0 := by omega
    clear hv e
    go_enter Tryz.func184, Tryz.ntmps184
    go_wp2_with (go_at_call 111; refine HH.out.mono ?_; rintro e w' ⟨rfl, rfl⟩)
    exact HR.out _ _ ⟨F, rfl, HQ.out, Step.refl _ _⟩
set_option maxHeartbeats 2000000 in
theorem coHold {b : Nat} {w : World} {F : FP} {s : RS} (h : CM b w F s) (hs : s.items.length ≤ 100000) (t k a : Int) : Calls Tryz.prog 69 #[.pointer (some ⟨b, 0, none⟩), .int .i64 t, .int .i64 k, .int .i64 a] w (OpP (CM b) w F (holdS s t k a)) := by
  refine cph fun R HR => ?_
  have HQ := Lib.hid h
  obtain ⟨H, cH, M, v, hv⟩ := h
  have HH := Lib.hid (coHas hv t)
  cases ht : okTh s t
  · rw [ht] at HH
    have e : holdS s t k a = ⟨s, [], 1⟩ := by simp [holdS, ht]
    rw [e] at HR
    clear hv e
    go_enter Tryz.func69, Tryz.ntmps69
    go_wp2_with (go_at_call 111; refine HH.out.mono ?_; rintro e w' ⟨rfl, rfl⟩)
    exact HR.out _ _ (OpP.none HQ.out (Step.refl _ _))
  · rw [ht] at HH
    rcases holdOk_cases k a with ⟨h1, e⟩ | ⟨h1, h2, e⟩ | ⟨h1, h2, h3, e⟩ | ⟨h1, h2, h3, e⟩
    iterate 3
      have e2 : holdS s t k a = ⟨s, [], 1⟩ := by simp [holdS, e]
      rw [e2] at HR
      clear hv e e2 ht
      go_enter Tryz.func69, Tryz.ntmps69
      go_wp2_with (go_at_call 111; refine HH.out.mono ?_; rintro e w' ⟨rfl, rfl⟩)
      exact HR.out _ _ (OpP.none HQ.out (Step.refl _ _))
    obtain ⟨t', rfl, ht'⟩ := okTh_nat ht
    obtain ⟨k', rfl⟩ := Int.eq_ofNat_of_zero_le h1
    have e2 : holdS s (t' : Int) (k' : Int) a = ⟨(sweepS (holdS0 s t' k' a) fun _ => true).st, (sweepS (holdS0 s t' k' a) fun _ => true).back, 0⟩ := by simp [holdS, ht, e, hv.kind, sweepS]
    rw [e2] at HR
    have HSet := Lib.hid (coSet hv ht' (by omega : k' < 3) a h3)
    clear hv e e2 ht
    go_enter Tryz.func69, Tryz.ntmps69
    go_wp2_with (first | (go_at_call 111; refine HH.out.mono ?_; rintro e w' ⟨rfl, rfl⟩) | (go_at_call 112; refine HSet.out.mono ?_; rintro e w2 ⟨rfl, hc2, hf2⟩; have HLo := Lib.hid (coLoose ⟨H, cH, M, v, hc2⟩ (by simp [holdS0]; omega)); have HSt : Hid (Step F w F w2) := ⟨hf2, fun k hk => .inl hk⟩; clear hc2 hf2) | (go_at_call 113; refine HLo.out.mono ?_; intro e w9 ho; obtain ⟨v9, rfl, hp9⟩ := ho.toP2 HSt.out; have H9 := Lib.hid hp9; clear hp9 ho))
    exact HR.out _ _ H9.out
theorem coRest {b : Nat} {w : World} {F : FP} {s : RS} (h : CM b w F s) (hs : s.items.length ≤ 100000) : Calls Tryz.prog 187 #[.pointer (some ⟨b, 0, none⟩)] w (OpL (CM b) w F (restS s)) := by
  refine cph fun R HR => ?_
  have HLo := Lib.hid (coLoose h (by omega))
  obtain ⟨H, cH, M, v, hv⟩ := h
  have HH := Lib.hid (coHas hv 0)
  rw [okTh_zero hv.ok] at HH
  have e2 : restS s = sweepS s fun _ => true := by
    have hk := hv.kind
    unfold restS
    rw [if_neg (by omega), if_neg (by omega)]
  rw [e2] at HR
  clear hv e2
  go_enter Tryz.func187, Tryz.ntmps187
  go_wp2_with (first | (go_at_call 111; refine HH.out.mono ?_; rintro e w' ⟨rfl, rfl⟩) | (go_at_call 113; refine HLo.out.mono ?_; rintro e w9 ⟨v9, F', rfl, ho⟩; have H9 : Hid (OpL (CM b) w F (sweepS s fun _ => true) (.returned v9) w9) := ⟨v9, F', rfl, ho⟩; clear ho))
  exact HR.out _ _ H9.out
theorem coWaiting {b : Nat} {w : World} {F : FP} {s : RS} (h : CM b w F s) (hs : s.items.length ≤ 100000) : Calls Tryz.prog 77 #[.pointer (some ⟨b, 0, none⟩)] w (WaitP w s) := by
  refine cph fun R HR => ?_
  obtain ⟨H, cH, M, v, hv⟩ := h
  have HH := Lib.hid (coHas hv 0)
  rw [okTh_zero hv.ok] at HH
  have HC := Lib.hid (cloneI_any hv.row (by rw [addrs_len]; omega))
  have k2 := (blk_cell hv.blk 2).trans (rfl : _ = some v)
  obtain ⟨A, m, c, rfl⟩ := own_sl hv.row
  clear hv
  go_enter Tryz.func77, Tryz.ntmps77
  go_wp2_with (first | (go_at_call 111; refine HH.out.mono ?_; rintro e w' ⟨rfl, rfl⟩) | (go_at_call 88; refine HC.out.mono ?_; rintro e w' ⟨v', rfl, ho, hg⟩; have HHH := Lib.hid (And.intro ho hg); clear ho hg))
  refine HR.out _ _ ⟨v', rfl, ?_, HHH.out.2⟩
  rw [wait_ints, ← addrs_len]
  exact HHH.out.1
theorem out_holds {s : RS} (h : Ok s) (t : Nat) : (holdS0 (holdS0 (holdS0 s t 0 0) t 1 0) t 2 0).holds = (outS0 s t).holds := by
  funext i j
  unfold holdS0 outS0 upd1
  dsimp only
  by_cases e : i = t
  · subst e
    simp only [if_true]
    by_cases h2 : j = 2
    · simp [h2]
    · by_cases h1 : j = 1
      · simp [h1]
      · by_cases h0 : j = 0
        · simp [h0]
        · simp only [if_neg h2, if_neg h1, if_neg h0]
          exact h.holds i j (.inr (by omega))
  · simp only [if_neg e]
set_option maxHeartbeats 2000000 in
theorem coOut {b : Nat} {w : World} {F : FP} {s : RS} (h : CM b w F s) (hs : s.items.length ≤ 100000) (t : Int) : Calls Tryz.prog 68 #[.pointer (some ⟨b, 0, none⟩), .int .i64 t] w (OpP (CM b) w F (outS s t)) := by
  refine cph fun R HR => ?_
  have HQ := Lib.hid h
  obtain ⟨H, cH, M, v, hv⟩ := h
  have HH := Lib.hid (coHas hv t)
  cases ht : okTh s t
  · rw [ht] at HH
    have e : outS s t = ⟨s, [], 1⟩ := by simp [outS, ht]
    rw [e] at HR
    clear hv e
    go_enter Tryz.func68, Tryz.ntmps68
    go_wp2_with (go_at_call 111; refine HH.out.mono ?_; rintro e w' ⟨rfl, rfl⟩)
    exact HR.out _ _ (OpP.none HQ.out (Step.refl _ _))
  · rw [ht] at HH
    obtain ⟨t', rfl, ht'⟩ := okTh_nat ht
    have e2 : outS s (t' : Int) = ⟨(sweepS (outS0 s t') fun _ => true).st, (sweepS (outS0 s t') fun _ => true).back, 0⟩ := by simp [outS, ht, hv.kind, sweepS]
    rw [e2] at HR
    have HS0 := Lib.hid (coSet hv ht' (by omega : 0 < 3) 0 (Int.le_refl _))
    have HK := Lib.hid (And.intro hv.ok (And.intro hv.kind (hv.ok.out0 ht')))
    have hal : addrs (outS0 s t') = addrs s := by simp [addrs, outS0]
    have HAL := Lib.hid hal
    clear hv e2 ht hal
    go_enter Tryz.func68, Tryz.ntmps68
    go_wp2_with (go_at_call 111; refine HH.out.mono ?_; rintro e w' ⟨rfl, rfl⟩)
    refine wp_loop_rounds 4 ?_
    rw [rounds_succ]
    go_wp2_with (go_at_call 112; refine HS0.out.mono ?_; rintro e w1 ⟨rfl, hc1, hf1⟩; have HS1 := Lib.hid (coSet hc1 (t := t') (k := 1) ht' (by omega) 0 (Int.le_refl _)); have HF1 := Lib.hid hf1; clear hc1 hf1)
    rw [rounds_succ]
    go_wp2_with (go_at_call 112; refine HS1.out.mono ?_; rintro e w2 ⟨rfl, hc2, hf2⟩; have HS2 := Lib.hid (coSet hc2 (t := t') (k := 2) ht' (by omega) 0 (Int.le_refl _)); have HF2 := Lib.hid (HF1.out.trans hf2); clear hc2 hf2)
    rw [rounds_succ]
    go_wp2_with (go_at_call 112; refine HS2.out.mono ?_; rintro e w3 ⟨rfl, hc3, hf3⟩; have HC3 := Lib.hid (hc3.upd (s' := outS0 s t') HK.out.2.2 rfl rfl (out_holds HK.out.1 t').symm HAL.out); have HF3 : Hid (Step F w F w3) := ⟨HF2.out.trans hf3, fun k hk => .inl hk⟩; clear hc3 hf3)
    have HLo := Lib.hid (coLoose ⟨H, cH, M, v, HC3.out⟩ (by simp [outS0]; omega))
    rw [rounds_succ]
    go_wp2_with (go_at_call 113; refine HLo.out.mono ?_; intro e w9 ho; obtain ⟨v9, rfl, hp9⟩ := ho.toP2 HF3.out; have H9 := Lib.hid hp9; clear hp9 ho)
    exact HR.out _ _ H9.out
set_option maxRecDepth 100000 in
set_option maxHeartbeats 2000000 in
theorem coRetire {b : Nat} {w : World} {F : FP} {s : RS} (h : CM b w F s) (hs : s.items.length ≤ 100000) (t a : Int) : Calls Tryz.prog 70 #[.pointer (some ⟨b, 0, none⟩), .int .i64 t, .int .i64 a] w (OpP (CM b) w F (retS s t a)) := by
  refine cph fun R HR => ?_
  have HQ := Lib.hid h
  obtain ⟨H, cH, M, v, hv⟩ := h
  have HT := Lib.hid (coHas hv t)
  have HV := Lib.hid hv
  cases ht : okTh s t
  · rw [ht] at HT
    have e : retS s t a = ⟨s, [], 1⟩ := by simp [retS, ht]
    rw [e] at HR
    clear hv e
    go_enter Tryz.func70, Tryz.ntmps70
    go_wp2_with (go_at_call 111; refine HT.out.mono ?_; rintro e w' ⟨rfl, rfl⟩)
    exact HR.out _ _ (OpP.none HQ.out (Step.refl _ _))
  rw [ht] at HT
  by_cases ha : a ≤ 0
  · have e : retS s t a = ⟨s, [], 1⟩ := by simp [retS]; omega
    rw [e] at HR
    clear hv e ht
    go_enter Tryz.func70, Tryz.ntmps70
    go_wp2_with (go_at_call 111; refine HT.out.mono ?_; rintro e w' ⟨rfl, rfl⟩)
    exact HR.out _ _ (OpP.none HQ.out (Step.refl _ _))
  have ha0 : 0 < a := by omega
  have k2 := (blk_cell hv.blk 2).trans (rfl : _ = some v)
  have f2 := blk_free hv.blk 2
  have hbl := blk_lt hv.blk
  obtain ⟨A, cap, rfl, hints, _, _⟩ := ints_of_own hv.row
  have hcon := containsI_any (cap := cap) a hints (by rw [addrs_len]; omega)
  cases hw : waitsB s a
  · have e : retS s t a = ⟨(sweepS (retS0 s t a) fun _ => true).st, (sweepS (retS0 s t a) fun _ => true).back, 0⟩ := by simp [retS, ht, ha0, hw, hv.kind, sweepS]
    rw [e] at HR
    rw [waits_mem] at hw
    have hw' : decide (a ∈ addrs s) = false := hw
    rw [hw'] at hcon
    have HC := Lib.hid hcon
    have hokr := Lib.hid (hv.ok.ret0 t a ha0)
    obtain ⟨i0, hi, hz0, hz1, hz2⟩ := info_parts info3x
    have HI := Lib.hid (And.intro hi (And.intro hz0 (And.intro hz1 hz2)))
    have hal : (addrs s).length ≤ 100000 := by rw [addrs_len]; exact hs
    clear hi hz0 hz1 hz2 hv e ht hw hw' hcon hints
    go_enter Tryz.func70, Tryz.ntmps70
    go_wp2_with (first | (go_at_call 111; refine HT.out.mono ?_; rintro e w' ⟨rfl, rfl⟩) | (go_at_call 106; refine HC.out.mono ?_; rintro e w' ⟨rfl, rfl⟩) | (at_builtin; refine wpList_append_own_at _ rfl (.tmp 26) (.tmp 28) 34 rfl 0 3 i0 (.int .i64 0) 1 8 Tryz.underlying34 HI.out.1 HI.out.2.1 HI.out.2.2.1 HI.out.2.2.2 rfl (by decide) _ (addrs s).length ((addrs s).map (Value.int .i64)) rfl (HV.out.row.alloc _) ⟨w.heap.size, 0, none⟩ 1 1 [.int .i64 a] rfl rfl (cell_one_new _ _ _) (by simp [Value.oneCell']) (by unfold maxLen; omega) (by omega) (by simp) ?_; intro v1 w3 hown hgrow _ hat; obtain ⟨g, cap3, rfl⟩ := own_some hown; have hb3 : w3.heap[b]? = some (.cells #[.slice (some ⟨H, 0, none⟩) s.n cH, .map (some M), .slice A (addrs s).length cap] 132 (0, 0)) := (fr_grown hgrow).at_ (blk_alloc' _ HV.out.blk) (fun e => (HV.out.nev b e).1 rfl); have k2' := (blk_cell hb3 2).trans (rfl : _ = some (Value.slice A (addrs s).length cap)); have f2' := blk_free hb3 2; have H8 := Lib.hid (And.intro hb3 (And.intro hown (And.intro hgrow hat))); clear hb3 hown hgrow hat))
    have hnew : g = w.heap.size + 1 ∨ (Value.slice A (addrs s).length cap).ownBlock = some g := by
      rcases H8.out.2.2.2 with e | e
      · exact .inr (e.symm.trans rfl)
      · left; simpa [Value.ownBlock] using e
    have hHl : H < w.heap.size := by obtain ⟨c, hc⟩ := HV.out.hblk; exact blk_lt hc
    have hMl : M < w.heap.size := by obtain ⟨kv, hm, _⟩ := HV.out.cmap; exact hm.lt
    have hgb : g ≠ b := by
      rintro rfl
      rcases hnew with e | e
      · omega
      · exact (HV.out.nev _ e).1 rfl
    have hb4 := blk_set H8.out.1 2 (.slice (some ⟨g, 0, none⟩) ((addrs s).length + 1) cap3)
    have hgr : Fr (fun k => (Value.slice A (addrs s).length cap).ownBlock = some k) w w3 := (((Fr.refl _ w).alloc _).grown H8.out.2.2.1 (fun k e => .inr e))
    have hfb : Fr (· = b) w3 (w3.setCell ⟨b, 2, none⟩ (.slice (some ⟨g, 0, none⟩) ((addrs s).length + 1) cap3)) := (Fr.refl _ _).setCell _ _ (.inr rfl)
    have hq : CM b (w3.setCell ⟨b, 2, none⟩ (.slice (some ⟨g, 0, none⟩) ((addrs s).length + 1) cap3)) (fun k => k = b ∨ k = H ∨ k = M ∨ (Value.slice (some ⟨g, 0, none⟩) ((addrs s).length + 1) cap3).ownBlock = some k) (retS0 s t a) := by
      refine ⟨H, cH, M, _, HV.out.kind, hokr.out, hb4, ?_, ?_, ?_, fun k => Iff.rfl⟩
      · exact owns_fr (owns_fr HV.out.hrow hgr (fun j hj e => (HV.out.nev j e).2.1 (by simpa [Value.ownBlock] using hj.symm))) hfb (fun j hj e => HV.out.neH (by
          have : H = j := by simpa [Value.ownBlock] using hj
          rw [this, e]))
      · obtain ⟨kv, hm, hc⟩ := HV.out.cmap
        exact ⟨kv, (hm.fr hgr (fun e => (HV.out.nev M e).2.2 rfl)).fr hfb HV.out.neM, hc⟩
      · have h1 := owns_fr H8.out.2.1 hfb (fun j hj e => by
          have : g = j := by simpa [Value.ownBlock] using hj
          exact hgb (this.trans e))
        simpa [retS0, addrs, mkItm] using h1
    have HSt : Hid (Step F w (fun k => k = b ∨ k = H ∨ k = M ∨ (Value.slice (some ⟨g, 0, none⟩) ((addrs s).length + 1) cap3).ownBlock = some k) (w3.setCell ⟨b, 2, none⟩ (.slice (some ⟨g, 0, none⟩) ((addrs s).length + 1) cap3))) :=
      ⟨(hgr.mono (fun i _ e => (HV.out.fp i).2 (.inr (.inr (.inr e))))).trans (hfb.mono (fun i _ e => (HV.out.fp i).2 (.inl e))), fun k hk => by
        rcases hk with e | e | e | e
        · exact .inl ((HV.out.fp k).2 (.inl e))
        · exact .inl ((HV.out.fp k).2 (.inr (.inl e)))
        · exact .inl ((HV.out.fp k).2 (.inr (.inr (.inl e))))
        · have hgk : g = k := by simpa [Value.ownBlock] using e
          subst hgk
          rcases hnew with e | e
          · exact .inr (by omega)
          · exact .inl ((HV.out.fp _).2 (.inr (.inr (.inr e))))⟩
    have HLo := Lib.hid (coLoose hq (by simp [retS0]; omega))
    clear hq hgr hfb hb4
    go_wp2_with (go_at_call 113; refine HLo.out.mono ?_; intro e w9 ho; obtain ⟨v9, rfl, hp9⟩ := ho.toP2 HSt.out; have H9 := Lib.hid hp9; clear hp9 ho)
    exact HR.out _ _ H9.out
  · have e : retS s t a = ⟨s, [], 6⟩ := by simp [retS, ht, ha0, hw]
    rw [e] at HR
    rw [waits_mem] at hw
    have hw' : decide (a ∈ addrs s) = true := hw
    rw [hw'] at hcon
    have HC := Lib.hid hcon
    clear hv e ht hw hw' hcon hints
    go_enter Tryz.func70, Tryz.ntmps70
    go_wp2_with (first | (go_at_call 111; refine HT.out.mono ?_; rintro e w' ⟨rfl, rfl⟩) | (go_at_call 106; refine HC.out.mono ?_; rintro e w' ⟨rfl, rfl⟩))
    exact HR.out _ _ (OpP.none HQ.out (Step.refl _ _))
theorem mk116 (n : Nat) (h1 : 1 ≤ n) (h4 : n ≤ 4) (w : World) : (Instr.makeSlice 116 (.int .i64 n) (.int .i64 n)).run Tryz.prog w = .ok (.slice (some ⟨w.heap.size, 0, none⟩) n n) (w.alloc (.cells (Array.replicate (n * 3) (.int .i64 0)) 76)) := by
  obtain rfl | rfl | rfl | rfl : n = 1 ∨ n = 2 ∨ n = 3 ∨ n = 4 := by omega
  all_goals kernel_rfl
theorem hRows_new {k : Int} {n : Nat} (h1 : 1 ≤ n) (h4 : n ≤ 4) : (hRows (newS k n)).flatMap encH = List.replicate (n * 3) (.int .i64 0) := by
  obtain rfl | rfl | rfl | rfl : n = 1 ∨ n = 2 ∨ n = 3 ∨ n = 4 := by omega
  all_goals rfl
theorem hrow_new {w : World} {k : Int} {n : Nat} (h1 : 1 ≤ n) (h4 : n ≤ 4) : (w.alloc (.cells (Array.replicate (n * 3) (.int .i64 0)) 76)).ownsRow 0 76 3 (.slice (some ⟨w.heap.size, 0, none⟩) n n) n ((hRows (newS k n)).flatMap encH) := by
  rw [hRows_new h1 h4]
  exact ⟨by simp, .inr ⟨w.heap.size, n, _, rfl, Nat.zero_le _, blk_new w _, Nat.le_refl _, by unfold maxLen; omega, by simp, by simp⟩⟩
theorem cnH_zero {x : Int} (hx : x ≠ 0) : cnH (fun _ _ => 0) x = 0 := by
  unfold cnH
  rw [List.countP_eq_zero]
  intro i _
  simp; exact fun e => hx e.symm
set_option maxHeartbeats 1000000 in
theorem coNew (w : World) (t : Int) : Calls Tryz.prog 51 #[.int .i64 t] w (NewP CM 4 w t) := by
  refine cph fun R HR => ?_
  by_cases h1 : t < 1
  · go_enter Tryz.func51, Tryz.ntmps51
    go_wp2_with fail
    exact HR.out _ _ (NewP.no (by omega) (Grow.refl _))
  by_cases h4 : 4 < t
  · go_enter Tryz.func51, Tryz.ntmps51
    go_wp2_with fail
    exact HR.out _ _ (NewP.no (by omega) (Grow.refl _))
  obtain ⟨n, rfl⟩ := Int.eq_ofNat_of_zero_le (a := t) (by omega)
  have hmk := mk116 n (by omega) (by omega) w
  have hmm := @run_makeMap Tryz.prog
  have hr0 := hrow_new (w := w) (k := 4) (n := n) (by omega) (by omega)
  obtain ⟨w1, hw1⟩ : ∃ w1, w.alloc (.cells (Array.replicate (n * 3) (.int .i64 0)) 76) = w1 := ⟨_, rfl⟩
  have hs1 : w1.heap.size = w.heap.size + 1 := by rw [← hw1]; exact size_alloc _ _
  have hg1 : Grow w w1 := by rw [← hw1]; exact (Grow.refl _).alloc _
  rw [hw1] at hmk hr0
  have hs2 : (w1.alloc (.map #[] 0)).heap.size = w.heap.size + 2 := by rw [size_alloc, hs1]
  have HQ : Hid (CM (w.heap.size + 2) ((w1.alloc (.map #[] 0)).alloc (.cells #[.slice (some ⟨w.heap.size, 0, none⟩) n n, .map (some (w.heap.size + 1)), .slice none 0 0] 132)) (fun k => k = w.heap.size + 2 ∨ k = w.heap.size ∨ k = w.heap.size + 1 ∨ (Value.slice none 0 0).ownBlock = some k) (newS 4 n)) := by
    refine ⟨w.heap.size, n, w.heap.size + 1, .slice none 0 0, rfl, ok_new 4 (by omega) (by omega), ?_, ?_, ⟨[], ?_, ?_⟩, World.ownsRow_nil _ _ _ _, fun k => Iff.rfl⟩
    · have := blk_new (w1.alloc (.map #[] 0)) (.cells #[.slice (some ⟨w.heap.size, 0, none⟩) n n, .map (some (w.heap.size + 1)), .slice none 0 0] 132)
      rw [hs2] at this
      exact this
    · exact owns_grow hr0 (((Grow.refl _).alloc _).alloc _)
    · have := (IMap.new w1).alloc (.cells #[.slice (some ⟨w.heap.size, 0, none⟩) n n, .map (some (w.heap.size + 1)), .slice none 0 0] 132)
      rw [hs1] at this
      exact this
    · intro x hx
      rw [show cnH (newS 4 n).holds x = 0 from cnH_zero hx]
      rfl
  have HG := Lib.hid hg1
  have HW := Lib.hid hs1
  have hms := hmm 124 w1
  rw [hs1] at hms
  clear hr0 hg1 hs2 hw1
  go_enter Tryz.func51, Tryz.ntmps51
  go_wp2_with fail
  rw [HW.out] at *
  exact HR.out _ _ (NewP.yes ⟨by omega, by omega⟩ HQ.out ((HG.out.alloc _).alloc _) (fun j hj => by
    rcases hj with e | e | e | e
    · omega
    · omega
    · omega
    · simp [Value.ownBlock] at e))
end Go.Proofs.YtcgcljmnnjalpaaGreat
