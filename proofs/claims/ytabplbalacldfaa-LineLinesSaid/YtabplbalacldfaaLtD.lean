/- slices.Compact at accesses: what stays has the same elements. -/
import Derived.Test.YtabplbalacldfaaLtB2
import Derived.Test.YtabplbalacldfaaLSame
import Derived.Lib.SliceRun
import Derived.BigQuiet
import Derived.Deep.QuietTactic
set_option linter.unusedVariables false
set_option linter.unusedSimpArgs false
namespace Go.Proofs.Ytabplbalacldfaa
open Go.RowKit Go.Kx
theorem own_cell3 {w : World} {base g n cap : Nat} {c : List A3} (h : w.ownsRow base 24 3 (.slice (some ⟨g, 0, none⟩) n cap) n (accCells c)) {k : Nat} (hk : k < c.length) {o : Nat} (ho : o = k * 3) :
    w.cell? ⟨g, o, none⟩ = some (.int .i64 c[k].1) ∧ w.cell? ⟨g, o + 1, none⟩ = some (.int .i64 c[k].2.1) ∧ w.cell? ⟨g, o + 2, none⟩ = some (.int .i64 c[k].2.2) := by
  subst ho
  rcases h.2 with ⟨e, _⟩ | ⟨g2, c3, cur, e, hb1, hb2, hb3, hb4, hb5, hb6⟩
  · cases e
  · cases e
    have hl := h.1
    rw [accCells_length] at hl
    obtain ⟨q0, q1, q2⟩ := accCells_get c k c[k] (List.getElem?_eq_getElem hk)
    rw [← hb6] at q0 q1 q2
    rw [List.getElem?_take_of_lt (by omega), Array.getElem?_toList] at q0 q1 q2
    exact ⟨(blk_cell hb2 _).trans q0, (blk_cell hb2 _).trans q1, (blk_cell hb2 _).trans q2⟩
theorem accCells_set3 : ∀ (c : List A3) (k : Nat) (x : A3), k < c.length → (((accCells c).set (k * 3) (.int .i64 x.1)).set (k * 3 + 1) (.int .i64 x.2.1)).set (k * 3 + 2) (.int .i64 x.2.2) = accCells (c.set k x)
  | [], _, _, h => by simp at h
  | y :: c, 0, x, _ => by simp [accCells]
  | y :: c, k + 1, x, h => by
    have e : ∀ q : List A3, accCells (y :: q) = .int .i64 y.1 :: .int .i64 y.2.1 :: .int .i64 y.2.2 :: accCells q := fun q => by simp [accCells]
    have ih := accCells_set3 c k x (by simpa using h)
    rw [List.set_cons_succ, e, e, ← ih, show (k + 1) * 3 = k * 3 + 1 + 1 + 1 by omega, show k * 3 + 1 + 1 + 1 + 1 = k * 3 + 1 + 1 + 1 + 1 by rfl, show k * 3 + 1 + 1 + 1 + 2 = k * 3 + 2 + 1 + 1 + 1 by omega]
    rfl
/-- The row while Compact goes on. -/
structure CmS (w wr : World) (base g cap : Nat) (l c : List A3) : Prop where
  own : wr.ownsRow base 24 3 (.slice (some ⟨g, 0, none⟩) l.length cap) l.length (accCells c)
  fr : Fr (fun k => k = g) w wr
  len : c.length = l.length
theorem CmS.drewN {w wr : World} {base g cap : Nat} {l c : List A3} (h : CmS w wr base g cap l c) (q : Nat) : CmS w (wr.drewN q) base g cap l c := ⟨h.own, h.fr.drewN q, h.len⟩
theorem CmS.set {w wr : World} {base g cap : Nat} {l c : List A3} (h : CmS w wr base g cap l c) {k : Nat} (hk : k < l.length) (x : A3) :
    CmS w (((wr.setCell ⟨g, k * 3, none⟩ (.int .i64 x.1)).setCell ⟨g, k * 3 + 1, none⟩ (.int .i64 x.2.1)).setCell ⟨g, k * 3 + 2, none⟩ (.int .i64 x.2.2)) base g cap l (c.set k x) := by
  refine ⟨?_, ((h.fr.setCell _ _ (.inr rfl)).setCell _ _ (.inr rfl)).setCell _ _ (.inr rfl), by simp [h.len]⟩
  rw [← accCells_set3 c k x (by rw [h.len]; exact hk)]
  exact ((((h.own.stored (k * 3) _).1).stored (k * 3 + 1) _).1.stored (k * 3 + 2) _).1
/-- What Compact leaves. -/
def CompP (w : World) (g : Nat) (l : List A3) (e : Ending) (w' : World) : Prop :=
  ∃ (m : List A3) (c : Nat), e = .returned (.slice (some ⟨g, 0, none⟩) m.length c) ∧ (∀ x, x ∈ m ↔ x ∈ l) ∧ m.length ≤ l.length ∧ m.length ≤ c ∧ Acc w' (some ⟨g, 0, none⟩) m ∧ Fr (fun k => k = g) w w'
theorem acc_take {w : World} {base g n cap : Nat} {c : List A3} (h : w.ownsRow base 24 3 (.slice (some ⟨g, 0, none⟩) n cap) n (accCells c)) (k : Nat) : AccAt w g 0 (c.take k) := by
  intro i x hx
  obtain ⟨hi, rfl⟩ := List.getElem?_eq_some_iff.1 hx
  rw [List.length_take] at hi
  rw [List.getElem_take]
  rw [Nat.zero_add]
  exact own_cell3 h (by omega) rfl
theorem run_clear3 (w : World) (ty : TypeId) (b o n c : Nat) (hn : 0 < n) (hc : ∀ j, j < n * 3 → (w.cell? ⟨b, o + j, none⟩).isSome = true) (hf : ∀ j, j < n * 3 → w.frozen? ⟨b, o + j, none⟩ = false) :
    (Builtin.clear_ #[22] ty #[.slice (some ⟨b, o, none⟩) n c]).run Try.prog w = .ok (.tuple #[]) (w.setCells b o (Builtin.zeroCells #[.int .i64 0, .int .i64 0, .int .i64 0] n).toList) := by
  have hlen : (Builtin.zeroCells #[Value.int .i64 0, .int .i64 0, .int .i64 0] n).toList.length = n * 3 := by simp [Builtin.zeroCells]
  have hz : (Value.agg #[.int .i64 0, .int .i64 0, .int .i64 0]).cells = #[.int .i64 0, .int .i64 0, .int .i64 0] := by rfl
  have hst := run_storeCells_cells (P := Try.prog) b o (Builtin.zeroCells #[Value.int .i64 0, .int .i64 0, .int .i64 0] n).toList 0 w (by rw [hlen]; simpa using hc) (by rw [hlen]; simpa using hf) (by
    intro v hv
    simp [Builtin.zeroCells] at hv
    obtain ⟨i, _, rfl⟩ := hv
    have : i % 3 = 0 ∨ i % 3 = 1 ∨ i % 3 = 2 := by omega
    rcases this with h | h | h <;> simp [h, Value.oneCell'])
  simp only [Nat.add_zero] at hst
  obtain ⟨m, rfl⟩ : ∃ m, n = m + 1 := ⟨n - 1, by omega⟩
  simp [Builtin.clear_, run_underlying Try.underlying22, Try.zeroValue24, hz, hst]
theorem fr_setCells {S : Nat → Prop} {g : Nat} (hg : S g) : ∀ (vs : List Value) (o : Nat) (a w : World), Fr S a w → Fr S a (w.setCells g o vs)
  | [], _, _, _, h => h
  | v :: r, o, a, w, h => fr_setCells hg r (o + 1) a _ (h.setCell ⟨g, o, none⟩ v (.inr hg))
/-- One more element looked at: the same sets. -/
theorem take_mem {l : List A3} {k : Nat} (hk : k < l.length) (x : A3) : x ∈ l.take (k + 1) ↔ x ∈ l.take k ∨ x = l[k] := by
  rw [List.take_succ_eq_append_getElem hk, List.mem_append, List.mem_singleton]
theorem set_take_mem {c : List A3} {k : Nat} (hk : k < c.length) (y x : A3) : x ∈ (c.set k y).take (k + 1) ↔ x ∈ c.take k ∨ x = y := by
  rw [List.take_succ_eq_append_getElem (by simpa using hk), List.mem_append, List.mem_singleton]
  simp [List.take_set_of_le]
set_option maxRecDepth 100000 in
set_option maxHeartbeats 4000000 in
theorem compact3 {w : World} {base g cap : Nat} {l : List A3} (hown : w.ownsRow base 24 3 (.slice (some ⟨g, 0, none⟩) l.length cap) l.length (accCells l)) (hn : l.length ≤ 1000) :
    Calls Try.prog 41 #[.slice (some ⟨g, 0, none⟩) l.length cap] w (CompP w g l) := by
  refine cph fun R HR => ?_
  have hcap : l.length ≤ cap := by
    rcases hown.2 with ⟨e, _⟩ | ⟨g2, c3, cur, e, hb1, hb2, hb3, hb4, _⟩
    · cases e
    · cases e; exact hb3
  have H0 : Hid (CmS w w base g cap l l) := ⟨hown, Fr.refl _ _, rfl⟩
  clear hown
  have HE : Hid (∀ wr, CmS w wr base g cap l l → CompP w g l (.returned (.slice (some ⟨g, 0, none⟩) l.length cap)) wr) := fun wr h =>
    ⟨l, cap, rfl, fun _ => Iff.rfl, Nat.le_refl _, hcap, .inr ⟨g, 0, rfl, by simpa using acc_take h.own l.length⟩, h.fr⟩
  by_cases h2 : l.length < 2
  · have h2i : (l.length : Int) < 2 := by omega
    go_enter Try.func41, Try.ntmps41
    go_wp2_with fail
    exact HR.out _ _ (HE.out _ H0.out)
  · have h2i : ¬ (l.length : Int) < 2 := by omega
    go_enter Try.func41, Try.ntmps41
    go_wp2_with fail
    go_loopw [3] (fun i wr => ∃ k : Nat, k < l.length ∧ i = .int .i64 ((k : Int) + 1) ∧ Hid (CmS w wr base g cap l l)) (fun i _ => l.length + 1 - (intOf i).toNat)
    case atStart => exact ⟨0, by omega, rfl, H0.out⟩
    case round =>
      obtain ⟨k, hk, rfl, HS⟩ := hrel
      by_cases hlt : k + 1 < l.length
      · have hki : ((k : Int) + 1) < (l.length : Int) := by omega
        obtain ⟨c0, c1, c2⟩ := own_cell3 HS.out.own (k := k + 1) hlt rfl
        obtain ⟨d0, d1, d2⟩ := own_cell3 HS.out.own (k := k) (by omega) rfl
        go_wp2_with fail
        go_quiet (fail)
        cases hq : (l[k + 1].1 == l[k].1 && l[k + 1].2.1 == l[k].2.1 && l[k + 1].2.2 == l[k].2.2)
        · go_wp2_with fail
          go_roundw
          case rel => exact ⟨k + 1, hlt, by go_num, HS.out.drewN _⟩
          case measure => simp [intOf] <;> omega
        · have he : l[k + 1] = l[k] := by
            simp only [Bool.and_eq_true, beq_iff_eq] at hq
            exact Prod.ext hq.1.1 (Prod.ext hq.1.2 hq.2)
          have HM : Hid (∀ x, x ∈ l.take (k + 1) ↔ x ∈ l.take (k + 1 + 0 + 1)) := fun x => by
            rw [Nat.add_zero, take_mem hlt, he]
            exact ⟨fun h => .inl h, fun h => h.elim id (fun e => by rw [e, take_mem (by omega)]; exact .inr rfl)⟩
          clear he c0 c1 c2 d0 d1 d2
          go_wp2_with fail
          go_loopw [3, 5] (fun a b wr => ∃ (i q : Nat) (c : List A3), a = .int .i64 i ∧ b = .int .i64 ((q : Int) + 1) ∧ i ≤ k + 1 + q ∧ k + 1 ≤ i ∧ k + 1 + q + 1 ≤ l.length ∧ Hid (CmS w wr base g cap l c ∧ (∀ j, k + 1 + q ≤ j → c[j]? = l[j]?) ∧ ∀ x, x ∈ c.take i ↔ x ∈ l.take (k + 1 + q + 1))) (fun _ b _ => l.length + 1 - (intOf b).toNat)
          case atStart => exact ⟨k + 1, 0, l, by go_num, rfl, by omega, by omega, by omega, HS.out.drewN _, fun _ _ => rfl, HM.out⟩
          case round =>
            obtain ⟨i, q, c, rfl, rfl, hi, hki2, hq2, HC⟩ := hrel
            by_cases hl2 : k + 1 + q + 1 < l.length
            · have hli : ((q : Int) + 1) < ((l.length - (k + 1) : Nat) : Int) := by omega
              have hcl := HC.out.1.len
              have e1 : (k + 1) * 3 + (q + 1) * 3 = (k + 1 + q + 1) * 3 := by omega
              have e0 : (k + 1) * 3 + q * 3 = (k + 1 + q) * 3 := by omega
              obtain ⟨c0, c1, c2⟩ := own_cell3 HC.out.1.own (k := k + 1 + q + 1) (by omega) e1
              obtain ⟨d0, d1, d2⟩ := own_cell3 HC.out.1.own (k := k + 1 + q) (by omega) e0
              have f0 := HC.out.1.own.frozenAt (i * 3)
              have f1 := HC.out.1.own.frozenAt (i * 3 + 1)
              have f2 := HC.out.1.own.frozenAt (i * 3 + 2)
              obtain ⟨g0, g1, g2⟩ := own_cell3 HC.out.1.own (k := i) (by omega) rfl
              have hx1 : c[k + 1 + q + 1]'(by omega) = l[k + 1 + q + 1] := by
                have := HC.out.2.1 (k + 1 + q + 1) (by omega)
                rwa [List.getElem?_eq_getElem (by omega), List.getElem?_eq_getElem hl2, Option.some.injEq] at this
              have hx0 : c[k + 1 + q]'(by omega) = l[k + 1 + q]'(by omega) := by
                have := HC.out.2.1 (k + 1 + q) (by omega)
                rwa [List.getElem?_eq_getElem (by omega), List.getElem?_eq_getElem (by omega), Option.some.injEq] at this
              rw [hx1] at c0 c1 c2
              rw [hx0] at d0 d1 d2
              have HY : Hid (l[k + 1 + q + 1] = l[k + 1 + q]'(by omega) → ∀ x, x ∈ c.take i ↔ x ∈ l.take (k + 1 + (q + 1) + 1)) := fun he x => by
                rw [show k + 1 + (q + 1) + 1 = k + 1 + q + 1 + 1 by omega, take_mem hl2, he, HC.out.2.2 x]
                exact ⟨fun h => .inl h, fun h => h.elim id (fun e => by rw [e, take_mem (by omega)]; exact .inr rfl)⟩
              have HZ : Hid (∀ t : Nat, CmS w ((((wr.drewN t).setCell ⟨g, i * 3, none⟩ (.int .i64 l[k + 1 + q + 1].1)).setCell ⟨g, i * 3 + 1, none⟩ (.int .i64 l[k + 1 + q + 1].2.1)).setCell ⟨g, i * 3 + 2, none⟩ (.int .i64 l[k + 1 + q + 1].2.2)) base g cap l (c.set i l[k + 1 + q + 1]) ∧ (∀ j, k + 1 + (q + 1) ≤ j → (c.set i l[k + 1 + q + 1])[j]? = l[j]?) ∧ ∀ x, x ∈ (c.set i l[k + 1 + q + 1]).take (i + 1) ↔ x ∈ l.take (k + 1 + (q + 1) + 1)) := fun t =>
                ⟨(HC.out.1.drewN t).set (by omega) _, fun j hj => by rw [List.getElem?_set_ne (by omega)]; exact HC.out.2.1 j (by omega), fun x => by
                  rw [set_take_mem (by omega), show k + 1 + (q + 1) + 1 = k + 1 + q + 1 + 1 by omega, take_mem hl2, HC.out.2.2 x]⟩
              have hii : (i : Int) < (l.length : Int) := by omega
              clear hx1 hx0 e1 e0
              generalize hX : l[k + 1 + q + 1] = X at c0 c1 c2 HY HZ
              generalize hV : l[k + 1 + q]'(by omega) = V at d0 d1 d2 HY
              clear hX hV
              go_wp2_with fail
              go_quiet (fail)
              cases hq : (!X.1 == V.1 || !X.2.1 == V.2.1 || !X.2.2 == V.2.2)
              · have he : X = V := by
                  simp only [Bool.or_eq_false_iff, Bool.not_eq_false', beq_iff_eq] at hq
                  exact Prod.ext hq.1.1 (Prod.ext hq.1.2 hq.2)
                have HF := Lib.hid (HY.out he)
                clear he
                go_wp2_with fail
                go_roundw
                case rel => exact ⟨i, q + 1, c, rfl, by go_num, by omega, by omega, by omega, HC.out.1.drewN _, fun j hj => HC.out.2.1 j (by omega), HF.out⟩
                case measure => simp [intOf] <;> omega
              · go_wp2_with fail
                go_roundw
                case rel => exact ⟨i + 1, q + 1, _, by go_num, by go_num, by omega, by omega, by omega, HZ.out _⟩
                case measure => simp [intOf] <;> omega
            · have hli : ¬ ((q : Int) + 1) < ((l.length - (k + 1) : Nat) : Int) := by omega
              have hcl := HC.out.1.len
              have hcl3 : ∀ ty, (Builtin.clear_ #[22] ty #[.slice (some ⟨g, i * 3, none⟩) (l.length - i) (cap - i)]).run Try.prog wr = .ok (.tuple #[]) (wr.setCells g (i * 3) (Builtin.zeroCells #[.int .i64 0, .int .i64 0, .int .i64 0] (l.length - i)).toList) :=
                fun ty => run_clear3 wr ty g (i * 3) (l.length - i) (cap - i) (by omega) (fun j hj => by
                  have hj3 : (i * 3 + j) / 3 < c.length := by omega
                  obtain ⟨q0, q1, q2⟩ := own_cell3 HC.out.1.own (k := (i * 3 + j) / 3) hj3 rfl
                  have : i * 3 + j = (i * 3 + j) / 3 * 3 ∨ i * 3 + j = (i * 3 + j) / 3 * 3 + 1 ∨ i * 3 + j = (i * 3 + j) / 3 * 3 + 2 := by omega
                  rcases this with h | h | h <;> rw [h] <;> simp [q0, q1, q2]) (fun j hj => HC.out.1.own.frozenAt (i * 3 + j))
              have HF : Hid (CompP w g l (.returned (.slice (some ⟨g, 0, none⟩) i cap)) (wr.setCells g (i * 3) (Builtin.zeroCells #[.int .i64 0, .int .i64 0, .int .i64 0] (l.length - i)).toList)) := by
                have hlen : (c.take i).length = i := by rw [List.length_take]; omega
                refine ⟨c.take i, cap, by rw [hlen], fun x => ?_, by rw [hlen]; omega, by rw [hlen]; omega, .inr ⟨g, 0, rfl, fun t x hx => ?_⟩, fr_setCells (S := fun k => k = g) rfl _ _ _ _ HC.out.1.fr⟩
                · have := HC.out.2.2 x
                  rwa [List.take_of_length_le (l := l) (by omega)] at this
                · have ht : t < i := by have := (List.getElem?_eq_some_iff.1 hx).1; omega
                  obtain ⟨q0, q1, q2⟩ := acc_take HC.out.1.own i t x hx
                  refine ⟨?_, ?_, ?_⟩ <;> (rw [World.cell?_setCells_out]; assumption; intro _ _; left; dsimp only; omega)
              have hii : (i : Int) ≤ (cap : Int) := by omega
              have hii2 : (i : Int) ≤ (l.length : Int) := by omega
              go_wp2_with fail
              exact HR.out _ _ HF.out
      · have hki : ¬ ((k : Int) + 1) < (l.length : Int) := by omega
        go_wp2_with fail
        exact HR.out _ _ (HE.out _ HS.out)
end Go.Proofs.Ytabplbalacldfaa
