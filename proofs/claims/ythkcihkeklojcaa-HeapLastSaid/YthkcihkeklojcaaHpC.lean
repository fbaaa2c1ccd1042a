/- Contracts of the heap's Store and Add. -/
import Derived.Test.YthkcihkeklojcaaHpB
set_option linter.unusedVariables false
set_option linter.unusedSimpArgs false
namespace Go.Proofs.Ythkcihkeklojcaa
open Go.RowKit Go.Kx
theorem ints_set (l : List Int) (i : Nat) (a : Int) : (ints l).setIfInBounds i (.int .i64 a) = ints (l.set i a) := by
  simp [ints, List.map_set]
theorem Good.words {s : HS} (h : Good s) {l : List Int} (hl : l.length = 1100) : Good { s with words := l } := ⟨hl, h.vl, h.c0, h.c1, h.t0, h.t1, h.nodes, h.free⟩
theorem Good.vers {s : HS} (h : Good s) {l : List Int} (hl : l.length = 1100) : Good { s with vers := l } := ⟨h.wl, hl, h.c0, h.c1, h.t0, h.t1, h.nodes, h.free⟩
theorem HeapAt.setW {w : World} {base : Nat} {q : HB} {s : HS} (h : HeapAt w base q s) (i : Nat) (a : Int) : HeapAt (w.setCell ⟨q.W, i, none⟩ (.int .i64 a)) base q { s with words := s.words.set i a } := by
  obtain ⟨n1, n2, n3, n4, n5, n6⟩ := h.apart
  refine ⟨(blk_set_other n1 _).trans h.blk, ?_, (blk_set_other (Ne.symm h.ne) _).trans h.vers, h.map.setCell n4 _, ?_, h.ne, h.lo, h.good.words (by rw [List.length_set]; exact h.good.wl)⟩
  · rw [blk_set h.words, ints_set]
  · exact owns_fr h.free (((Fr.refl (· = q.W) w).setCell ⟨q.W, i, none⟩ (.int .i64 a) (.inr rfl))) (fun k hk e => (n6 k hk).2.1 e)
theorem HeapAt.setV {w : World} {base : Nat} {q : HB} {s : HS} (h : HeapAt w base q s) (i : Nat) (a : Int) : HeapAt (w.setCell ⟨q.V, i, none⟩ (.int .i64 a)) base q { s with vers := s.vers.set i a } := by
  obtain ⟨n1, n2, n3, n4, n5, n6⟩ := h.apart
  refine ⟨(blk_set_other n2 _).trans h.blk, (blk_set_other h.ne _).trans h.words, ?_, h.map.setCell n5 _, ?_, h.ne, h.lo, h.good.vers (by rw [List.length_set]; exact h.good.vl)⟩
  · rw [blk_set h.vers, ints_set]
  · exact owns_fr h.free (((Fr.refl (· = q.V) w).setCell ⟨q.V, i, none⟩ (.int .i64 a) (.inr rfl))) (fun k hk e => (n6 k hk).2.2.1 e)
def HS.write (s : HS) (i : Nat) (word : Int) : HS := { s with words := s.words.set i word, vers := s.vers.set i (wrap64 (HS.at_ s.vers i + 1)) }
def HS.store (s : HS) (cell word : Int) : HS := if s.alive cell then s.write cell.toNat word else s
def HBpost (w : World) (base : Nat) (q : HB) (s : HS) (w' : World) : Prop := HeapAt w' base q s ∧ Fr q.set w w'
theorem store_any {w : World} {base : Nat} {q : HB} {s : HS} (h : HeapAt w base q s) (cell word : Int) (hlo : -9223372036854775808 ≤ cell) (hhi : cell ≤ 9223372036854775807) :
    Calls Try.prog 15 #[.pointer (some ⟨q.b, 0, none⟩), .int .i64 cell, .int .i64 word] w fun e w' => e = .returned (.int .i64 (s.asked cell)) ∧ HBpost w base q (s.store cell word) w' := by
  refine cph fun R HR => ?_
  have HN := Lib.hid (asked_any h cell hlo hhi)
  cases ha : s.alive cell
  · have e3 : s.asked cell = 3 := by simp [HS.asked, ha]
    have es : s.store cell word = s := by simp [HS.store, ha]
    rw [es] at HR
    rw [e3] at HN HR
    have HH := Lib.hid h
    clear h es
    go_enter Try.func15, Try.ntmps15
    go_wp2_with (go_at_call 29; refine HN.out.mono ?_; rintro e w' ⟨rfl, rfl⟩)
    exact HR.out _ _ ⟨rfl, HH.out, Fr.refl _ _⟩
  · have e3 : s.asked cell = 0 := by simp [HS.asked, ha]
    rw [e3] at HN HR
    obtain ⟨b0, b1⟩ := alive_lt h.good ha
    obtain ⟨n, rfl⟩ := Int.eq_ofNat_of_zero_le b0
    have es : s.store n word = s.write n word := by simp [HS.store, ha]
    rw [es] at HR
    have HH := Lib.hid h
    have hc := h.word (i := n) (by omega)
    have hv := h.ver (i := n) (by omega)
    have f1 := blk_free h.words n
    have f2 := blk_free h.vers n
    have hne := h.ne
    have hne' := Ne.symm h.ne
    obtain ⟨n1, n2, n3, n4, n5, n6⟩ := h.apart
    obtain ⟨c0, c1, _, _, _, _⟩ := h.cell
    clear h es n3 n4 n5 n6
    go_enter Try.func15, Try.ntmps15
    go_wp2_with (go_at_call 29; refine HN.out.mono ?_; rintro e w' ⟨rfl, rfl⟩)
    refine HR.out _ _ ⟨rfl, (HH.out.setW n word).setV n _, ?_⟩
    exact ((Fr.refl q.set w).setCell ⟨q.W, n, none⟩ _ (.inr (.inr (.inl rfl)))).setCell ⟨q.V, n, none⟩ _ (.inr (.inr (.inr (.inl rfl))))
theorem add_any {w : World} {base : Nat} {q : HB} {s : HS} (h : HeapAt w base q s) (cell word : Int) (hlo : -9223372036854775808 ≤ cell) (hhi : cell ≤ 9223372036854775807) :
    Calls Try.prog 14 #[.pointer (some ⟨q.b, 0, none⟩), .int .i64 cell, .int .i64 word] w fun e w' => e = .returned (.tuple #[.int .i64 (if s.alive cell then HS.at_ s.words cell else 0), .int .i64 (s.asked cell)]) ∧
      HBpost w base q (s.store cell (wrap64 (HS.at_ s.words cell + word))) w' := by
  refine cph fun R HR => ?_
  have HN := Lib.hid (load_any h cell hlo hhi)
  cases ha : s.alive cell
  · have e3 : s.asked cell = 3 := by simp [HS.asked, ha]
    have es : s.store cell (wrap64 (HS.at_ s.words cell + word)) = s := by simp [HS.store, ha]
    rw [es, ha] at HR
    rw [ha] at HN
    rw [e3] at HN HR
    have HH := Lib.hid h
    clear h es
    go_enter Try.func14, Try.ntmps14
    go_wp2_with (go_at_call 13; refine HN.out.mono ?_; rintro e w' ⟨rfl, rfl⟩)
    exact HR.out _ _ ⟨rfl, HH.out, Fr.refl _ _⟩
  · have e3 : s.asked cell = 0 := by simp [HS.asked, ha]
    rw [ha] at HR HN
    rw [e3] at HN HR
    have HS' := fun x => Lib.hid (store_any h cell x hlo hhi)
    clear h
    go_enter Try.func14, Try.ntmps14
    go_wp2_with (first | (go_at_call 13; refine HN.out.mono ?_; rintro e w' ⟨rfl, rfl⟩) | (go_at_call 15; refine (HS' _).out.mono ?_))
    rintro e w1 ⟨rfl, hp⟩
    have HP := Lib.hid hp
    clear hp
    go_wp2_with fail
    exact HR.out _ _ ⟨rfl, HP.out⟩
end Go.Proofs.Ythkcihkeklojcaa
