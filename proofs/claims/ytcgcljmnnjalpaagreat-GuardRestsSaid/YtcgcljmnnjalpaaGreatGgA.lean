/- The guard around any manager: its functions, as its manager's. -/
import Derived.Test.YtcgcljmnnjalpaaGreatGfP
import Derived.Test.YtcgcljmnnjalpaaGreatGdD
set_option linter.unusedVariables false
set_option linter.unusedSimpArgs false
namespace Go.Proofs.YtcgcljmnnjalpaaGreat
open Go.RowKit Go.Kx
open Go.ChangeMaps (setBlock)
/-- A guard at block G, its manager at block b. -/
def GBlk (w : World) (G : Nat) (k : Int) (TY : TypeId) (b : Nat) : Prop := w.heap[G]? = some (.cells #[.int .i64 k, .iface TY (.pointer (some ⟨b, 0, none⟩))] 66 (0, 0))
theorem gdThere {w : World} {G b : Nat} {k : Int} {TY : TypeId} (h : GBlk w G k TY b) : Calls Tryz.prog 79 #[.pointer (some ⟨G, 0, none⟩)] w fun e w' => e = .returned (.bool true) ∧ w = w' := by
  refine cph fun R HR => ?_
  have k1 := (blk_cell h 1).trans (rfl : _ = some (Value.iface TY (.pointer (some ⟨b, 0, none⟩))))
  clear h
  go_enter Tryz.func79, Tryz.ntmps79
  go_wp2_with fail
  exact HR.out _ _ ⟨rfl, rfl⟩
def IsPair (Q : Ending → World → Prop) : Prop := ∀ e w', Q e w' → ∃ v z, e = .returned (.tuple #[v, z])
def IsOne (Q : Ending → World → Prop) : Prop := ∀ e w', Q e w' → ∃ v, e = .returned v
section
variable {w : World} {G b f : Nat} {k : Int} {TY : TypeId} {Q : Ending → World → Prop}
set_option maxHeartbeats 1000000
theorem gdIn (h : GBlk w G k TY b) (hm : ∀ w p, Sem.run Tryz.prog (method 299 TY (.pointer (some p)) "In") w = .ok (f, .pointer (some p)) w) (eg : ∀ args w, (callFunc f args).run Tryz.prog w = .ok (.enter f args) w) (t : Int)
    (hc : Calls Tryz.prog f #[.pointer (some ⟨b, 0, none⟩), .int .i64 t] w Q) (hq : IsPair Q) : Calls Tryz.prog 23 #[.pointer (some ⟨G, 0, none⟩), .int .i64 t] w Q := by
  refine cph fun R HR => ?_
  have k1 := (blk_cell h 1).trans (rfl : _ = some (Value.iface TY (.pointer (some ⟨b, 0, none⟩))))
  have HT := Lib.hid (gdThere h)
  have HC := Lib.hid hc
  have HQ := Lib.hid hq
  clear h hc hq
  go_enter Tryz.func23, Tryz.ntmps23
  go_wp2_with (first | (go_at_call 79; refine HT.out.mono ?_; rintro e w' ⟨rfl, rfl⟩) | (go_at_fn f; refine HC.out.mono ?_; intro e w1 h1; obtain ⟨v, z, rfl⟩ := HQ.out _ _ h1; have H1 := Lib.hid h1; clear h1))
  exact HR.out _ _ H1.out
theorem gdOut (h : GBlk w G k TY b) (hm : ∀ w p, Sem.run Tryz.prog (method 299 TY (.pointer (some p)) "Out") w = .ok (f, .pointer (some p)) w) (eg : ∀ args w, (callFunc f args).run Tryz.prog w = .ok (.enter f args) w) (t : Int)
    (hc : Calls Tryz.prog f #[.pointer (some ⟨b, 0, none⟩), .int .i64 t] w Q) (hq : IsPair Q) : Calls Tryz.prog 26 #[.pointer (some ⟨G, 0, none⟩), .int .i64 t] w Q := by
  refine cph fun R HR => ?_
  have k1 := (blk_cell h 1).trans (rfl : _ = some (Value.iface TY (.pointer (some ⟨b, 0, none⟩))))
  have HT := Lib.hid (gdThere h)
  have HC := Lib.hid hc
  have HQ := Lib.hid hq
  clear h hc hq
  go_enter Tryz.func26, Tryz.ntmps26
  go_wp2_with (first | (go_at_call 79; refine HT.out.mono ?_; rintro e w' ⟨rfl, rfl⟩) | (go_at_fn f; refine HC.out.mono ?_; intro e w1 h1; obtain ⟨v, z, rfl⟩ := HQ.out _ _ h1; have H1 := Lib.hid h1; clear h1))
  exact HR.out _ _ H1.out
theorem gdHold (h : GBlk w G k TY b) (hm : ∀ w p, Sem.run Tryz.prog (method 299 TY (.pointer (some p)) "Hold") w = .ok (f, .pointer (some p)) w) (eg : ∀ args w, (callFunc f args).run Tryz.prog w = .ok (.enter f args) w) (t : Int) (h' : Int) (a : Int)
    (hc : Calls Tryz.prog f #[.pointer (some ⟨b, 0, none⟩), .int .i64 t, .int .i64 h', .int .i64 a] w Q) (hq : IsPair Q) : Calls Tryz.prog 25 #[.pointer (some ⟨G, 0, none⟩), .int .i64 t, .int .i64 h', .int .i64 a] w Q := by
  refine cph fun R HR => ?_
  have k1 := (blk_cell h 1).trans (rfl : _ = some (Value.iface TY (.pointer (some ⟨b, 0, none⟩))))
  have HT := Lib.hid (gdThere h)
  have HC := Lib.hid hc
  have HQ := Lib.hid hq
  clear h hc hq
  go_enter Tryz.func25, Tryz.ntmps25
  go_wp2_with (first | (go_at_call 79; refine HT.out.mono ?_; rintro e w' ⟨rfl, rfl⟩) | (go_at_fn f; refine HC.out.mono ?_; intro e w1 h1; obtain ⟨v, z, rfl⟩ := HQ.out _ _ h1; have H1 := Lib.hid h1; clear h1))
  exact HR.out _ _ H1.out
theorem gdBorn (h : GBlk w G k TY b) (hm : ∀ w p, Sem.run Tryz.prog (method 299 TY (.pointer (some p)) "Born") w = .ok (f, .pointer (some p)) w) (eg : ∀ args w, (callFunc f args).run Tryz.prog w = .ok (.enter f args) w) (a : Int)
    (hc : Calls Tryz.prog f #[.pointer (some ⟨b, 0, none⟩), .int .i64 a] w Q) (hq : IsOne Q) : Calls Tryz.prog 37 #[.pointer (some ⟨G, 0, none⟩), .int .i64 a] w Q := by
  refine cph fun R HR => ?_
  have k1 := (blk_cell h 1).trans (rfl : _ = some (Value.iface TY (.pointer (some ⟨b, 0, none⟩))))
  have HT := Lib.hid (gdThere h)
  have HC := Lib.hid hc
  have HQ := Lib.hid hq
  clear h hc hq
  go_enter Tryz.func37, Tryz.ntmps37
  go_wp2_with (first | (go_at_call 79; refine HT.out.mono ?_; rintro e w' ⟨rfl, rfl⟩) | (go_at_fn f; refine HC.out.mono ?_; intro e w1 h1; obtain ⟨v, rfl⟩ := HQ.out _ _ h1; have H1 := Lib.hid h1; clear h1))
  exact HR.out _ _ H1.out
theorem gdRetire (h : GBlk w G k TY b) (hm : ∀ w p, Sem.run Tryz.prog (method 299 TY (.pointer (some p)) "Retire") w = .ok (f, .pointer (some p)) w) (eg : ∀ args w, (callFunc f args).run Tryz.prog w = .ok (.enter f args) w) (t : Int) (a : Int)
    (hc : Calls Tryz.prog f #[.pointer (some ⟨b, 0, none⟩), .int .i64 t, .int .i64 a] w Q) (hq : IsPair Q) : Calls Tryz.prog 38 #[.pointer (some ⟨G, 0, none⟩), .int .i64 t, .int .i64 a] w Q := by
  refine cph fun R HR => ?_
  have k1 := (blk_cell h 1).trans (rfl : _ = some (Value.iface TY (.pointer (some ⟨b, 0, none⟩))))
  have HT := Lib.hid (gdThere h)
  have HC := Lib.hid hc
  have HQ := Lib.hid hq
  clear h hc hq
  go_enter Tryz.func38, Tryz.ntmps38
  go_wp2_with (first | (go_at_call 79; refine HT.out.mono ?_; rintro e w' ⟨rfl, rfl⟩) | (go_at_fn f; refine HC.out.mono ?_; intro e w1 h1; obtain ⟨v, z, rfl⟩ := HQ.out _ _ h1; have H1 := Lib.hid h1; clear h1))
  exact HR.out _ _ H1.out
theorem gdRest (h : GBlk w G k TY b) (hm : ∀ w p, Sem.run Tryz.prog (method 299 TY (.pointer (some p)) "Rest") w = .ok (f, .pointer (some p)) w) (eg : ∀ args w, (callFunc f args).run Tryz.prog w = .ok (.enter f args) w)
    (hc : Calls Tryz.prog f #[.pointer (some ⟨b, 0, none⟩)] w Q) (hq : IsOne Q) : Calls Tryz.prog 27 #[.pointer (some ⟨G, 0, none⟩)] w Q := by
  refine cph fun R HR => ?_
  have k1 := (blk_cell h 1).trans (rfl : _ = some (Value.iface TY (.pointer (some ⟨b, 0, none⟩))))
  have HT := Lib.hid (gdThere h)
  have HC := Lib.hid hc
  have HQ := Lib.hid hq
  clear h hc hq
  go_enter Tryz.func27, Tryz.ntmps27
  go_wp2_with (first | (go_at_call 79; refine HT.out.mono ?_; rintro e w' ⟨rfl, rfl⟩) | (go_at_fn f; refine HC.out.mono ?_; intro e w1 h1; obtain ⟨v, rfl⟩ := HQ.out _ _ h1; have H1 := Lib.hid h1; clear h1))
  exact HR.out _ _ H1.out
theorem gdWaiting (h : GBlk w G k TY b) (hm : ∀ w p, Sem.run Tryz.prog (method 299 TY (.pointer (some p)) "Waiting") w = .ok (f, .pointer (some p)) w) (eg : ∀ args w, (callFunc f args).run Tryz.prog w = .ok (.enter f args) w)
    (hc : Calls Tryz.prog f #[.pointer (some ⟨b, 0, none⟩)] w Q) (hq : IsOne Q) : Calls Tryz.prog 21 #[.pointer (some ⟨G, 0, none⟩)] w Q := by
  refine cph fun R HR => ?_
  have k1 := (blk_cell h 1).trans (rfl : _ = some (Value.iface TY (.pointer (some ⟨b, 0, none⟩))))
  have HT := Lib.hid (gdThere h)
  have HC := Lib.hid hc
  have HQ := Lib.hid hq
  clear h hc hq
  go_enter Tryz.func21, Tryz.ntmps21
  go_wp2_with (first | (go_at_call 79; refine HT.out.mono ?_; rintro e w' ⟨rfl, rfl⟩) | (go_at_fn f; refine HC.out.mono ?_; intro e w1 h1; obtain ⟨v, rfl⟩ := HQ.out _ _ h1; have H1 := Lib.hid h1; clear h1))
  exact HR.out _ _ H1.out
theorem gdKind (h : GBlk w G k TY b) : Calls Tryz.prog 31 #[.pointer (some ⟨G, 0, none⟩)] w fun e w' => e = .returned (.int .i64 k) ∧ w = w' := by
  refine cph fun R HR => ?_
  have k0 := (blk_cell h 0).trans (rfl : _ = some (Value.int .i64 k))
  have HT := Lib.hid (gdThere h)
  clear h
  go_enter Tryz.func31, Tryz.ntmps31
  go_wp2_with (go_at_call 79; refine HT.out.mono ?_; rintro e w' ⟨rfl, rfl⟩)
  exact HR.out _ _ ⟨rfl, rfl⟩
end
end Go.Proofs.YtcgcljmnnjalpaaGreat
