/- The guard around any manager: its functions, as its manager's. The guard of any kind in memory, and what its functions leave (printed by wip/gen/mkggb.py). guard.New of every kind (printed by wip/gen/mkggc.py). -/
import Derived.Test.YtcgcljmnnjalpaaGreatGxI
import Derived.Test.YtcgcljmnnjalpaaGreatGxA
set_option linter.unusedVariables false
set_option linter.unusedSimpArgs false
namespace Go.Proofs.YtcgcljmnnjalpaaGreat
open Go.RowKit Go.Kx
open Go.ChangeMaps (setBlock)
/-- A guard at block G, its manager at block b. -/
def GBlk (w : World) (G : Nat) (k : Int) (TY : TypeId) (b : Nat) : Prop := w.heap[G]? = some (.cells #[.int .i64 k, .iface TY (.pointer (some ⟨b, 0, none⟩))] 66 (0, 0))
theorem gdThere {w : World} {G b : Nat} {k : Int} {TY : TypeId} (h : GBlk w G k TY b) : Calls Tryz.prog 79 #[.pointer (some ⟨G, 0, none⟩)] w fun e w' => e = .returned (.bool true) ∧ w = w' := by
  refine cph fun R HR => ?_
  have k1 := (blk_cell h 1).trans (rfl : _ = some (Value.iface TY (.pointer (some ⟨b, 0, none⟩))))
  clear h
  go_enter Tryz.func79, Tryz.ntmps79
  go_wp2_with fail
  exact HR.out _ _ ⟨rfl, rfl⟩
def IsPair (Q : Ending → World → Prop) : Prop := ∀ e w', Q e w' → ∃ v z, e = .returned (.tuple #[v, z])
def IsOne (Q : Ending → World → Prop) : Prop := ∀ e w', Q e w' → ∃ v, e = .returned v
section
variable {w : World} {G b f : Nat} {k : Int} {TY : TypeId} {Q : Ending → World → Prop}
set_option maxHeartbeats 1000000
theorem gdIn (h : GBlk w G k TY b) (hm : ∀ w p, Sem.run Tryz.prog (method 299 TY (.pointer (some p)) "In") w = .ok (f, .pointer (some p)) w) (eg : ∀ args w, (callFunc f args).run Tryz.prog w = .ok (.enter f args) w) (t : Int)
    (hc : Calls Tryz.prog f #[.pointer (some ⟨b, 0, none⟩), .int .i64 t] w Q) (hq : IsPair Q) : Calls Tryz.prog 23 #[.pointer (some ⟨G, 0, none⟩), .int .i64 t] w Q := by
  refine cph fun R HR => ?_
  have k1 := (blk_cell h 1).trans (rfl : _ = some (Value.iface TY (.pointer (some ⟨b, 0, none⟩))))
  have HT := Lib.hid (gdThere h)
  have HC := Lib.hid hc
  have HQ := Lib.hid hq
  clear h hc hq
  go_enter Tryz.func23, Tryz.ntmps23
  go_wp2_with (first | (go_at_call 79; refine HT.out.mono ?_; rintro e w' ⟨rfl, rfl⟩) | (go_at_fn f; refine HC.out.mono ?_; intro e w1 h1; obtain ⟨v, z, rfl⟩ := HQ.out _ _ h1; have H1 := Lib.hid h1; clear h1))
  exact HR.out _ _ H1.out
theorem gdOut (h : GBlk w G k TY b) (hm : ∀ w p, Sem.run Tryz.prog (method 299 TY (.pointer (some p)) "Out") w = .ok (f, .pointer (some p)) w) (eg : ∀ args w, (callFunc f args).run Tryz.prog w = .ok (.enter f args) w) (t : Int)
    (hc : Calls Tryz.prog f #[.pointer (some ⟨b, 0, none⟩), .int .i64 t] w Q) (hq : IsPair Q) : Calls Tryz.prog 26 #[.pointer (some ⟨G, 0, none⟩), .int .i64 t] w Q := by
  refine cph fun R HR => ?_
  have k1 := (blk_cell h 1).trans (rfl : _ = some (Value.iface TY (.pointer (some ⟨b, 0, none⟩))))
  have HT := Lib.hid (gdThere h)
  have HC := Lib.hid hc
  have HQ := Lib.hid hq
  clear h hc hq
  go_enter Tryz.func26, Tryz.ntmps26
  go_wp2_with (first | (go_at_call 79; refine HT.out.mono ?_; rintro e w' ⟨rfl, rfl⟩) | (go_at_fn f; refine HC.out.mono ?_; intro e w1 h1; obtain ⟨v, z, rfl⟩ := HQ.out _ _ h1; have H1 := Lib.hid h1; clear h1))
  exact HR.out _ _ H1.out
theorem gdHold (h : GBlk w G k TY b) (hm : ∀ w p, Sem.run Tryz.prog (method 299 TY (.pointer (some p)) "Hold") w = .ok (f, .pointer (some p)) w) (eg : ∀ args w, (callFunc f args).run Tryz.prog w = .ok (.enter f args) w) (t : Int) (h' : Int) (a : Int)
    (hc : Calls Tryz.prog f #[.pointer (some ⟨b, 0, none⟩), .int .i64 t, .int .i64 h', .int .i64 a] w Q) (hq : IsPair Q) : Calls Tryz.prog 25 #[.pointer (some ⟨G, 0, none⟩), .int .i64 t, .int .i64 h', .int .i64 a] w Q := by
  refine cph fun R HR => ?_
  have k1 := (blk_cell h 1).trans (rfl : _ = some (Value.iface TY (.pointer (some ⟨b, 0, none⟩))))
  have HT := Lib.hid (gdThere h)
  have HC := Lib.hid hc
  have HQ := Lib.hid hq
  clear h hc hq
  go_enter Tryz.func25, Tryz.ntmps25
  go_wp2_with (first | (go_at_call 79; refine HT.out.mono ?_; rintro e w' ⟨rfl, rfl⟩) | (go_at_fn f; refine HC.out.mono ?_; intro e w1 h1; obtain ⟨v, z, rfl⟩ := HQ.out _ _ h1; have H1 := Lib.hid h1; clear h1))
  exact HR.out _ _ H1.out
theorem gdBorn (h : GBlk w G k TY b) (hm : ∀ w p, Sem.run Tryz.prog (method 299 TY (.pointer (some p)) "Born") w = .ok (f, .pointer (some p)) w) (eg : ∀ args w, (callFunc f args).run Tryz.prog w = .ok (.enter f args) w) (a : Int)
    (hc : Calls Tryz.prog f #[.pointer (some ⟨b, 0, none⟩), .int .i64 a] w Q) (hq : IsOne Q) : Calls Tryz.prog 37 #[.pointer (some ⟨G, 0, none⟩), .int .i64 a] w Q := by
  refine cph fun R HR => ?_
  have k1 := (blk_cell h 1).trans (rfl : _ = some (Value.iface TY (.pointer (some ⟨b, 0, none⟩))))
  have HT := Lib.hid (gdThere h)
  have HC := Lib.hid hc
  have HQ := Lib.hid hq
  clear h hc hq
  go_enter Tryz.func37, Tryz.ntmps37
  go_wp2_with (first | (go_at_call 79; refine HT.out.mono ?_; rintro e w' ⟨rfl, rfl⟩) | (go_at_fn f; refine HC.out.mono ?_; intro e w1 h1; obtain ⟨v, rfl⟩ := HQ.out _ _ h1; have H1 := Lib.hid h1; clear h1))
  exact HR.out _ _ H1.out
theorem gdRetire (h : GBlk w G k TY b) (hm : ∀ w p, Sem.run Tryz.prog (method 299 TY (.pointer (some p)) "Retire") w = .ok (f, .pointer (some p)) w) (eg : ∀ args w, (callFunc f args).run Tryz.prog w = .ok (.enter f args) w) (t : Int) (a : Int)
    (hc : Calls Tryz.prog f #[.pointer (some ⟨b, 0, none⟩), .int .i64 t, .int .i64 a] w Q) (hq : IsPair Q) : Calls Tryz.prog 38 #[.pointer (some ⟨G, 0, none⟩), .int .i64 t, .int .i64 a] w Q := by
  refine cph fun R HR => ?_
  have k1 := (blk_cell h 1).trans (rfl : _ = some (Value.iface TY (.pointer (some ⟨b, 0, none⟩))))
  have HT := Lib.hid (gdThere h)
  have HC := Lib.hid hc
  have HQ := Lib.hid hq
  clear h hc hq
  go_enter Tryz.func38, Tryz.ntmps38
  go_wp2_with (first | (go_at_call 79; refine HT.out.mono ?_; rintro e w' ⟨rfl, rfl⟩) | (go_at_fn f; refine HC.out.mono ?_; intro e w1 h1; obtain ⟨v, z, rfl⟩ := HQ.out _ _ h1; have H1 := Lib.hid h1; clear h1))
  exact HR.out _ _ H1.out
theorem gdRest (h : GBlk w G k TY b) (hm : ∀ w p, Sem.run Tryz.prog (method 299 TY (.pointer (some p)) "Rest") w = .ok (f, .pointer (some p)) w) (eg : ∀ args w, (callFunc f args).run Tryz.prog w = .ok (.enter f args) w)
    (hc : Calls Tryz.prog f #[.pointer (some ⟨b, 0, none⟩)] w Q) (hq : IsOne Q) : Calls Tryz.prog 27 #[.pointer (some ⟨G, 0, none⟩)] w Q := by
  refine cph fun R HR => ?_
  have k1 := (blk_cell h 1).trans (rfl : _ = some (Value.iface TY (.pointer (some ⟨b, 0, none⟩))))
  have HT := Lib.hid (gdThere h)
  have HC := Lib.hid hc
  have HQ := Lib.hid hq
  clear h hc hq
  go_enter Tryz.func27, Tryz.ntmps27
  go_wp2_with (first | (go_at_call 79; refine HT.out.mono ?_; rintro e w' ⟨rfl, rfl⟩) | (go_at_fn f; refine HC.out.mono ?_; intro e w1 h1; obtain ⟨v, rfl⟩ := HQ.out _ _ h1; have H1 := Lib.hid h1; clear h1))
  exact HR.out _ _ H1.out
theorem gdWaiting (h : GBlk w G k TY b) (hm : ∀ w p, Sem.run Tryz.prog (method 299 TY (.pointer (some p)) "Waiting") w = .ok (f, .pointer (some p)) w) (eg : ∀ args w, (callFunc f args).run Tryz.prog w = .ok (.enter f args) w)
    (hc : Calls Tryz.prog f #[.pointer (some ⟨b, 0, none⟩)] w Q) (hq : IsOne Q) : Calls Tryz.prog 21 #[.pointer (some ⟨G, 0, none⟩)] w Q := by
  refine cph fun R HR => ?_
  have k1 := (blk_cell h 1).trans (rfl : _ = some (Value.iface TY (.pointer (some ⟨b, 0, none⟩))))
  have HT := Lib.hid (gdThere h)
  have HC := Lib.hid hc
  have HQ := Lib.hid hq
  clear h hc hq
  go_enter Tryz.func21, Tryz.ntmps21
  go_wp2_with (first | (go_at_call 79; refine HT.out.mono ?_; rintro e w' ⟨rfl, rfl⟩) | (go_at_fn f; refine HC.out.mono ?_; intro e w1 h1; obtain ⟨v, rfl⟩ := HQ.out _ _ h1; have H1 := Lib.hid h1; clear h1))
  exact HR.out _ _ H1.out
theorem gdKind (h : GBlk w G k TY b) : Calls Tryz.prog 31 #[.pointer (some ⟨G, 0, none⟩)] w fun e w' => e = .returned (.int .i64 k) ∧ w = w' := by
  refine cph fun R HR => ?_
  have k0 := (blk_cell h 0).trans (rfl : _ = some (Value.int .i64 k))
  have HT := Lib.hid (gdThere h)
  clear h
  go_enter Tryz.func31, Tryz.ntmps31
  go_wp2_with (go_at_call 79; refine HT.out.mono ?_; rintro e w' ⟨rfl, rfl⟩)
  exact HR.out _ _ ⟨rfl, rfl⟩
end
end Go.Proofs.YtcgcljmnnjalpaaGreat
set_option linter.unusedVariables false
set_option linter.unusedSimpArgs false
namespace Go.Proofs.YtcgcljmnnjalpaaGreat
open Go.RowKit Go.Kx
open Go.ChangeMaps (setBlock)
theorem mLeIn : ∀ w p, Sem.run Tryz.prog (method 299 88 (.pointer (some p)) "In") w = .ok (169, .pointer (some p)) w := fun w p => by kernel_rfl
theorem eLeIn : ∀ args w, (callFunc 169 args).run Tryz.prog w = .ok (.enter 169 args) w := fun args w => by kernel_rfl
theorem mLeOut : ∀ w p, Sem.run Tryz.prog (method 299 88 (.pointer (some p)) "Out") w = .ok (171, .pointer (some p)) w := fun w p => by kernel_rfl
theorem eLeOut : ∀ args w, (callFunc 171 args).run Tryz.prog w = .ok (.enter 171 args) w := fun args w => by kernel_rfl
theorem mLeHold : ∀ w p, Sem.run Tryz.prog (method 299 88 (.pointer (some p)) "Hold") w = .ok (168, .pointer (some p)) w := fun w p => by kernel_rfl
theorem eLeHold : ∀ args w, (callFunc 168 args).run Tryz.prog w = .ok (.enter 168 args) w := fun args w => by kernel_rfl
theorem mLeBorn : ∀ w p, Sem.run Tryz.prog (method 299 88 (.pointer (some p)) "Born") w = .ok (167, .pointer (some p)) w := fun w p => by kernel_rfl
theorem eLeBorn : ∀ args w, (callFunc 167 args).run Tryz.prog w = .ok (.enter 167 args) w := fun args w => by kernel_rfl
theorem mLeRetire : ∀ w p, Sem.run Tryz.prog (method 299 88 (.pointer (some p)) "Retire") w = .ok (173, .pointer (some p)) w := fun w p => by kernel_rfl
theorem eLeRetire : ∀ args w, (callFunc 173 args).run Tryz.prog w = .ok (.enter 173 args) w := fun args w => by kernel_rfl
theorem mLeRest : ∀ w p, Sem.run Tryz.prog (method 299 88 (.pointer (some p)) "Rest") w = .ok (172, .pointer (some p)) w := fun w p => by kernel_rfl
theorem eLeRest : ∀ args w, (callFunc 172 args).run Tryz.prog w = .ok (.enter 172 args) w := fun args w => by kernel_rfl
theorem mLeWaiting : ∀ w p, Sem.run Tryz.prog (method 299 88 (.pointer (some p)) "Waiting") w = .ok (174, .pointer (some p)) w := fun w p => by kernel_rfl
theorem eLeWaiting : ∀ args w, (callFunc 174 args).run Tryz.prog w = .ok (.enter 174 args) w := fun args w => by kernel_rfl
theorem mHzIn : ∀ w p, Sem.run Tryz.prog (method 299 91 (.pointer (some p)) "In") w = .ok (53, .pointer (some p)) w := fun w p => by kernel_rfl
theorem eHzIn : ∀ args w, (callFunc 53 args).run Tryz.prog w = .ok (.enter 53 args) w := fun args w => by kernel_rfl
theorem mHzOut : ∀ w p, Sem.run Tryz.prog (method 299 91 (.pointer (some p)) "Out") w = .ok (54, .pointer (some p)) w := fun w p => by kernel_rfl
theorem eHzOut : ∀ args w, (callFunc 54 args).run Tryz.prog w = .ok (.enter 54 args) w := fun args w => by kernel_rfl
theorem mHzHold : ∀ w p, Sem.run Tryz.prog (method 299 91 (.pointer (some p)) "Hold") w = .ok (55, .pointer (some p)) w := fun w p => by kernel_rfl
theorem eHzHold : ∀ args w, (callFunc 55 args).run Tryz.prog w = .ok (.enter 55 args) w := fun args w => by kernel_rfl
theorem mHzBorn : ∀ w p, Sem.run Tryz.prog (method 299 91 (.pointer (some p)) "Born") w = .ok (176, .pointer (some p)) w := fun w p => by kernel_rfl
theorem eHzBorn : ∀ args w, (callFunc 176 args).run Tryz.prog w = .ok (.enter 176 args) w := fun args w => by kernel_rfl
theorem mHzRetire : ∀ w p, Sem.run Tryz.prog (method 299 91 (.pointer (some p)) "Retire") w = .ok (56, .pointer (some p)) w := fun w p => by kernel_rfl
theorem eHzRetire : ∀ args w, (callFunc 56 args).run Tryz.prog w = .ok (.enter 56 args) w := fun args w => by kernel_rfl
theorem mHzRest : ∀ w p, Sem.run Tryz.prog (method 299 91 (.pointer (some p)) "Rest") w = .ok (57, .pointer (some p)) w := fun w p => by kernel_rfl
theorem eHzRest : ∀ args w, (callFunc 57 args).run Tryz.prog w = .ok (.enter 57 args) w := fun args w => by kernel_rfl
theorem mHzWaiting : ∀ w p, Sem.run Tryz.prog (method 299 91 (.pointer (some p)) "Waiting") w = .ok (74, .pointer (some p)) w := fun w p => by kernel_rfl
theorem eHzWaiting : ∀ args w, (callFunc 74 args).run Tryz.prog w = .ok (.enter 74 args) w := fun args w => by kernel_rfl
theorem mEpIn : ∀ w p, Sem.run Tryz.prog (method 299 94 (.pointer (some p)) "In") w = .ok (58, .pointer (some p)) w := fun w p => by kernel_rfl
theorem eEpIn : ∀ args w, (callFunc 58 args).run Tryz.prog w = .ok (.enter 58 args) w := fun args w => by kernel_rfl
theorem mEpOut : ∀ w p, Sem.run Tryz.prog (method 299 94 (.pointer (some p)) "Out") w = .ok (59, .pointer (some p)) w := fun w p => by kernel_rfl
theorem eEpOut : ∀ args w, (callFunc 59 args).run Tryz.prog w = .ok (.enter 59 args) w := fun args w => by kernel_rfl
theorem mEpHold : ∀ w p, Sem.run Tryz.prog (method 299 94 (.pointer (some p)) "Hold") w = .ok (180, .pointer (some p)) w := fun w p => by kernel_rfl
theorem eEpHold : ∀ args w, (callFunc 180 args).run Tryz.prog w = .ok (.enter 180 args) w := fun args w => by kernel_rfl
theorem mEpBorn : ∀ w p, Sem.run Tryz.prog (method 299 94 (.pointer (some p)) "Born") w = .ok (178, .pointer (some p)) w := fun w p => by kernel_rfl
theorem eEpBorn : ∀ args w, (callFunc 178 args).run Tryz.prog w = .ok (.enter 178 args) w := fun args w => by kernel_rfl
theorem mEpRetire : ∀ w p, Sem.run Tryz.prog (method 299 94 (.pointer (some p)) "Retire") w = .ok (60, .pointer (some p)) w := fun w p => by kernel_rfl
theorem eEpRetire : ∀ args w, (callFunc 60 args).run Tryz.prog w = .ok (.enter 60 args) w := fun args w => by kernel_rfl
theorem mEpRest : ∀ w p, Sem.run Tryz.prog (method 299 94 (.pointer (some p)) "Rest") w = .ok (61, .pointer (some p)) w := fun w p => by kernel_rfl
theorem eEpRest : ∀ args w, (callFunc 61 args).run Tryz.prog w = .ok (.enter 61 args) w := fun args w => by kernel_rfl
theorem mEpWaiting : ∀ w p, Sem.run Tryz.prog (method 299 94 (.pointer (some p)) "Waiting") w = .ok (75, .pointer (some p)) w := fun w p => by kernel_rfl
theorem eEpWaiting : ∀ args w, (callFunc 75 args).run Tryz.prog w = .ok (.enter 75 args) w := fun args w => by kernel_rfl
theorem mSpIn : ∀ w p, Sem.run Tryz.prog (method 299 97 (.pointer (some p)) "In") w = .ok (62, .pointer (some p)) w := fun w p => by kernel_rfl
theorem eSpIn : ∀ args w, (callFunc 62 args).run Tryz.prog w = .ok (.enter 62 args) w := fun args w => by kernel_rfl
theorem mSpOut : ∀ w p, Sem.run Tryz.prog (method 299 97 (.pointer (some p)) "Out") w = .ok (63, .pointer (some p)) w := fun w p => by kernel_rfl
theorem eSpOut : ∀ args w, (callFunc 63 args).run Tryz.prog w = .ok (.enter 63 args) w := fun args w => by kernel_rfl
theorem mSpHold : ∀ w p, Sem.run Tryz.prog (method 299 97 (.pointer (some p)) "Hold") w = .ok (64, .pointer (some p)) w := fun w p => by kernel_rfl
theorem eSpHold : ∀ args w, (callFunc 64 args).run Tryz.prog w = .ok (.enter 64 args) w := fun args w => by kernel_rfl
theorem mSpBorn : ∀ w p, Sem.run Tryz.prog (method 299 97 (.pointer (some p)) "Born") w = .ok (65, .pointer (some p)) w := fun w p => by kernel_rfl
theorem eSpBorn : ∀ args w, (callFunc 65 args).run Tryz.prog w = .ok (.enter 65 args) w := fun args w => by kernel_rfl
theorem mSpRetire : ∀ w p, Sem.run Tryz.prog (method 299 97 (.pointer (some p)) "Retire") w = .ok (66, .pointer (some p)) w := fun w p => by kernel_rfl
theorem eSpRetire : ∀ args w, (callFunc 66 args).run Tryz.prog w = .ok (.enter 66 args) w := fun args w => by kernel_rfl
theorem mSpRest : ∀ w p, Sem.run Tryz.prog (method 299 97 (.pointer (some p)) "Rest") w = .ok (67, .pointer (some p)) w := fun w p => by kernel_rfl
theorem eSpRest : ∀ args w, (callFunc 67 args).run Tryz.prog w = .ok (.enter 67 args) w := fun args w => by kernel_rfl
theorem mSpWaiting : ∀ w p, Sem.run Tryz.prog (method 299 97 (.pointer (some p)) "Waiting") w = .ok (76, .pointer (some p)) w := fun w p => by kernel_rfl
theorem eSpWaiting : ∀ args w, (callFunc 76 args).run Tryz.prog w = .ok (.enter 76 args) w := fun args w => by kernel_rfl
theorem mCoIn : ∀ w p, Sem.run Tryz.prog (method 299 100 (.pointer (some p)) "In") w = .ok (185, .pointer (some p)) w := fun w p => by kernel_rfl
theorem eCoIn : ∀ args w, (callFunc 185 args).run Tryz.prog w = .ok (.enter 185 args) w := fun args w => by kernel_rfl
theorem mCoOut : ∀ w p, Sem.run Tryz.prog (method 299 100 (.pointer (some p)) "Out") w = .ok (68, .pointer (some p)) w := fun w p => by kernel_rfl
theorem eCoOut : ∀ args w, (callFunc 68 args).run Tryz.prog w = .ok (.enter 68 args) w := fun args w => by kernel_rfl
theorem mCoHold : ∀ w p, Sem.run Tryz.prog (method 299 100 (.pointer (some p)) "Hold") w = .ok (69, .pointer (some p)) w := fun w p => by kernel_rfl
theorem eCoHold : ∀ args w, (callFunc 69 args).run Tryz.prog w = .ok (.enter 69 args) w := fun args w => by kernel_rfl
theorem mCoBorn : ∀ w p, Sem.run Tryz.prog (method 299 100 (.pointer (some p)) "Born") w = .ok (184, .pointer (some p)) w := fun w p => by kernel_rfl
theorem eCoBorn : ∀ args w, (callFunc 184 args).run Tryz.prog w = .ok (.enter 184 args) w := fun args w => by kernel_rfl
theorem mCoRetire : ∀ w p, Sem.run Tryz.prog (method 299 100 (.pointer (some p)) "Retire") w = .ok (70, .pointer (some p)) w := fun w p => by kernel_rfl
theorem eCoRetire : ∀ args w, (callFunc 70 args).run Tryz.prog w = .ok (.enter 70 args) w := fun args w => by kernel_rfl
theorem mCoRest : ∀ w p, Sem.run Tryz.prog (method 299 100 (.pointer (some p)) "Rest") w = .ok (187, .pointer (some p)) w := fun w p => by kernel_rfl
theorem eCoRest : ∀ args w, (callFunc 187 args).run Tryz.prog w = .ok (.enter 187 args) w := fun args w => by kernel_rfl
theorem mCoWaiting : ∀ w p, Sem.run Tryz.prog (method 299 100 (.pointer (some p)) "Waiting") w = .ok (77, .pointer (some p)) w := fun w p => by kernel_rfl
theorem eCoWaiting : ∀ args w, (callFunc 77 args).run Tryz.prog w = .ok (.enter 77 args) w := fun args w => by kernel_rfl
theorem mQuIn : ∀ w p, Sem.run Tryz.prog (method 299 103 (.pointer (some p)) "In") w = .ok (71, .pointer (some p)) w := fun w p => by kernel_rfl
theorem eQuIn : ∀ args w, (callFunc 71 args).run Tryz.prog w = .ok (.enter 71 args) w := fun args w => by kernel_rfl
theorem mQuOut : ∀ w p, Sem.run Tryz.prog (method 299 103 (.pointer (some p)) "Out") w = .ok (72, .pointer (some p)) w := fun w p => by kernel_rfl
theorem eQuOut : ∀ args w, (callFunc 72 args).run Tryz.prog w = .ok (.enter 72 args) w := fun args w => by kernel_rfl
theorem mQuHold : ∀ w p, Sem.run Tryz.prog (method 299 103 (.pointer (some p)) "Hold") w = .ok (189, .pointer (some p)) w := fun w p => by kernel_rfl
theorem eQuHold : ∀ args w, (callFunc 189 args).run Tryz.prog w = .ok (.enter 189 args) w := fun args w => by kernel_rfl
theorem mQuBorn : ∀ w p, Sem.run Tryz.prog (method 299 103 (.pointer (some p)) "Born") w = .ok (188, .pointer (some p)) w := fun w p => by kernel_rfl
theorem eQuBorn : ∀ args w, (callFunc 188 args).run Tryz.prog w = .ok (.enter 188 args) w := fun args w => by kernel_rfl
theorem mQuRetire : ∀ w p, Sem.run Tryz.prog (method 299 103 (.pointer (some p)) "Retire") w = .ok (73, .pointer (some p)) w := fun w p => by kernel_rfl
theorem eQuRetire : ∀ args w, (callFunc 73 args).run Tryz.prog w = .ok (.enter 73 args) w := fun args w => by kernel_rfl
theorem mQuRest : ∀ w p, Sem.run Tryz.prog (method 299 103 (.pointer (some p)) "Rest") w = .ok (191, .pointer (some p)) w := fun w p => by kernel_rfl
theorem eQuRest : ∀ args w, (callFunc 191 args).run Tryz.prog w = .ok (.enter 191 args) w := fun args w => by kernel_rfl
theorem mQuWaiting : ∀ w p, Sem.run Tryz.prog (method 299 103 (.pointer (some p)) "Waiting") w = .ok (78, .pointer (some p)) w := fun w p => by kernel_rfl
theorem eQuWaiting : ∀ args w, (callFunc 78 args).run Tryz.prog w = .ok (.enter 78 args) w := fun args w => by kernel_rfl
/-- A manager of any kind at block b. -/
def MK (TY b : Nat) (w : World) (F : FP) (s : RS) : Prop := (TY = 88 ∧ LM b w F s) ∨ (TY = 91 ∧ HZ b w F s) ∨ (TY = 94 ∧ EM b w F s) ∨ (TY = 97 ∧ SP b w F s) ∨ (TY = 100 ∧ CM b w F s) ∨ (TY = 103 ∧ QG b w F s)
theorem MK.local (TY b : Nat) : Local (MK TY b) := by
  refine ⟨fun h k hk => ?_, fun h hf hn => ?_⟩
  · rcases h with ⟨_, h⟩ | ⟨_, h⟩ | ⟨_, h⟩ | ⟨_, h⟩ | ⟨_, h⟩ | ⟨_, h⟩
    · exact (LM.local b).lt h k hk
    · exact (HZ.local b).lt h k hk
    · exact (EM.local b).lt h k hk
    · exact (SP.local b).lt h k hk
    · exact (CM.local b).lt h k hk
    · exact (QG.local b).lt h k hk
  · rcases h with ⟨e, h⟩ | ⟨e, h⟩ | ⟨e, h⟩ | ⟨e, h⟩ | ⟨e, h⟩ | ⟨e, h⟩
    · exact (.inl ⟨e, (LM.local b).fr h hf hn⟩)
    · exact (.inr (.inl ⟨e, (HZ.local b).fr h hf hn⟩))
    · exact (.inr (.inr (.inl ⟨e, (EM.local b).fr h hf hn⟩)))
    · exact (.inr (.inr (.inr (.inl ⟨e, (SP.local b).fr h hf hn⟩))))
    · exact (.inr (.inr (.inr (.inr (.inl ⟨e, (CM.local b).fr h hf hn⟩)))))
    · exact (.inr (.inr (.inr (.inr (.inr ⟨e, (QG.local b).fr h hf hn⟩)))))
/-- A guard at block G, of the state s. -/
def GM (G : Nat) (w : World) (F : FP) (s : RS) : Prop := ∃ TY b Fm, GBlk w G s.kind TY b ∧ MK TY b w Fm s ∧ ¬ Fm G ∧ ∀ k, F k ↔ (k = G ∨ Fm k)
theorem GM.local (G : Nat) : Local (GM G) := by
  refine ⟨fun ⟨TY, b, Fm, hg, hm, hn, hF⟩ k hk => ?_, fun ⟨TY, b, Fm, hg, hm, hn, hF⟩ hf hd => ?_⟩
  · rcases (hF k).1 hk with rfl | h
    · exact blk_lt hg
    · exact (MK.local TY b).lt hm k h
  · exact ⟨TY, b, Fm, hf.at_ hg (hd G ((hF G).2 (.inl rfl))), (MK.local TY b).fr hm hf (fun k hk => hd k ((hF k).2 (.inr hk))), hn, hF⟩
section
variable {w w' : World} {G TY b : Nat} {F Fm F' : FP} {k : Int} {r : RO} {e : Ending}
theorem GM.up (hg : GBlk w G k TY b) (hn : ¬ Fm G) (hF : ∀ k, F k ↔ (k = G ∨ Fm k)) {s : RS} (hk : s.kind = k) (ha : MK TY b w' F' s) (hs : Step Fm w F' w') : GM G w' (fun k => k = G ∨ F' k) s ∧ Step F w (fun k => k = G ∨ F' k) w' := by
  have hG := blk_lt hg
  refine ⟨⟨TY, b, F', by rw [hk]; exact hs.fr.at_ hg hn, ha, fun h => (hs.sub G h).elim hn (fun q => by omega), fun k => Iff.rfl⟩, hs.fr.mono fun i _ h => (hF i).2 (.inr h), fun j hj => ?_⟩
  rcases hj with e | h
  · exact .inl ((hF j).2 (.inl e))
  · exact (hs.sub j h).elim (fun q => .inl ((hF j).2 (.inr q))) .inr
theorem OpP.up (hg : GBlk w G k TY b) (hn : ¬ Fm G) (hF : ∀ k, F k ↔ (k = G ∨ Fm k)) (hk : r.st.kind = k) (h : OpP (MK TY b) w Fm r e w') : OpP (GM G) w F r e w' := by
  obtain ⟨v, F', rfl, ho, ha, hs, hd⟩ := h
  obtain ⟨h1, h2⟩ := GM.up hg hn hF hk ha hs
  exact ⟨v, _, rfl, ho, h1, h2, fun j hj hf => hf.elim (fun q => by have := (ho.lt j hj).1; have := blk_lt hg; omega) (hd j hj)⟩
theorem OpL.up (hg : GBlk w G k TY b) (hn : ¬ Fm G) (hF : ∀ k, F k ↔ (k = G ∨ Fm k)) (hk : r.st.kind = k) (h : OpL (MK TY b) w Fm r e w') : OpL (GM G) w F r e w' := by
  obtain ⟨v, F', rfl, ho, ha, hs, hd⟩ := h
  obtain ⟨h1, h2⟩ := GM.up hg hn hF hk ha hs
  exact ⟨v, _, rfl, ho, h1, h2, fun j hj hf => hf.elim (fun q => by have := (ho.lt j hj).1; have := blk_lt hg; omega) (hd j hj)⟩
theorem OpE.up (hg : GBlk w G k TY b) (hn : ¬ Fm G) (hF : ∀ k, F k ↔ (k = G ∨ Fm k)) (hk : r.st.kind = k) (h : OpE (MK TY b) w Fm r e w') : OpE (GM G) w F r e w' := by
  obtain ⟨F', rfl, ha, hs⟩ := h
  obtain ⟨h1, h2⟩ := GM.up hg hn hF hk ha hs
  exact ⟨_, rfl, h1, h2⟩
end
theorem OpL.with {At At' : World → FP → RS → Prop} {w : World} {F : FP} {r : RO} {e : Ending} {w' : World} (h : OpL At w F r e w') (hh : ∀ F' w', At w' F' r.st → At' w' F' r.st) : OpL At' w F r e w' := by
  obtain ⟨v, F', h1, h2, h3, h4⟩ := h
  exact ⟨v, F', h1, h2, hh _ _ h3, h4⟩
theorem OpE.with {At At' : World → FP → RS → Prop} {w : World} {F : FP} {r : RO} {e : Ending} {w' : World} (h : OpE At w F r e w') (hh : ∀ F' w', At w' F' r.st → At' w' F' r.st) : OpE At' w F r e w' := by
  obtain ⟨F', h1, h3, h4⟩ := h
  exact ⟨F', h1, hh _ _ h3, h4⟩
theorem OpP.pair {At : World → FP → RS → Prop} {w : World} {F : FP} {r : RO} : IsPair (OpP At w F r) := fun e w' ⟨v, F', h, _⟩ => ⟨v, _, h⟩
theorem OpL.one {At : World → FP → RS → Prop} {w : World} {F : FP} {r : RO} : IsOne (OpL At w F r) := fun e w' ⟨v, F', h, _⟩ => ⟨v, h⟩
theorem OpE.one {At : World → FP → RS → Prop} {w : World} {F : FP} {r : RO} : IsOne (OpE At w F r) := fun e w' ⟨F', h, _⟩ => ⟨_, h⟩
theorem WaitP.one {w : World} {s : RS} : IsOne (WaitP w s) := fun e w' ⟨v, h, _⟩ => ⟨v, h⟩
theorem sweep_kind (s : RS) (p : Itm → Bool) : (sweepS s p).st.kind = s.kind := rfl
theorem try_kind (s : RS) : (tryS s).st.kind = s.kind := by unfold tryS; split <;> rfl
theorem in_kind (s : RS) (t : Int) : (inS s t).st.kind = s.kind := by unfold inS; split <;> rfl
theorem out_kind (s : RS) (t : Int) : (outS s t).st.kind = s.kind := by unfold outS; split <;> (try split) <;> rfl
theorem hold_kind (s : RS) (t k a : Int) : (holdS s t k a).st.kind = s.kind := by unfold holdS; split <;> (try split) <;> (try split) <;> rfl
theorem born_kind (s : RS) (a : Int) : (bornS s a).st.kind = s.kind := by unfold bornS; split <;> (try split) <;> rfl
theorem ret_kind (s : RS) (t a : Int) : (retS s t a).st.kind = s.kind := by
  unfold retS
  split
  · split
    · rfl
    · split
      · split <;> rfl
      · split
        · rw [try_kind]; rfl
        · rfl
  · rfl
theorem seq_kind : ∀ (l : List (RS → RO)) (s : RS), (∀ f ∈ l, ∀ s, (f s).st.kind = s.kind) → (seqS s l).st.kind = s.kind
  | [], s, _ => rfl
  | f :: l, s, h => by
    show (seqS (f s).st l).st.kind = s.kind
    rw [seq_kind l _ fun g hg => h g (by simp [hg]), h f (by simp)]
theorem rest_kind (s : RS) : (restS s).st.kind = s.kind := by
  unfold restS
  split
  · exact seq_kind _ _ fun f hf s => by obtain ⟨t, _, rfl⟩ := List.mem_map.1 hf; rfl
  · split
    · exact seq_kind _ _ fun f hf s => by
        rw [show f = tryS by simpa using hf]; exact try_kind s
    · rfl
theorem gmIn {G : Nat} {w : World} {F : FP} {s : RS} (hgm : GM G w F s) (hs : Small s) (t : Int) : Calls Tryz.prog 23 #[.pointer (some ⟨G, 0, none⟩), .int .i64 t] w (OpP (GM G) w F (inS s t)) := by
  obtain ⟨TY, b, Fm, hg, hm, hn, hF⟩ := hgm
  rcases hm with ⟨rfl, h⟩ | ⟨rfl, h⟩ | ⟨rfl, h⟩ | ⟨rfl, h⟩ | ⟨rfl, h⟩ | ⟨rfl, h⟩
  · exact gdIn hg mLeIn eLeIn t ((leIn h t).mono fun e w' ho => (ho.with fun F' w' h => ((.inl ⟨rfl, h⟩) : MK _ b w' F' _)).up hg hn hF (in_kind s t)) OpP.pair
  · exact gdIn hg mHzIn eHzIn t ((hzIn h t).mono fun e w' ho => (ho.with fun F' w' h => ((.inr (.inl ⟨rfl, h⟩)) : MK _ b w' F' _)).up hg hn hF (in_kind s t)) OpP.pair
  · exact gdIn hg mEpIn eEpIn t ((epIn h t).mono fun e w' ho => (ho.with fun F' w' h => ((.inr (.inr (.inl ⟨rfl, h⟩))) : MK _ b w' F' _)).up hg hn hF (in_kind s t)) OpP.pair
  · exact gdIn hg mSpIn eSpIn t ((spIn h t).mono fun e w' ho => (ho.with fun F' w' h => ((.inr (.inr (.inr (.inl ⟨rfl, h⟩)))) : MK _ b w' F' _)).up hg hn hF (in_kind s t)) OpP.pair
  · exact gdIn hg mCoIn eCoIn t ((coIn h t).mono fun e w' ho => (ho.with fun F' w' h => ((.inr (.inr (.inr (.inr (.inl ⟨rfl, h⟩))))) : MK _ b w' F' _)).up hg hn hF (in_kind s t)) OpP.pair
  · exact gdIn hg mQuIn eQuIn t ((qgIn h t).mono fun e w' ho => (ho.with fun F' w' h => ((.inr (.inr (.inr (.inr (.inr ⟨rfl, h⟩))))) : MK _ b w' F' _)).up hg hn hF (in_kind s t)) OpP.pair
theorem gmOut {G : Nat} {w : World} {F : FP} {s : RS} (hgm : GM G w F s) (hs : Small s) (t : Int) : Calls Tryz.prog 26 #[.pointer (some ⟨G, 0, none⟩), .int .i64 t] w (OpP (GM G) w F (outS s t)) := by
  obtain ⟨TY, b, Fm, hg, hm, hn, hF⟩ := hgm
  rcases hm with ⟨rfl, h⟩ | ⟨rfl, h⟩ | ⟨rfl, h⟩ | ⟨rfl, h⟩ | ⟨rfl, h⟩ | ⟨rfl, h⟩
  · exact gdOut hg mLeOut eLeOut t ((leOut h t).mono fun e w' ho => (ho.with fun F' w' h => ((.inl ⟨rfl, h⟩) : MK _ b w' F' _)).up hg hn hF (out_kind s t)) OpP.pair
  · exact gdOut hg mHzOut eHzOut t ((hzOut h t).mono fun e w' ho => (ho.with fun F' w' h => ((.inr (.inl ⟨rfl, h⟩)) : MK _ b w' F' _)).up hg hn hF (out_kind s t)) OpP.pair
  · exact gdOut hg mEpOut eEpOut t ((epOut h t).mono fun e w' ho => (ho.with fun F' w' h => ((.inr (.inr (.inl ⟨rfl, h⟩))) : MK _ b w' F' _)).up hg hn hF (out_kind s t)) OpP.pair
  · exact gdOut hg mSpOut eSpOut t ((spOut h hs.1 t).mono fun e w' ho => (ho.with fun F' w' h => ((.inr (.inr (.inr (.inl ⟨rfl, h⟩)))) : MK _ b w' F' _)).up hg hn hF (out_kind s t)) OpP.pair
  · exact gdOut hg mCoOut eCoOut t ((coOut h hs.1 t).mono fun e w' ho => (ho.with fun F' w' h => ((.inr (.inr (.inr (.inr (.inl ⟨rfl, h⟩))))) : MK _ b w' F' _)).up hg hn hF (out_kind s t)) OpP.pair
  · exact gdOut hg mQuOut eQuOut t ((qgOut h hs.1 t).mono fun e w' ho => (ho.with fun F' w' h => ((.inr (.inr (.inr (.inr (.inr ⟨rfl, h⟩))))) : MK _ b w' F' _)).up hg hn hF (out_kind s t)) OpP.pair
theorem gmHold {G : Nat} {w : World} {F : FP} {s : RS} (hgm : GM G w F s) (hs : Small s) (t : Int) (k' : Int) (a : Int) : Calls Tryz.prog 25 #[.pointer (some ⟨G, 0, none⟩), .int .i64 t, .int .i64 k', .int .i64 a] w (OpP (GM G) w F (holdS s t k' a)) := by
  obtain ⟨TY, b, Fm, hg, hm, hn, hF⟩ := hgm
  rcases hm with ⟨rfl, h⟩ | ⟨rfl, h⟩ | ⟨rfl, h⟩ | ⟨rfl, h⟩ | ⟨rfl, h⟩ | ⟨rfl, h⟩
  · exact gdHold hg mLeHold eLeHold t k' a ((leHold h t k' a).mono fun e w' ho => (ho.with fun F' w' h => ((.inl ⟨rfl, h⟩) : MK _ b w' F' _)).up hg hn hF (hold_kind s t k' a)) OpP.pair
  · exact gdHold hg mHzHold eHzHold t k' a ((hzHold h t k' a).mono fun e w' ho => (ho.with fun F' w' h => ((.inr (.inl ⟨rfl, h⟩)) : MK _ b w' F' _)).up hg hn hF (hold_kind s t k' a)) OpP.pair
  · exact gdHold hg mEpHold eEpHold t k' a ((epHold h t k' a).mono fun e w' ho => (ho.with fun F' w' h => ((.inr (.inr (.inl ⟨rfl, h⟩))) : MK _ b w' F' _)).up hg hn hF (hold_kind s t k' a)) OpP.pair
  · exact gdHold hg mSpHold eSpHold t k' a ((spHold h t k' a).mono fun e w' ho => (ho.with fun F' w' h => ((.inr (.inr (.inr (.inl ⟨rfl, h⟩)))) : MK _ b w' F' _)).up hg hn hF (hold_kind s t k' a)) OpP.pair
  · exact gdHold hg mCoHold eCoHold t k' a ((coHold h hs.1 t k' a).mono fun e w' ho => (ho.with fun F' w' h => ((.inr (.inr (.inr (.inr (.inl ⟨rfl, h⟩))))) : MK _ b w' F' _)).up hg hn hF (hold_kind s t k' a)) OpP.pair
  · exact gdHold hg mQuHold eQuHold t k' a ((qgHold h t k' a).mono fun e w' ho => (ho.with fun F' w' h => ((.inr (.inr (.inr (.inr (.inr ⟨rfl, h⟩))))) : MK _ b w' F' _)).up hg hn hF (hold_kind s t k' a)) OpP.pair
theorem gmBorn {G : Nat} {w : World} {F : FP} {s : RS} (hgm : GM G w F s) (hs : Small s) (a : Int) : Calls Tryz.prog 37 #[.pointer (some ⟨G, 0, none⟩), .int .i64 a] w (OpE (GM G) w F (bornS s a)) := by
  obtain ⟨TY, b, Fm, hg, hm, hn, hF⟩ := hgm
  rcases hm with ⟨rfl, h⟩ | ⟨rfl, h⟩ | ⟨rfl, h⟩ | ⟨rfl, h⟩ | ⟨rfl, h⟩ | ⟨rfl, h⟩
  · exact gdBorn hg mLeBorn eLeBorn a ((leBorn h a).mono fun e w' ho => (ho.with fun F' w' h => ((.inl ⟨rfl, h⟩) : MK _ b w' F' _)).up hg hn hF (born_kind s a)) OpE.one
  · exact gdBorn hg mHzBorn eHzBorn a ((hzBorn h a).mono fun e w' ho => (ho.with fun F' w' h => ((.inr (.inl ⟨rfl, h⟩)) : MK _ b w' F' _)).up hg hn hF (born_kind s a)) OpE.one
  · exact gdBorn hg mEpBorn eEpBorn a ((epBorn h a).mono fun e w' ho => (ho.with fun F' w' h => ((.inr (.inr (.inl ⟨rfl, h⟩))) : MK _ b w' F' _)).up hg hn hF (born_kind s a)) OpE.one
  · exact gdBorn hg mSpBorn eSpBorn a ((spBorn h hs.2 a).mono fun e w' ho => (ho.with fun F' w' h => ((.inr (.inr (.inr (.inl ⟨rfl, h⟩)))) : MK _ b w' F' _)).up hg hn hF (born_kind s a)) OpE.one
  · exact gdBorn hg mCoBorn eCoBorn a ((coBorn h a).mono fun e w' ho => (ho.with fun F' w' h => ((.inr (.inr (.inr (.inr (.inl ⟨rfl, h⟩))))) : MK _ b w' F' _)).up hg hn hF (born_kind s a)) OpE.one
  · exact gdBorn hg mQuBorn eQuBorn a ((qgBorn h a).mono fun e w' ho => (ho.with fun F' w' h => ((.inr (.inr (.inr (.inr (.inr ⟨rfl, h⟩))))) : MK _ b w' F' _)).up hg hn hF (born_kind s a)) OpE.one
theorem gmRetire {G : Nat} {w : World} {F : FP} {s : RS} (hgm : GM G w F s) (hs : Small s) (t : Int) (a : Int) : Calls Tryz.prog 38 #[.pointer (some ⟨G, 0, none⟩), .int .i64 t, .int .i64 a] w (OpP (GM G) w F (retS s t a)) := by
  obtain ⟨TY, b, Fm, hg, hm, hn, hF⟩ := hgm
  rcases hm with ⟨rfl, h⟩ | ⟨rfl, h⟩ | ⟨rfl, h⟩ | ⟨rfl, h⟩ | ⟨rfl, h⟩ | ⟨rfl, h⟩
  · exact gdRetire hg mLeRetire eLeRetire t a ((leRetire h hs.1 t a).mono fun e w' ho => (ho.with fun F' w' h => ((.inl ⟨rfl, h⟩) : MK _ b w' F' _)).up hg hn hF (ret_kind s t a)) OpP.pair
  · exact gdRetire hg mHzRetire eHzRetire t a ((hzRetire h hs.1 t a).mono fun e w' ho => (ho.with fun F' w' h => ((.inr (.inl ⟨rfl, h⟩)) : MK _ b w' F' _)).up hg hn hF (ret_kind s t a)) OpP.pair
  · exact gdRetire hg mEpRetire eEpRetire t a ((epRetire h hs.1 hs.2 t a).mono fun e w' ho => (ho.with fun F' w' h => ((.inr (.inr (.inl ⟨rfl, h⟩))) : MK _ b w' F' _)).up hg hn hF (ret_kind s t a)) OpP.pair
  · exact gdRetire hg mSpRetire eSpRetire t a ((spRetire h hs.1 t a).mono fun e w' ho => (ho.with fun F' w' h => ((.inr (.inr (.inr (.inl ⟨rfl, h⟩)))) : MK _ b w' F' _)).up hg hn hF (ret_kind s t a)) OpP.pair
  · exact gdRetire hg mCoRetire eCoRetire t a ((coRetire h hs.1 t a).mono fun e w' ho => (ho.with fun F' w' h => ((.inr (.inr (.inr (.inr (.inl ⟨rfl, h⟩))))) : MK _ b w' F' _)).up hg hn hF (ret_kind s t a)) OpP.pair
  · exact gdRetire hg mQuRetire eQuRetire t a ((qgRetire h hs.1 t a).mono fun e w' ho => (ho.with fun F' w' h => ((.inr (.inr (.inr (.inr (.inr ⟨rfl, h⟩))))) : MK _ b w' F' _)).up hg hn hF (ret_kind s t a)) OpP.pair
theorem gmRest {G : Nat} {w : World} {F : FP} {s : RS} (hgm : GM G w F s) (hs : Small s) : Calls Tryz.prog 27 #[.pointer (some ⟨G, 0, none⟩)] w (OpL (GM G) w F (restS s)) := by
  obtain ⟨TY, b, Fm, hg, hm, hn, hF⟩ := hgm
  rcases hm with ⟨rfl, h⟩ | ⟨rfl, h⟩ | ⟨rfl, h⟩ | ⟨rfl, h⟩ | ⟨rfl, h⟩ | ⟨rfl, h⟩
  · exact gdRest hg mLeRest eLeRest ((leRest h).mono fun e w' ho => (ho.with fun F' w' h => ((.inl ⟨rfl, h⟩) : MK _ b w' F' _)).up hg hn hF (rest_kind s)) OpL.one
  · exact gdRest hg mHzRest eHzRest ((hzRest h hs.1).mono fun e w' ho => (ho.with fun F' w' h => ((.inr (.inl ⟨rfl, h⟩)) : MK _ b w' F' _)).up hg hn hF (rest_kind s)) OpL.one
  · exact gdRest hg mEpRest eEpRest ((epRest h hs.1 hs.2).mono fun e w' ho => (ho.with fun F' w' h => ((.inr (.inr (.inl ⟨rfl, h⟩))) : MK _ b w' F' _)).up hg hn hF (rest_kind s)) OpL.one
  · exact gdRest hg mSpRest eSpRest ((spRest h hs.1).mono fun e w' ho => (ho.with fun F' w' h => ((.inr (.inr (.inr (.inl ⟨rfl, h⟩)))) : MK _ b w' F' _)).up hg hn hF (rest_kind s)) OpL.one
  · exact gdRest hg mCoRest eCoRest ((coRest h hs.1).mono fun e w' ho => (ho.with fun F' w' h => ((.inr (.inr (.inr (.inr (.inl ⟨rfl, h⟩))))) : MK _ b w' F' _)).up hg hn hF (rest_kind s)) OpL.one
  · exact gdRest hg mQuRest eQuRest ((qgRest h).mono fun e w' ho => (ho.with fun F' w' h => ((.inr (.inr (.inr (.inr (.inr ⟨rfl, h⟩))))) : MK _ b w' F' _)).up hg hn hF (rest_kind s)) OpL.one
theorem gmWaiting {G : Nat} {w : World} {F : FP} {s : RS} (hgm : GM G w F s) (hs : Small s) : Calls Tryz.prog 21 #[.pointer (some ⟨G, 0, none⟩)] w (WaitP w s) := by
  obtain ⟨TY, b, Fm, hg, hm, hn, hF⟩ := hgm
  rcases hm with ⟨rfl, h⟩ | ⟨rfl, h⟩ | ⟨rfl, h⟩ | ⟨rfl, h⟩ | ⟨rfl, h⟩ | ⟨rfl, h⟩
  · exact gdWaiting hg mLeWaiting eLeWaiting (leWaiting h hs.1) WaitP.one
  · exact gdWaiting hg mHzWaiting eHzWaiting (hzWaiting h hs.1) WaitP.one
  · exact gdWaiting hg mEpWaiting eEpWaiting (epWaiting h hs.1) WaitP.one
  · exact gdWaiting hg mSpWaiting eSpWaiting (spWaiting h hs.1) WaitP.one
  · exact gdWaiting hg mCoWaiting eCoWaiting (coWaiting h hs.1) WaitP.one
  · exact gdWaiting hg mQuWaiting eQuWaiting (quWaiting h.1 hs.1) WaitP.one
theorem gmKind {G : Nat} {w : World} {F : FP} {s : RS} (hgm : GM G w F s) : Calls Tryz.prog 31 #[.pointer (some ⟨G, 0, none⟩)] w fun e w' => e = .returned (.int .i64 s.kind) ∧ w = w' := by
  obtain ⟨TY, b, Fm, hg, hm, hn, hF⟩ := hgm
  exact gdKind hg
theorem GM.ok {G : Nat} {w : World} {F : FP} {s : RS} (hgm : GM G w F s) : Ok s := by
  obtain ⟨TY, b, Fm, hg, hm, hn, hF⟩ := hgm
  rcases hm with ⟨rfl, h⟩ | ⟨rfl, h⟩ | ⟨rfl, h⟩ | ⟨rfl, h⟩ | ⟨rfl, h⟩ | ⟨rfl, h⟩
  · obtain ⟨v, h⟩ := h; exact h.ok
  · obtain ⟨H, cH, v, h⟩ := h; exact h.ok
  · obtain ⟨T, cT, v, h⟩ := h; exact h.ok
  · obtain ⟨M, v, h⟩ := h; exact h.ok
  · obtain ⟨H, cH, M, v, h⟩ := h; exact h.ok
  · exact h.1.ok
end Go.Proofs.YtcgcljmnnjalpaaGreat
set_option linter.unusedVariables false
set_option linter.unusedSimpArgs false
namespace Go.Proofs.YtcgcljmnnjalpaaGreat
open Go.RowKit Go.Kx
open Go.ChangeMaps (setBlock)
def GNewK (k t : Int) (w : World) (e : Ending) (w' : World) : Prop :=
  if (0 ≤ k ∧ k ≤ 5) ∧ 1 ≤ t ∧ t ≤ 4 then ∃ G F, e = .returned (.tuple #[.pointer (some ⟨G, 0, none⟩), .int .i64 0]) ∧ GM G w' F (newS k t.toNat) ∧ Grow w w' ∧ ∀ j, F j → w.heap.size ≤ j
  else e = .returned (.tuple #[.pointer none, .int .i64 1]) ∧ Grow w w'
theorem GNewK.no {k t : Int} {w w' : World} (h : ¬ ((0 ≤ k ∧ k ≤ 5) ∧ 1 ≤ t ∧ t ≤ 4)) (hg : Grow w w') : GNewK k t w (.returned (.tuple #[.pointer none, .int .i64 1])) w' := by
  unfold GNewK; rw [if_neg h]; exact ⟨rfl, hg⟩
theorem GNewK.yes {k t : Int} {w w1 : World} {TY b : Nat} {F : FP} (h : (0 ≤ k ∧ k ≤ 5) ∧ 1 ≤ t ∧ t ≤ 4) (hm : MK TY b w1 F (newS k t.toNat)) (hg : Grow w w1) (hF : ∀ j, F j → w.heap.size ≤ j) :
    GNewK k t w (.returned (.tuple #[.pointer (some ⟨w1.heap.size, 0, none⟩), .int .i64 0])) (w1.alloc (.cells #[.int .i64 k, .iface TY (.pointer (some ⟨b, 0, none⟩))] 66)) := by
  unfold GNewK; rw [if_pos h]
  have hg2 := (Grow.refl w1).alloc (.cells #[.int .i64 k, .iface TY (.pointer (some ⟨b, 0, none⟩))] 66)
  refine ⟨w1.heap.size, fun j => j = w1.heap.size ∨ F j, rfl, ⟨TY, b, F, blk_new _ _, (MK.local TY b).fr hm (G := fun _ => False) hg2 (fun _ _ h => h), fun h => by have := (MK.local TY b).lt hm _ h; omega, fun k => Iff.rfl⟩, hg.trans hg2, fun j hj => hj.elim (fun e => by have := hg.size; omega) (hF j)⟩
set_option maxRecDepth 100000 in
set_option maxHeartbeats 2000000 in
theorem gmNew0 (w : World) (t : Int) : Calls Tryz.prog 18 #[.int .i64 0, .int .i64 t] w (GNewK 0 t w) := by
  refine cph fun R HR => ?_
  by_cases h1 : t < 1
  · have d1 : decide (1 ≤ t) = false := decide_eq_false (by omega)
    go_enter Tryz.func18, Tryz.ntmps18
    go_wp2_with fail
    exact HR.out _ _ (GNewK.no (by omega) (Grow.refl _))
  have d1 : decide (1 ≤ t) = true := decide_eq_true (by omega)
  by_cases h4 : 4 < t
  · have d2 : decide (t ≤ 4) = false := decide_eq_false (by omega)
    go_enter Tryz.func18, Tryz.ntmps18
    go_wp2_with fail
    exact HR.out _ _ (GNewK.no (by omega) (Grow.refl _))
  have d2 : decide (t ≤ 4) = true := decide_eq_true (by omega)
  obtain ⟨n, rfl⟩ := Int.eq_ofNat_of_zero_le (a := t) (by omega)
  have HQ : Hid (LM w.heap.size (w.alloc (.cells #[.int .i64 n, .slice none 0 0] 90)) (fun k => k = w.heap.size ∨ (Value.slice none 0 0).ownBlock = some k) (newS 0 n)) :=
    ⟨.slice none 0 0, rfl, ok_new 0 (by omega) (by omega), blk_new _ _, World.ownsRow_nil _ _ _ _, fun k => Iff.rfl⟩
  go_enter Tryz.func18, Tryz.ntmps18
  go_wp2_with fail
  have hy := (GNewK.yes (k := 0) (t := n) (TY := 88) (b := w.heap.size) (F := fun k => k = w.heap.size ∨ (Value.slice none 0 0).ownBlock = some k) ⟨by omega, by omega, by omega⟩ (.inl ⟨rfl, HQ.out⟩) ((Grow.refl _).alloc _) (fun j hj => by
    rcases hj with rfl | hj
    · exact Nat.le_refl _
    · simp [Value.ownBlock] at hj))
  rw [size_alloc] at hy
  exact HR.out _ _ hy
set_option maxRecDepth 100000 in
set_option maxHeartbeats 2000000 in
theorem gmNew1 (w : World) (t : Int) : Calls Tryz.prog 18 #[.int .i64 1, .int .i64 t] w (GNewK 1 t w) := by
  refine cph fun R HR => ?_
  have hN := hzNew w t
  by_cases ht : 1 ≤ t ∧ t ≤ 4
  · unfold NewP at hN
    simp only [if_pos ht] at hN
    have HN := Lib.hid hN
    clear hN
    go_enter Tryz.func18, Tryz.ntmps18
    go_wp2_with (go_at_call 48; refine HN.out.mono ?_; rintro e w1 ⟨b, F, rfl, hA, hg, hF⟩; have H1 := Lib.hid (And.intro hA (And.intro hg hF)); clear hA hg hF)
    exact HR.out _ _ (GNewK.yes ⟨by omega, ht⟩ (.inr (.inl ⟨rfl, H1.out.1⟩)) H1.out.2.1 H1.out.2.2)
  · unfold NewP at hN
    simp only [if_neg ht] at hN
    have HN := Lib.hid hN
    clear hN
    go_enter Tryz.func18, Tryz.ntmps18
    go_wp2_with (go_at_call 48; refine HN.out.mono ?_; rintro e w1 ⟨rfl, hg⟩; have H1 := Lib.hid hg; clear hg)
    exact HR.out _ _ (GNewK.no (fun h => ht h.2) H1.out)
set_option maxRecDepth 100000 in
set_option maxHeartbeats 2000000 in
theorem gmNew2 (w : World) (t : Int) : Calls Tryz.prog 18 #[.int .i64 2, .int .i64 t] w (GNewK 2 t w) := by
  refine cph fun R HR => ?_
  have hN := epNew w t
  by_cases ht : 1 ≤ t ∧ t ≤ 4
  · unfold NewP at hN
    simp only [if_pos ht] at hN
    have HN := Lib.hid hN
    clear hN
    go_enter Tryz.func18, Tryz.ntmps18
    go_wp2_with (go_at_call 49; refine HN.out.mono ?_; rintro e w1 ⟨b, F, rfl, hA, hg, hF⟩; have H1 := Lib.hid (And.intro hA (And.intro hg hF)); clear hA hg hF)
    exact HR.out _ _ (GNewK.yes ⟨by omega, ht⟩ (.inr (.inr (.inl ⟨rfl, H1.out.1⟩))) H1.out.2.1 H1.out.2.2)
  · unfold NewP at hN
    simp only [if_neg ht] at hN
    have HN := Lib.hid hN
    clear hN
    go_enter Tryz.func18, Tryz.ntmps18
    go_wp2_with (go_at_call 49; refine HN.out.mono ?_; rintro e w1 ⟨rfl, hg⟩; have H1 := Lib.hid hg; clear hg)
    exact HR.out _ _ (GNewK.no (fun h => ht h.2) H1.out)
set_option maxRecDepth 100000 in
set_option maxHeartbeats 2000000 in
theorem gmNew3 (w : World) (t : Int) : Calls Tryz.prog 18 #[.int .i64 3, .int .i64 t] w (GNewK 3 t w) := by
  refine cph fun R HR => ?_
  have hN := spNew w t
  by_cases ht : 1 ≤ t ∧ t ≤ 4
  · unfold NewP at hN
    simp only [if_pos ht] at hN
    have HN := Lib.hid hN
    clear hN
    go_enter Tryz.func18, Tryz.ntmps18
    go_wp2_with (go_at_call 50; refine HN.out.mono ?_; rintro e w1 ⟨b, F, rfl, hA, hg, hF⟩; have H1 := Lib.hid (And.intro hA (And.intro hg hF)); clear hA hg hF)
    exact HR.out _ _ (GNewK.yes ⟨by omega, ht⟩ (.inr (.inr (.inr (.inl ⟨rfl, H1.out.1⟩)))) H1.out.2.1 H1.out.2.2)
  · unfold NewP at hN
    simp only [if_neg ht] at hN
    have HN := Lib.hid hN
    clear hN
    go_enter Tryz.func18, Tryz.ntmps18
    go_wp2_with (go_at_call 50; refine HN.out.mono ?_; rintro e w1 ⟨rfl, hg⟩; have H1 := Lib.hid hg; clear hg)
    exact HR.out _ _ (GNewK.no (fun h => ht h.2) H1.out)
set_option maxRecDepth 100000 in
set_option maxHeartbeats 2000000 in
theorem gmNew4 (w : World) (t : Int) : Calls Tryz.prog 18 #[.int .i64 4, .int .i64 t] w (GNewK 4 t w) := by
  refine cph fun R HR => ?_
  have hN := coNew w t
  by_cases ht : 1 ≤ t ∧ t ≤ 4
  · unfold NewP at hN
    simp only [if_pos ht] at hN
    have HN := Lib.hid hN
    clear hN
    go_enter Tryz.func18, Tryz.ntmps18
    go_wp2_with (go_at_call 51; refine HN.out.mono ?_; rintro e w1 ⟨b, F, rfl, hA, hg, hF⟩; have H1 := Lib.hid (And.intro hA (And.intro hg hF)); clear hA hg hF)
    exact HR.out _ _ (GNewK.yes ⟨by omega, ht⟩ (.inr (.inr (.inr (.inr (.inl ⟨rfl, H1.out.1⟩))))) H1.out.2.1 H1.out.2.2)
  · unfold NewP at hN
    simp only [if_neg ht] at hN
    have HN := Lib.hid hN
    clear hN
    go_enter Tryz.func18, Tryz.ntmps18
    go_wp2_with (go_at_call 51; refine HN.out.mono ?_; rintro e w1 ⟨rfl, hg⟩; have H1 := Lib.hid hg; clear hg)
    exact HR.out _ _ (GNewK.no (fun h => ht h.2) H1.out)
set_option maxRecDepth 100000 in
set_option maxHeartbeats 2000000 in
theorem gmNew5 (w : World) (t : Int) : Calls Tryz.prog 18 #[.int .i64 5, .int .i64 t] w (GNewK 5 t w) := by
  refine cph fun R HR => ?_
  have hN := quNew w t
  by_cases ht : 1 ≤ t ∧ t ≤ 4
  · unfold NewP at hN
    simp only [if_pos ht] at hN
    have HN := Lib.hid hN
    clear hN
    go_enter Tryz.func18, Tryz.ntmps18
    go_wp2_with (go_at_call 52; refine HN.out.mono ?_; rintro e w1 ⟨b, F, rfl, hA, hg, hF⟩; have H1 := Lib.hid (And.intro hA (And.intro hg hF)); clear hA hg hF)
    exact HR.out _ _ (GNewK.yes ⟨by omega, ht⟩ (.inr (.inr (.inr (.inr (.inr ⟨rfl, ⟨H1.out.1, fun x hx => by simp [newS] at hx⟩⟩))))) H1.out.2.1 H1.out.2.2)
  · unfold NewP at hN
    simp only [if_neg ht] at hN
    have HN := Lib.hid hN
    clear hN
    go_enter Tryz.func18, Tryz.ntmps18
    go_wp2_with (go_at_call 52; refine HN.out.mono ?_; rintro e w1 ⟨rfl, hg⟩; have H1 := Lib.hid hg; clear hg)
    exact HR.out _ _ (GNewK.no (fun h => ht h.2) H1.out)
theorem gmNew (w : World) (k t : Int) : Calls Tryz.prog 18 #[.int .i64 k, .int .i64 t] w (GNewK k t w) := by
  by_cases hk : 0 ≤ k ∧ k ≤ 5
  · obtain rfl | rfl | rfl | rfl | rfl | rfl : k = 0 ∨ k = 1 ∨ k = 2 ∨ k = 3 ∨ k = 4 ∨ k = 5 := by omega
    · exact gmNew0 w t
    · exact gmNew1 w t
    · exact gmNew2 w t
    · exact gmNew3 w t
    · exact gmNew4 w t
    · exact gmNew5 w t
  · refine cph fun R HR => ?_
    have e0 : (k == 0) = false := by simp; omega
    have e1 : (k == 1) = false := by simp; omega
    have e2 : (k == 2) = false := by simp; omega
    have e3 : (k == 3) = false := by simp; omega
    have e4 : (k == 4) = false := by simp; omega
    have e5 : (k == 5) = false := by simp; omega
    go_enter Tryz.func18, Tryz.ntmps18
    go_wp2_with fail
    exact HR.out _ _ (GNewK.no (fun h => hk h.1) (Grow.refl _))
end Go.Proofs.YtcgcljmnnjalpaaGreat
