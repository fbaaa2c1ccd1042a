/- The guard of any kind in memory, and what its functions leave (printed by wip/gen/mkggb.py). -/
import Derived.Test.YtcgcljmnnjalpaaGreatGgA
set_option linter.unusedVariables false
set_option linter.unusedSimpArgs false
namespace Go.Proofs.YtcgcljmnnjalpaaGreat
open Go.RowKit Go.Kx
open Go.ChangeMaps (setBlock)
theorem mLeIn : ∀ w p, Sem.run Tryz.prog (method 299 88 (.pointer (some p)) "In") w = .ok (169, .pointer (some p)) w := fun w p => by kernel_rfl
theorem eLeIn : ∀ args w, (callFunc 169 args).run Tryz.prog w = .ok (.enter 169 args) w := fun args w => by kernel_rfl
theorem mLeOut : ∀ w p, Sem.run Tryz.prog (method 299 88 (.pointer (some p)) "Out") w = .ok (171, .pointer (some p)) w := fun w p => by kernel_rfl
theorem eLeOut : ∀ args w, (callFunc 171 args).run Tryz.prog w = .ok (.enter 171 args) w := fun args w => by kernel_rfl
theorem mLeHold : ∀ w p, Sem.run Tryz.prog (method 299 88 (.pointer (some p)) "Hold") w = .ok (168, .pointer (some p)) w := fun w p => by kernel_rfl
theorem eLeHold : ∀ args w, (callFunc 168 args).run Tryz.prog w = .ok (.enter 168 args) w := fun args w => by kernel_rfl
theorem mLeBorn : ∀ w p, Sem.run Tryz.prog (method 299 88 (.pointer (some p)) "Born") w = .ok (167, .pointer (some p)) w := fun w p => by kernel_rfl
theorem eLeBorn : ∀ args w, (callFunc 167 args).run Tryz.prog w = .ok (.enter 167 args) w := fun args w => by kernel_rfl
theorem mLeRetire : ∀ w p, Sem.run Tryz.prog (method 299 88 (.pointer (some p)) "Retire") w = .ok (173, .pointer (some p)) w := fun w p => by kernel_rfl
theorem eLeRetire : ∀ args w, (callFunc 173 args).run Tryz.prog w = .ok (.enter 173 args) w := fun args w => by kernel_rfl
theorem mLeRest : ∀ w p, Sem.run Tryz.prog (method 299 88 (.pointer (some p)) "Rest") w = .ok (172, .pointer (some p)) w := fun w p => by kernel_rfl
theorem eLeRest : ∀ args w, (callFunc 172 args).run Tryz.prog w = .ok (.enter 172 args) w := fun args w => by kernel_rfl
theorem mLeWaiting : ∀ w p, Sem.run Tryz.prog (method 299 88 (.pointer (some p)) "Waiting") w = .ok (174, .pointer (some p)) w := fun w p => by kernel_rfl
theorem eLeWaiting : ∀ args w, (callFunc 174 args).run Tryz.prog w = .ok (.enter 174 args) w := fun args w => by kernel_rfl
theorem mHzIn : ∀ w p, Sem.run Tryz.prog (method 299 91 (.pointer (some p)) "In") w = .ok (53, .pointer (some p)) w := fun w p => by kernel_rfl
theorem eHzIn : ∀ args w, (callFunc 53 args).run Tryz.prog w = .ok (.enter 53 args) w := fun args w => by kernel_rfl
theorem mHzOut : ∀ w p, Sem.run Tryz.prog (method 299 91 (.pointer (some p)) "Out") w = .ok (54, .pointer (some p)) w := fun w p => by kernel_rfl
theorem eHzOut : ∀ args w, (callFunc 54 args).run Tryz.prog w = .ok (.enter 54 args) w := fun args w => by kernel_rfl
theorem mHzHold : ∀ w p, Sem.run Tryz.prog (method 299 91 (.pointer (some p)) "Hold") w = .ok (55, .pointer (some p)) w := fun w p => by kernel_rfl
theorem eHzHold : ∀ args w, (callFunc 55 args).run Tryz.prog w = .ok (.enter 55 args) w := fun args w => by kernel_rfl
theorem mHzBorn : ∀ w p, Sem.run Tryz.prog (method 299 91 (.pointer (some p)) "Born") w = .ok (176, .pointer (some p)) w := fun w p => by kernel_rfl
theorem eHzBorn : ∀ args w, (callFunc 176 args).run Tryz.prog w = .ok (.enter 176 args) w := fun args w => by kernel_rfl
theorem mHzRetire : ∀ w p, Sem.run Tryz.prog (method 299 91 (.pointer (some p)) "Retire") w = .ok (56, .pointer (some p)) w := fun w p => by kernel_rfl
theorem eHzRetire : ∀ args w, (callFunc 56 args).run Tryz.prog w = .ok (.enter 56 args) w := fun args w => by kernel_rfl
theorem mHzRest : ∀ w p, Sem.run Tryz.prog (method 299 91 (.pointer (some p)) "Rest") w = .ok (57, .pointer (some p)) w := fun w p => by kernel_rfl
theorem eHzRest : ∀ args w, (callFunc 57 args).run Tryz.prog w = .ok (.enter 57 args) w := fun args w => by kernel_rfl
theorem mHzWaiting : ∀ w p, Sem.run Tryz.prog (method 299 91 (.pointer (some p)) "Waiting") w = .ok (74, .pointer (some p)) w := fun w p => by kernel_rfl
theorem eHzWaiting : ∀ args w, (callFunc 74 args).run Tryz.prog w = .ok (.enter 74 args) w := fun args w => by kernel_rfl
theorem mEpIn : ∀ w p, Sem.run Tryz.prog (method 299 94 (.pointer (some p)) "In") w = .ok (58, .pointer (some p)) w := fun w p => by kernel_rfl
theorem eEpIn : ∀ args w, (callFunc 58 args).run Tryz.prog w = .ok (.enter 58 args) w := fun args w => by kernel_rfl
theorem mEpOut : ∀ w p, Sem.run Tryz.prog (method 299 94 (.pointer (some p)) "Out") w = .ok (59, .pointer (some p)) w := fun w p => by kernel_rfl
theorem eEpOut : ∀ args w, (callFunc 59 args).run Tryz.prog w = .ok (.enter 59 args) w := fun args w => by kernel_rfl
theorem mEpHold : ∀ w p, Sem.run Tryz.prog (method 299 94 (.pointer (some p)) "Hold") w = .ok (180, .pointer (some p)) w := fun w p => by kernel_rfl
theorem eEpHold : ∀ args w, (callFunc 180 args).run Tryz.prog w = .ok (.enter 180 args) w := fun args w => by kernel_rfl
theorem mEpBorn : ∀ w p, Sem.run Tryz.prog (method 299 94 (.pointer (some p)) "Born") w = .ok (178, .pointer (some p)) w := fun w p => by kernel_rfl
theorem eEpBorn : ∀ args w, (callFunc 178 args).run Tryz.prog w = .ok (.enter 178 args) w := fun args w => by kernel_rfl
theorem mEpRetire : ∀ w p, Sem.run Tryz.prog (method 299 94 (.pointer (some p)) "Retire") w = .ok (60, .pointer (some p)) w := fun w p => by kernel_rfl
theorem eEpRetire : ∀ args w, (callFunc 60 args).run Tryz.prog w = .ok (.enter 60 args) w := fun args w => by kernel_rfl
theorem mEpRest : ∀ w p, Sem.run Tryz.prog (method 299 94 (.pointer (some p)) "Rest") w = .ok (61, .pointer (some p)) w := fun w p => by kernel_rfl
theorem eEpRest : ∀ args w, (callFunc 61 args).run Tryz.prog w = .ok (.enter 61 args) w := fun args w => by kernel_rfl
theorem mEpWaiting : ∀ w p, Sem.run Tryz.prog (method 299 94 (.pointer (some p)) "Waiting") w = .ok (75, .pointer (some p)) w := fun w p => by kernel_rfl
theorem eEpWaiting : ∀ args w, (callFunc 75 args).run Tryz.prog w = .ok (.enter 75 args) w := fun args w => by kernel_rfl
theorem mSpIn : ∀ w p, Sem.run Tryz.prog (method 299 97 (.pointer (some p)) "In") w = .ok (62, .pointer (some p)) w := fun w p => by kernel_rfl
theorem eSpIn : ∀ args w, (callFunc 62 args).run Tryz.prog w = .ok (.enter 62 args) w := fun args w => by kernel_rfl
theorem mSpOut : ∀ w p, Sem.run Tryz.prog (method 299 97 (.pointer (some p)) "Out") w = .ok (63, .pointer (some p)) w := fun w p => by kernel_rfl
theorem eSpOut : ∀ args w, (callFunc 63 args).run Tryz.prog w = .ok (.enter 63 args) w := fun args w => by kernel_rfl
theorem mSpHold : ∀ w p, Sem.run Tryz.prog (method 299 97 (.pointer (some p)) "Hold") w = .ok (64, .pointer (some p)) w := fun w p => by kernel_rfl
theorem eSpHold : ∀ args w, (callFunc 64 args).run Tryz.prog w = .ok (.enter 64 args) w := fun args w => by kernel_rfl
theorem mSpBorn : ∀ w p, Sem.run Tryz.prog (method 299 97 (.pointer (some p)) "Born") w = .ok (65, .pointer (some p)) w := fun w p => by kernel_rfl
theorem eSpBorn : ∀ args w, (callFunc 65 args).run Tryz.prog w = .ok (.enter 65 args) w := fun args w => by kernel_rfl
theorem mSpRetire : ∀ w p, Sem.run Tryz.prog (method 299 97 (.pointer (some p)) "Retire") w = .ok (66, .pointer (some p)) w := fun w p => by kernel_rfl
theorem eSpRetire : ∀ args w, (callFunc 66 args).run Tryz.prog w = .ok (.enter 66 args) w := fun args w => by kernel_rfl
theorem mSpRest : ∀ w p, Sem.run Tryz.prog (method 299 97 (.pointer (some p)) "Rest") w = .ok (67, .pointer (some p)) w := fun w p => by kernel_rfl
theorem eSpRest : ∀ args w, (callFunc 67 args).run Tryz.prog w = .ok (.enter 67 args) w := fun args w => by kernel_rfl
theorem mSpWaiting : ∀ w p, Sem.run Tryz.prog (method 299 97 (.pointer (some p)) "Waiting") w = .ok (76, .pointer (some p)) w := fun w p => by kernel_rfl
theorem eSpWaiting : ∀ args w, (callFunc 76 args).run Tryz.prog w = .ok (.enter 76 args) w := fun args w => by kernel_rfl
theorem mCoIn : ∀ w p, Sem.run Tryz.prog (method 299 100 (.pointer (some p)) "In") w = .ok (185, .pointer (some p)) w := fun w p => by kernel_rfl
theorem eCoIn : ∀ args w, (callFunc 185 args).run Tryz.prog w = .ok (.enter 185 args) w := fun args w => by kernel_rfl
theorem mCoOut : ∀ w p, Sem.run Tryz.prog (method 299 100 (.pointer (some p)) "Out") w = .ok (68, .pointer (some p)) w := fun w p => by kernel_rfl
theorem eCoOut : ∀ args w, (callFunc 68 args).run Tryz.prog w = .ok (.enter 68 args) w := fun args w => by kernel_rfl
theorem mCoHold : ∀ w p, Sem.run Tryz.prog (method 299 100 (.pointer (some p)) "Hold") w = .ok (69, .pointer (some p)) w := fun w p => by kernel_rfl
theorem eCoHold : ∀ args w, (callFunc 69 args).run Tryz.prog w = .ok (.enter 69 args) w := fun args w => by kernel_rfl
theorem mCoBorn : ∀ w p, Sem.run Tryz.prog (method 299 100 (.pointer (some p)) "Born") w = .ok (184, .pointer (some p)) w := fun w p => by kernel_rfl
theorem eCoBorn : ∀ args w, (callFunc 184 args).run Tryz.prog w = .ok (.enter 184 args) w := fun args w => by kernel_rfl
theorem mCoRetire : ∀ w p, Sem.run Tryz.prog (method 299 100 (.pointer (some p)) "Retire") w = .ok (70, .pointer (some p)) w := fun w p => by kernel_rfl
theorem eCoRetire : ∀ args w, (callFunc 70 args).run Tryz.prog w = .ok (.enter 70 args) w := fun args w => by kernel_rfl
theorem mCoRest : ∀ w p, Sem.run Tryz.prog (method 299 100 (.pointer (some p)) "Rest") w = .ok (187, .pointer (some p)) w := fun w p => by kernel_rfl
theorem eCoRest : ∀ args w, (callFunc 187 args).run Tryz.prog w = .ok (.enter 187 args) w := fun args w => by kernel_rfl
theorem mCoWaiting : ∀ w p, Sem.run Tryz.prog (method 299 100 (.pointer (some p)) "Waiting") w = .ok (77, .pointer (some p)) w := fun w p => by kernel_rfl
theorem eCoWaiting : ∀ args w, (callFunc 77 args).run Tryz.prog w = .ok (.enter 77 args) w := fun args w => by kernel_rfl
theorem mQuIn : ∀ w p, Sem.run Tryz.prog (method 299 103 (.pointer (some p)) "In") w = .ok (71, .pointer (some p)) w := fun w p => by kernel_rfl
theorem eQuIn : ∀ args w, (callFunc 71 args).run Tryz.prog w = .ok (.enter 71 args) w := fun args w => by kernel_rfl
theorem mQuOut : ∀ w p, Sem.run Tryz.prog (method 299 103 (.pointer (some p)) "Out") w = .ok (72, .pointer (some p)) w := fun w p => by kernel_rfl
theorem eQuOut : ∀ args w, (callFunc 72 args).run Tryz.prog w = .ok (.enter 72 args) w := fun args w => by kernel_rfl
theorem mQuHold : ∀ w p, Sem.run Tryz.prog (method 299 103 (.pointer (some p)) "Hold") w = .ok (189, .pointer (some p)) w := fun w p => by kernel_rfl
theorem eQuHold : ∀ args w, (callFunc 189 args).run Tryz.prog w = .ok (.enter 189 args) w := fun args w => by kernel_rfl
theorem mQuBorn : ∀ w p, Sem.run Tryz.prog (method 299 103 (.pointer (some p)) "Born") w = .ok (188, .pointer (some p)) w := fun w p => by kernel_rfl
theorem eQuBorn : ∀ args w, (callFunc 188 args).run Tryz.prog w = .ok (.enter 188 args) w := fun args w => by kernel_rfl
theorem mQuRetire : ∀ w p, Sem.run Tryz.prog (method 299 103 (.pointer (some p)) "Retire") w = .ok (73, .pointer (some p)) w := fun w p => by kernel_rfl
theorem eQuRetire : ∀ args w, (callFunc 73 args).run Tryz.prog w = .ok (.enter 73 args) w := fun args w => by kernel_rfl
theorem mQuRest : ∀ w p, Sem.run Tryz.prog (method 299 103 (.pointer (some p)) "Rest") w = .ok (191, .pointer (some p)) w := fun w p => by kernel_rfl
theorem eQuRest : ∀ args w, (callFunc 191 args).run Tryz.prog w = .ok (.enter 191 args) w := fun args w => by kernel_rfl
theorem mQuWaiting : ∀ w p, Sem.run Tryz.prog (method 299 103 (.pointer (some p)) "Waiting") w = .ok (78, .pointer (some p)) w := fun w p => by kernel_rfl
theorem eQuWaiting : ∀ args w, (callFunc 78 args).run Tryz.prog w = .ok (.enter 78 args) w := fun args w => by kernel_rfl
/-- A manager of any kind at block b. -/
def MK (TY b : Nat) (w : World) (F : FP) (s : RS) : Prop := (TY = 88 ∧ LM b w F s) ∨ (TY = 91 ∧ HZ b w F s) ∨ (TY = 94 ∧ EM b w F s) ∨ (TY = 97 ∧ SP b w F s) ∨ (TY = 100 ∧ CM b w F s) ∨ (TY = 103 ∧ QG b w F s)
theorem MK.local (TY b : Nat) : Local (MK TY b) := by
  refine ⟨fun h k hk => ?_, fun h hf hn => ?_⟩
  · rcases h with ⟨_, h⟩ | ⟨_, h⟩ | ⟨_, h⟩ | ⟨_, h⟩ | ⟨_, h⟩ | ⟨_, h⟩
    · exact (LM.local b).lt h k hk
    · exact (HZ.local b).lt h k hk
    · exact (EM.local b).lt h k hk
    · exact (SP.local b).lt h k hk
    · exact (CM.local b).lt h k hk
    · exact (QG.local b).lt h k hk
  · rcases h with ⟨e, h⟩ | ⟨e, h⟩ | ⟨e, h⟩ | ⟨e, h⟩ | ⟨e, h⟩ | ⟨e, h⟩
    · exact (.inl ⟨e, (LM.local b).fr h hf hn⟩)
    · exact (.inr (.inl ⟨e, (HZ.local b).fr h hf hn⟩))
    · exact (.inr (.inr (.inl ⟨e, (EM.local b).fr h hf hn⟩)))
    · exact (.inr (.inr (.inr (.inl ⟨e, (SP.local b).fr h hf hn⟩))))
    · exact (.inr (.inr (.inr (.inr (.inl ⟨e, (CM.local b).fr h hf hn⟩)))))
    · exact (.inr (.inr (.inr (.inr (.inr ⟨e, (QG.local b).fr h hf hn⟩)))))
/-- A guard at block G, of the state s. -/
def GM (G : Nat) (w : World) (F : FP) (s : RS) : Prop := ∃ TY b Fm, GBlk w G s.kind TY b ∧ MK TY b w Fm s ∧ ¬ Fm G ∧ ∀ k, F k ↔ (k = G ∨ Fm k)
theorem GM.local (G : Nat) : Local (GM G) := by
  refine ⟨fun ⟨TY, b, Fm, hg, hm, hn, hF⟩ k hk => ?_, fun ⟨TY, b, Fm, hg, hm, hn, hF⟩ hf hd => ?_⟩
  · rcases (hF k).1 hk with rfl | h
    · exact blk_lt hg
    · exact (MK.local TY b).lt hm k h
  · exact ⟨TY, b, Fm, hf.at_ hg (hd G ((hF G).2 (.inl rfl))), (MK.local TY b).fr hm hf (fun k hk => hd k ((hF k).2 (.inr hk))), hn, hF⟩
section
variable {w w' : World} {G TY b : Nat} {F Fm F' : FP} {k : Int} {r : RO} {e : Ending}
theorem GM.up (hg : GBlk w G k TY b) (hn : ¬ Fm G) (hF : ∀ k, F k ↔ (k = G ∨ Fm k)) {s : RS} (hk : s.kind = k) (ha : MK TY b w' F' s) (hs : Step Fm w F' w') : GM G w' (fun k => k = G ∨ F' k) s ∧ Step F w (fun k => k = G ∨ F' k) w' := by
  have hG := blk_lt hg
  refine ⟨⟨TY, b, F', by rw [hk]; exact hs.fr.at_ hg hn, ha, fun h => (hs.sub G h).elim hn (fun q => by omega), fun k => Iff.rfl⟩, hs.fr.mono fun i _ h => (hF i).2 (.inr h), fun j hj => ?_⟩
  rcases hj with e | h
  · exact .inl ((hF j).2 (.inl e))
  · exact (hs.sub j h).elim (fun q => .inl ((hF j).2 (.inr q))) .inr
theorem OpP.up (hg : GBlk w G k TY b) (hn : ¬ Fm G) (hF : ∀ k, F k ↔ (k = G ∨ Fm k)) (hk : r.st.kind = k) (h : OpP (MK TY b) w Fm r e w') : OpP (GM G) w F r e w' := by
  obtain ⟨v, F', rfl, ho, ha, hs, hd⟩ := h
  obtain ⟨h1, h2⟩ := GM.up hg hn hF hk ha hs
  exact ⟨v, _, rfl, ho, h1, h2, fun j hj hf => hf.elim (fun q => by have := (ho.lt j hj).1; have := blk_lt hg; omega) (hd j hj)⟩
theorem OpL.up (hg : GBlk w G k TY b) (hn : ¬ Fm G) (hF : ∀ k, F k ↔ (k = G ∨ Fm k)) (hk : r.st.kind = k) (h : OpL (MK TY b) w Fm r e w') : OpL (GM G) w F r e w' := by
  obtain ⟨v, F', rfl, ho, ha, hs, hd⟩ := h
  obtain ⟨h1, h2⟩ := GM.up hg hn hF hk ha hs
  exact ⟨v, _, rfl, ho, h1, h2, fun j hj hf => hf.elim (fun q => by have := (ho.lt j hj).1; have := blk_lt hg; omega) (hd j hj)⟩
theorem OpE.up (hg : GBlk w G k TY b) (hn : ¬ Fm G) (hF : ∀ k, F k ↔ (k = G ∨ Fm k)) (hk : r.st.kind = k) (h : OpE (MK TY b) w Fm r e w') : OpE (GM G) w F r e w' := by
  obtain ⟨F', rfl, ha, hs⟩ := h
  obtain ⟨h1, h2⟩ := GM.up hg hn hF hk ha hs
  exact ⟨_, rfl, h1, h2⟩
end
theorem OpL.with {At At' : World → FP → RS → Prop} {w : World} {F : FP} {r : RO} {e : Ending} {w' : World} (h : OpL At w F r e w') (hh : ∀ F' w', At w' F' r.st → At' w' F' r.st) : OpL At' w F r e w' := by
  obtain ⟨v, F', h1, h2, h3, h4⟩ := h
  exact ⟨v, F', h1, h2, hh _ _ h3, h4⟩
theorem OpE.with {At At' : World → FP → RS → Prop} {w : World} {F : FP} {r : RO} {e : Ending} {w' : World} (h : OpE At w F r e w') (hh : ∀ F' w', At w' F' r.st → At' w' F' r.st) : OpE At' w F r e w' := by
  obtain ⟨F', h1, h3, h4⟩ := h
  exact ⟨F', h1, hh _ _ h3, h4⟩
theorem OpP.pair {At : World → FP → RS → Prop} {w : World} {F : FP} {r : RO} : IsPair (OpP At w F r) := fun e w' ⟨v, F', h, _⟩ => ⟨v, _, h⟩
theorem OpL.one {At : World → FP → RS → Prop} {w : World} {F : FP} {r : RO} : IsOne (OpL At w F r) := fun e w' ⟨v, F', h, _⟩ => ⟨v, h⟩
theorem OpE.one {At : World → FP → RS → Prop} {w : World} {F : FP} {r : RO} : IsOne (OpE At w F r) := fun e w' ⟨F', h, _⟩ => ⟨_, h⟩
theorem WaitP.one {w : World} {s : RS} : IsOne (WaitP w s) := fun e w' ⟨v, h, _⟩ => ⟨v, h⟩
theorem sweep_kind (s : RS) (p : Itm → Bool) : (sweepS s p).st.kind = s.kind := rfl
theorem try_kind (s : RS) : (tryS s).st.kind = s.kind := by unfold tryS; split <;> rfl
theorem in_kind (s : RS) (t : Int) : (inS s t).st.kind = s.kind := by unfold inS; split <;> rfl
theorem out_kind (s : RS) (t : Int) : (outS s t).st.kind = s.kind := by unfold outS; split <;> (try split) <;> rfl
theorem hold_kind (s : RS) (t k a : Int) : (holdS s t k a).st.kind = s.kind := by unfold holdS; split <;> (try split) <;> (try split) <;> rfl
theorem born_kind (s : RS) (a : Int) : (bornS s a).st.kind = s.kind := by unfold bornS; split <;> (try split) <;> rfl
theorem ret_kind (s : RS) (t a : Int) : (retS s t a).st.kind = s.kind := by
  unfold retS
  split
  · split
    · rfl
    · split
      · split <;> rfl
      · split
        · rw [try_kind]; rfl
        · rfl
  · rfl
theorem seq_kind : ∀ (l : List (RS → RO)) (s : RS), (∀ f ∈ l, ∀ s, (f s).st.kind = s.kind) → (seqS s l).st.kind = s.kind
  | [], s, _ => rfl
  | f :: l, s, h => by
    show (seqS (f s).st l).st.kind = s.kind
    rw [seq_kind l _ fun g hg => h g (by simp [hg]), h f (by simp)]
theorem rest_kind (s : RS) : (restS s).st.kind = s.kind := by
  unfold restS
  split
  · exact seq_kind _ _ fun f hf s => by obtain ⟨t, _, rfl⟩ := List.mem_map.1 hf; rfl
  · split
    · exact seq_kind _ _ fun f hf s => by
        rw [show f = tryS by simpa using hf]; exact try_kind s
    · rfl
theorem gmIn {G : Nat} {w : World} {F : FP} {s : RS} (hgm : GM G w F s) (hs : Small s) (t : Int) : Calls Tryz.prog 23 #[.pointer (some ⟨G, 0, none⟩), .int .i64 t] w (OpP (GM G) w F (inS s t)) := by
  obtain ⟨TY, b, Fm, hg, hm, hn, hF⟩ := hgm
  rcases hm with ⟨rfl, h⟩ | ⟨rfl, h⟩ | ⟨rfl, h⟩ | ⟨rfl, h⟩ | ⟨rfl, h⟩ | ⟨rfl, h⟩
  · exact gdIn hg mLeIn eLeIn t ((leIn h t).mono fun e w' ho => (ho.with fun F' w' h => ((.inl ⟨rfl, h⟩) : MK _ b w' F' _)).up hg hn hF (in_kind s t)) OpP.pair
  · exact gdIn hg mHzIn eHzIn t ((hzIn h t).mono fun e w' ho => (ho.with fun F' w' h => ((.inr (.inl ⟨rfl, h⟩)) : MK _ b w' F' _)).up hg hn hF (in_kind s t)) OpP.pair
  · exact gdIn hg mEpIn eEpIn t ((epIn h t).mono fun e w' ho => (ho.with fun F' w' h => ((.inr (.inr (.inl ⟨rfl, h⟩))) : MK _ b w' F' _)).up hg hn hF (in_kind s t)) OpP.pair
  · exact gdIn hg mSpIn eSpIn t ((spIn h t).mono fun e w' ho => (ho.with fun F' w' h => ((.inr (.inr (.inr (.inl ⟨rfl, h⟩)))) : MK _ b w' F' _)).up hg hn hF (in_kind s t)) OpP.pair
  · exact gdIn hg mCoIn eCoIn t ((coIn h t).mono fun e w' ho => (ho.with fun F' w' h => ((.inr (.inr (.inr (.inr (.inl ⟨rfl, h⟩))))) : MK _ b w' F' _)).up hg hn hF (in_kind s t)) OpP.pair
  · exact gdIn hg mQuIn eQuIn t ((qgIn h t).mono fun e w' ho => (ho.with fun F' w' h => ((.inr (.inr (.inr (.inr (.inr ⟨rfl, h⟩))))) : MK _ b w' F' _)).up hg hn hF (in_kind s t)) OpP.pair
theorem gmOut {G : Nat} {w : World} {F : FP} {s : RS} (hgm : GM G w F s) (hs : Small s) (t : Int) : Calls Tryz.prog 26 #[.pointer (some ⟨G, 0, none⟩), .int .i64 t] w (OpP (GM G) w F (outS s t)) := by
  obtain ⟨TY, b, Fm, hg, hm, hn, hF⟩ := hgm
  rcases hm with ⟨rfl, h⟩ | ⟨rfl, h⟩ | ⟨rfl, h⟩ | ⟨rfl, h⟩ | ⟨rfl, h⟩ | ⟨rfl, h⟩
  · exact gdOut hg mLeOut eLeOut t ((leOut h t).mono fun e w' ho => (ho.with fun F' w' h => ((.inl ⟨rfl, h⟩) : MK _ b w' F' _)).up hg hn hF (out_kind s t)) OpP.pair
  · exact gdOut hg mHzOut eHzOut t ((hzOut h t).mono fun e w' ho => (ho.with fun F' w' h => ((.inr (.inl ⟨rfl, h⟩)) : MK _ b w' F' _)).up hg hn hF (out_kind s t)) OpP.pair
  · exact gdOut hg mEpOut eEpOut t ((epOut h t).mono fun e w' ho => (ho.with fun F' w' h => ((.inr (.inr (.inl ⟨rfl, h⟩))) : MK _ b w' F' _)).up hg hn hF (out_kind s t)) OpP.pair
  · exact gdOut hg mSpOut eSpOut t ((spOut h hs.1 t).mono fun e w' ho => (ho.with fun F' w' h => ((.inr (.inr (.inr (.inl ⟨rfl, h⟩)))) : MK _ b w' F' _)).up hg hn hF (out_kind s t)) OpP.pair
  · exact gdOut hg mCoOut eCoOut t ((coOut h hs.1 t).mono fun e w' ho => (ho.with fun F' w' h => ((.inr (.inr (.inr (.inr (.inl ⟨rfl, h⟩))))) : MK _ b w' F' _)).up hg hn hF (out_kind s t)) OpP.pair
  · exact gdOut hg mQuOut eQuOut t ((qgOut h hs.1 t).mono fun e w' ho => (ho.with fun F' w' h => ((.inr (.inr (.inr (.inr (.inr ⟨rfl, h⟩))))) : MK _ b w' F' _)).up hg hn hF (out_kind s t)) OpP.pair
theorem gmHold {G : Nat} {w : World} {F : FP} {s : RS} (hgm : GM G w F s) (hs : Small s) (t : Int) (k' : Int) (a : Int) : Calls Tryz.prog 25 #[.pointer (some ⟨G, 0, none⟩), .int .i64 t, .int .i64 k', .int .i64 a] w (OpP (GM G) w F (holdS s t k' a)) := by
  obtain ⟨TY, b, Fm, hg, hm, hn, hF⟩ := hgm
  rcases hm with ⟨rfl, h⟩ | ⟨rfl, h⟩ | ⟨rfl, h⟩ | ⟨rfl, h⟩ | ⟨rfl, h⟩ | ⟨rfl, h⟩
  · exact gdHold hg mLeHold eLeHold t k' a ((leHold h t k' a).mono fun e w' ho => (ho.with fun F' w' h => ((.inl ⟨rfl, h⟩) : MK _ b w' F' _)).up hg hn hF (hold_kind s t k' a)) OpP.pair
  · exact gdHold hg mHzHold eHzHold t k' a ((hzHold h t k' a).mono fun e w' ho => (ho.with fun F' w' h => ((.inr (.inl ⟨rfl, h⟩)) : MK _ b w' F' _)).up hg hn hF (hold_kind s t k' a)) OpP.pair
  · exact gdHold hg mEpHold eEpHold t k' a ((epHold h t k' a).mono fun e w' ho => (ho.with fun F' w' h => ((.inr (.inr (.inl ⟨rfl, h⟩))) : MK _ b w' F' _)).up hg hn hF (hold_kind s t k' a)) OpP.pair
  · exact gdHold hg mSpHold eSpHold t k' a ((spHold h t k' a).mono fun e w' ho => (ho.with fun F' w' h => ((.inr (.inr (.inr (.inl ⟨rfl, h⟩)))) : MK _ b w' F' _)).up hg hn hF (hold_kind s t k' a)) OpP.pair
  · exact gdHold hg mCoHold eCoHold t k' a ((coHold h hs.1 t k' a).mono fun e w' ho => (ho.with fun F' w' h => ((.inr (.inr (.inr (.inr (.inl ⟨rfl, h⟩))))) : MK _ b w' F' _)).up hg hn hF (hold_kind s t k' a)) OpP.pair
  · exact gdHold hg mQuHold eQuHold t k' a ((qgHold h t k' a).mono fun e w' ho => (ho.with fun F' w' h => ((.inr (.inr (.inr (.inr (.inr ⟨rfl, h⟩))))) : MK _ b w' F' _)).up hg hn hF (hold_kind s t k' a)) OpP.pair
theorem gmBorn {G : Nat} {w : World} {F : FP} {s : RS} (hgm : GM G w F s) (hs : Small s) (a : Int) : Calls Tryz.prog 37 #[.pointer (some ⟨G, 0, none⟩), .int .i64 a] w (OpE (GM G) w F (bornS s a)) := by
  obtain ⟨TY, b, Fm, hg, hm, hn, hF⟩ := hgm
  rcases hm with ⟨rfl, h⟩ | ⟨rfl, h⟩ | ⟨rfl, h⟩ | ⟨rfl, h⟩ | ⟨rfl, h⟩ | ⟨rfl, h⟩
  · exact gdBorn hg mLeBorn eLeBorn a ((leBorn h a).mono fun e w' ho => (ho.with fun F' w' h => ((.inl ⟨rfl, h⟩) : MK _ b w' F' _)).up hg hn hF (born_kind s a)) OpE.one
  · exact gdBorn hg mHzBorn eHzBorn a ((hzBorn h a).mono fun e w' ho => (ho.with fun F' w' h => ((.inr (.inl ⟨rfl, h⟩)) : MK _ b w' F' _)).up hg hn hF (born_kind s a)) OpE.one
  · exact gdBorn hg mEpBorn eEpBorn a ((epBorn h a).mono fun e w' ho => (ho.with fun F' w' h => ((.inr (.inr (.inl ⟨rfl, h⟩))) : MK _ b w' F' _)).up hg hn hF (born_kind s a)) OpE.one
  · exact gdBorn hg mSpBorn eSpBorn a ((spBorn h hs.2 a).mono fun e w' ho => (ho.with fun F' w' h => ((.inr (.inr (.inr (.inl ⟨rfl, h⟩)))) : MK _ b w' F' _)).up hg hn hF (born_kind s a)) OpE.one
  · exact gdBorn hg mCoBorn eCoBorn a ((coBorn h a).mono fun e w' ho => (ho.with fun F' w' h => ((.inr (.inr (.inr (.inr (.inl ⟨rfl, h⟩))))) : MK _ b w' F' _)).up hg hn hF (born_kind s a)) OpE.one
  · exact gdBorn hg mQuBorn eQuBorn a ((qgBorn h a).mono fun e w' ho => (ho.with fun F' w' h => ((.inr (.inr (.inr (.inr (.inr ⟨rfl, h⟩))))) : MK _ b w' F' _)).up hg hn hF (born_kind s a)) OpE.one
theorem gmRetire {G : Nat} {w : World} {F : FP} {s : RS} (hgm : GM G w F s) (hs : Small s) (t : Int) (a : Int) : Calls Tryz.prog 38 #[.pointer (some ⟨G, 0, none⟩), .int .i64 t, .int .i64 a] w (OpP (GM G) w F (retS s t a)) := by
  obtain ⟨TY, b, Fm, hg, hm, hn, hF⟩ := hgm
  rcases hm with ⟨rfl, h⟩ | ⟨rfl, h⟩ | ⟨rfl, h⟩ | ⟨rfl, h⟩ | ⟨rfl, h⟩ | ⟨rfl, h⟩
  · exact gdRetire hg mLeRetire eLeRetire t a ((leRetire h hs.1 t a).mono fun e w' ho => (ho.with fun F' w' h => ((.inl ⟨rfl, h⟩) : MK _ b w' F' _)).up hg hn hF (ret_kind s t a)) OpP.pair
  · exact gdRetire hg mHzRetire eHzRetire t a ((hzRetire h hs.1 t a).mono fun e w' ho => (ho.with fun F' w' h => ((.inr (.inl ⟨rfl, h⟩)) : MK _ b w' F' _)).up hg hn hF (ret_kind s t a)) OpP.pair
  · exact gdRetire hg mEpRetire eEpRetire t a ((epRetire h hs.1 hs.2 t a).mono fun e w' ho => (ho.with fun F' w' h => ((.inr (.inr (.inl ⟨rfl, h⟩))) : MK _ b w' F' _)).up hg hn hF (ret_kind s t a)) OpP.pair
  · exact gdRetire hg mSpRetire eSpRetire t a ((spRetire h hs.1 t a).mono fun e w' ho => (ho.with fun F' w' h => ((.inr (.inr (.inr (.inl ⟨rfl, h⟩)))) : MK _ b w' F' _)).up hg hn hF (ret_kind s t a)) OpP.pair
  · exact gdRetire hg mCoRetire eCoRetire t a ((coRetire h hs.1 t a).mono fun e w' ho => (ho.with fun F' w' h => ((.inr (.inr (.inr (.inr (.inl ⟨rfl, h⟩))))) : MK _ b w' F' _)).up hg hn hF (ret_kind s t a)) OpP.pair
  · exact gdRetire hg mQuRetire eQuRetire t a ((qgRetire h hs.1 t a).mono fun e w' ho => (ho.with fun F' w' h => ((.inr (.inr (.inr (.inr (.inr ⟨rfl, h⟩))))) : MK _ b w' F' _)).up hg hn hF (ret_kind s t a)) OpP.pair
theorem gmRest {G : Nat} {w : World} {F : FP} {s : RS} (hgm : GM G w F s) (hs : Small s) : Calls Tryz.prog 27 #[.pointer (some ⟨G, 0, none⟩)] w (OpL (GM G) w F (restS s)) := by
  obtain ⟨TY, b, Fm, hg, hm, hn, hF⟩ := hgm
  rcases hm with ⟨rfl, h⟩ | ⟨rfl, h⟩ | ⟨rfl, h⟩ | ⟨rfl, h⟩ | ⟨rfl, h⟩ | ⟨rfl, h⟩
  · exact gdRest hg mLeRest eLeRest ((leRest h).mono fun e w' ho => (ho.with fun F' w' h => ((.inl ⟨rfl, h⟩) : MK _ b w' F' _)).up hg hn hF (rest_kind s)) OpL.one
  · exact gdRest hg mHzRest eHzRest ((hzRest h hs.1).mono fun e w' ho => (ho.with fun F' w' h => ((.inr (.inl ⟨rfl, h⟩)) : MK _ b w' F' _)).up hg hn hF (rest_kind s)) OpL.one
  · exact gdRest hg mEpRest eEpRest ((epRest h hs.1 hs.2).mono fun e w' ho => (ho.with fun F' w' h => ((.inr (.inr (.inl ⟨rfl, h⟩))) : MK _ b w' F' _)).up hg hn hF (rest_kind s)) OpL.one
  · exact gdRest hg mSpRest eSpRest ((spRest h hs.1).mono fun e w' ho => (ho.with fun F' w' h => ((.inr (.inr (.inr (.inl ⟨rfl, h⟩)))) : MK _ b w' F' _)).up hg hn hF (rest_kind s)) OpL.one
  · exact gdRest hg mCoRest eCoRest ((coRest h hs.1).mono fun e w' ho => (ho.with fun F' w' h => ((.inr (.inr (.inr (.inr (.inl ⟨rfl, h⟩))))) : MK _ b w' F' _)).up hg hn hF (rest_kind s)) OpL.one
  · exact gdRest hg mQuRest eQuRest ((qgRest h).mono fun e w' ho => (ho.with fun F' w' h => ((.inr (.inr (.inr (.inr (.inr ⟨rfl, h⟩))))) : MK _ b w' F' _)).up hg hn hF (rest_kind s)) OpL.one
theorem gmWaiting {G : Nat} {w : World} {F : FP} {s : RS} (hgm : GM G w F s) (hs : Small s) : Calls Tryz.prog 21 #[.pointer (some ⟨G, 0, none⟩)] w (WaitP w s) := by
  obtain ⟨TY, b, Fm, hg, hm, hn, hF⟩ := hgm
  rcases hm with ⟨rfl, h⟩ | ⟨rfl, h⟩ | ⟨rfl, h⟩ | ⟨rfl, h⟩ | ⟨rfl, h⟩ | ⟨rfl, h⟩
  · exact gdWaiting hg mLeWaiting eLeWaiting (leWaiting h hs.1) WaitP.one
  · exact gdWaiting hg mHzWaiting eHzWaiting (hzWaiting h hs.1) WaitP.one
  · exact gdWaiting hg mEpWaiting eEpWaiting (epWaiting h hs.1) WaitP.one
  · exact gdWaiting hg mSpWaiting eSpWaiting (spWaiting h hs.1) WaitP.one
  · exact gdWaiting hg mCoWaiting eCoWaiting (coWaiting h hs.1) WaitP.one
  · exact gdWaiting hg mQuWaiting eQuWaiting (quWaiting h.1 hs.1) WaitP.one
theorem gmKind {G : Nat} {w : World} {F : FP} {s : RS} (hgm : GM G w F s) : Calls Tryz.prog 31 #[.pointer (some ⟨G, 0, none⟩)] w fun e w' => e = .returned (.int .i64 s.kind) ∧ w = w' := by
  obtain ⟨TY, b, Fm, hg, hm, hn, hF⟩ := hgm
  exact gdKind hg
theorem GM.ok {G : Nat} {w : World} {F : FP} {s : RS} (hgm : GM G w F s) : Ok s := by
  obtain ⟨TY, b, Fm, hg, hm, hn, hF⟩ := hgm
  rcases hm with ⟨rfl, h⟩ | ⟨rfl, h⟩ | ⟨rfl, h⟩ | ⟨rfl, h⟩ | ⟨rfl, h⟩ | ⟨rfl, h⟩
  · obtain ⟨v, h⟩ := h; exact h.ok
  · obtain ⟨H, v, h⟩ := h; exact h.ok
  · obtain ⟨T, v, h⟩ := h; exact h.ok
  · obtain ⟨M, v, h⟩ := h; exact h.ok
  · obtain ⟨H, M, v, h⟩ := h; exact h.ok
  · exact h.1.ok
end Go.Proofs.YtcgcljmnnjalpaaGreat
