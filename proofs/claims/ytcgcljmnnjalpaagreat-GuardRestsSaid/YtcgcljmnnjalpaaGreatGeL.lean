/- The manager that never gives back, in every state. -/
import Derived.Test.YtcgcljmnnjalpaaGreatGeT
set_option linter.unusedVariables false
set_option linter.unusedSimpArgs false
namespace Go.Proofs.YtcgcljmnnjalpaaGreat
open Go.RowKit Go.Kx
open Go.ChangeMaps (setBlock)
def addrs (s : RS) : List Int := s.items.map (·.addr)
theorem addrs_len (s : RS) : (addrs s).length = s.items.length := by simp [addrs]
/-- slices.Clone of ints. -/
def CloneIP (w : World) (l : List Int) (e : Ending) (w' : World) : Prop := ∃ v, e = .returned v ∧ w'.ownsRow w.heap.size 3 1 v l.length (l.map (Value.int .i64)) ∧ Grow w w'
set_option maxRecDepth 100000 in
set_option maxHeartbeats 1000000 in
theorem cloneI_any {w : World} {v : Value} {l : List Int} (h : w.ownsRow 0 3 1 v l.length (l.map (Value.int .i64))) (hn : l.length ≤ 200000) :
    Calls Tryz.prog 88 #[v] w (CloneIP w l) := by
  refine cph fun R HR => ?_
  have q34 : ∀ (w : World) (a : Option Addr) (n c n' c' : Nat), (binOp .eql 34 (.slice a n c) (.slice none n' c')).run Tryz.prog w = .ok (.bool a.isNone) w := fun w a n c n' c' => Lib.run_eql_slice_nil w _ _ a n c n' c' Tryz.underlying34
  obtain ⟨A, cap, rfl, hints, hnone, hcap⟩ := ints_of_own h
  cases A with
  | none =>
    have h0 : l = [] := by
      rcases own_val h with ⟨_, h0⟩ | ⟨g, c, e, _⟩
      · exact List.eq_nil_of_length_eq_zero h0
      · cases e
    have hc : cap = 0 := hnone rfl
    subst h0; subst hc
    clear h hints hnone hcap
    go_enter Tryz.func88, Tryz.ntmps88
    go_wp2_with fail
    exact HR.out _ _ ⟨_, rfl, World.ownsRow_nil _ _ _ _, Grow.refl _⟩
  | some ad =>
    have hl : Hid ((l.map (Value.int .i64)).length = l.length * 1) := by show _ = _; simp
    have hn63 : Hid (0 + l.length ≤ maxLen) := by show _ ≤ _; unfold maxLen; omega
    have hcell : Hid (∀ ad', (some ad : Option Addr) = some ad' → ∀ j u, (l.map (Value.int .i64))[j]? = some u → (w.alloc (.cells #[] 3)).cell? (ad'.add j) = some u) := by
      intro ad' e j u hu
      cases e
      rw [List.getElem?_map] at hu
      obtain ⟨x, hx, rfl⟩ := Option.map_eq_some_iff.1 hu
      obtain ⟨b, off, hA, hc⟩ := hints.resolve_left (by rintro rfl; simp at hx)
      cases hA
      rw [Addr.add_lit]
      exact ((Grow.refl w).alloc _).cell (hc j x hx)
    have hrow : Hid ((w.alloc (.cells #[] 3)).ownsRow w.heap.size 3 1 (.slice (some ⟨w.heap.size, 0, none⟩) 0 0) 0 []) := World.ownsRow_made w #[] 0 (Nat.le_refl _) (by decide) rfl
    clear h hints hnone
    obtain ⟨i0, hi, hz0, hz1, hz2⟩ := info_parts info3x
    go_enter Tryz.func88, Tryz.ntmps88
    go_wp2_with (at_builtin; refine wpList_append_any _ rfl (.tmp 5) (.tmp 6) 34 rfl w.heap.size 3 i0 (.int .i64 0) 1 8 Tryz.underlying34 hi hz0 hz1 hz2 rfl (by decide) _ 0 [] rfl hrow.out (some ad) l.length cap (l.map (Value.int .i64)) rfl hl.out (fun e => by cases e) hcell.out (by intro u hu; obtain ⟨x, _, rfl⟩ := List.mem_map.1 hu; rfl) hn63.out (by omega) ?_ ?_)
    · rw [size_alloc]; omega
    · intro v' w' hown hgrow _ _
      have HO := Lib.hid (And.intro hown hgrow)
      clear hown hgrow
      go_wp2_with fail
      refine HR.out _ _ ⟨v', rfl, by simpa using HO.out.1, ((Grow.refl w).alloc _).grown HO.out.2 (fun k hk => ?_)⟩
      have : w.heap.size = k := by simpa [Value.ownBlock] using hk
      omega
structure LMv (b : Nat) (v : Value) (w : World) (F : FP) (s : RS) : Prop where
  kind : s.kind = 0
  ok : Ok s
  blk : w.heap[b]? = some (.cells #[.int .i64 s.n, v] 90 (0, 0))
  row : w.ownsRow 0 3 1 v (addrs s).length ((addrs s).map (Value.int .i64))
  fp : ∀ k, F k ↔ (k = b ∨ v.ownBlock = some k)
/-- The leaking manager at block b. -/
def LM (b : Nat) (w : World) (F : FP) (s : RS) : Prop := ∃ v, LMv b v w F s
theorem LMv.local_fr {b : Nat} {v : Value} {w w' : World} {F G : FP} {s : RS} (h : LMv b v w F s) (hf : Fr G w w') (hn : ∀ k, F k → ¬ G k) : LMv b v w' F s :=
  ⟨h.kind, h.ok, hf.at_ h.blk (hn b ((h.fp b).2 (.inl rfl))), owns_fr h.row hf (fun k hk => hn k ((h.fp k).2 (.inr hk))), h.fp⟩
theorem LM.local (b : Nat) : Local (LM b) := ⟨fun ⟨v, h⟩ k hk => by
  rcases (h.fp k).1 hk with rfl | hk
  · exact blk_lt h.blk
  · exact (h.row.lt k hk).2, fun ⟨v, h⟩ hf hn => ⟨v, h.local_fr hf hn⟩⟩
theorem LMv.ne {b : Nat} {v : Value} {w : World} {F : FP} {s : RS} (h : LMv b v w F s) : v.ownBlock ≠ some b := by
  intro e
  obtain ⟨c, hc⟩ := owns_blk h.row e
  rw [h.blk] at hc
  have := congrArg (fun o => match o with | some (Obj.cells _ t _) => t | _ => 0) hc
  simp at this
theorem LMv.upd {b : Nat} {v : Value} {w : World} {F : FP} {s s' : RS} (h : LMv b v w F s) (hok : Ok s') (hk : s'.kind = s.kind) (hn : s'.n = s.n) (hit : addrs s' = addrs s) : LMv b v w F s' :=
  ⟨hk.trans h.kind, hok, by rw [hn]; exact h.blk, by rw [hit]; exact h.row, h.fp⟩
theorem leThread {b : Nat} {v : Value} {w : World} {F : FP} {s : RS} (h : LMv b v w F s) (t : Int) : Calls Tryz.prog 175 #[.pointer (some ⟨b, 0, none⟩), .int .i64 t] w fun e w' => e = .returned (.tuple #[.slice none 0 0, .int .i64 (if okTh s t then 0 else 1)]) ∧ w = w' := by
  refine cph fun R HR => ?_
  have k0 := (blk_cell h.blk 0).trans (rfl : _ = some (Value.int .i64 s.n))
  rcases okTh_cases s t h.ok.n4 with ⟨h1, e⟩ | ⟨h1, h2, e⟩ | ⟨h1, h2, e⟩
  · rw [e] at HR
    clear h e
    go_enter Tryz.func175, Tryz.ntmps175
    go_wp2_with fail
    exact HR.out _ _ ⟨rfl, rfl⟩
  · rw [e] at HR
    clear h e
    go_enter Tryz.func175, Tryz.ntmps175
    go_wp2_with fail
    exact HR.out _ _ ⟨rfl, rfl⟩
  · rw [e] at HR
    have h3 : ¬ t < 0 := by omega
    have h4 : ¬ (s.n : Int) ≤ t := by omega
    clear h e
    go_enter Tryz.func175, Tryz.ntmps175
    go_wp2_with fail
    exact HR.out _ _ ⟨rfl, rfl⟩
theorem leIn {b : Nat} {w : World} {F : FP} {s : RS} (h : LM b w F s) (t : Int) : Calls Tryz.prog 169 #[.pointer (some ⟨b, 0, none⟩), .int .i64 t] w (OpP (LM b) w F (inS s t)) := by
  refine cph fun R HR => ?_
  obtain ⟨v, hv⟩ := h
  have HT := Lib.hid (leThread hv t)
  have HF : Hid (OpP (LM b) w F (inS s t) (.returned (.tuple #[.slice none 0 0, .int .i64 (if okTh s t then 0 else 1)])) w) := by
    cases ht : okTh s t
    · have e : inS s t = ⟨s, [], 1⟩ := by simp [inS, ht]
      rw [e]
      exact OpP.none ⟨v, hv⟩ (Step.refl _ _)
    · have hok := hv.ok.in_ t
      have e : inS s t = ⟨(inS s t).st, [], 0⟩ := by simp [inS, ht]
      rw [e]
      exact OpP.none ⟨v, hv.upd hok (by simp [inS, ht]) (by simp [inS, ht]) (by simp [inS, ht, addrs])⟩ (Step.refl _ _)
  clear hv
  generalize (if okTh s t then (0 : Int) else 1) = z at HT HF
  go_enter Tryz.func169, Tryz.ntmps169
  go_wp2_with (go_at_call 175; refine HT.out.mono ?_; rintro e w' ⟨rfl, rfl⟩)
  exact HR.out _ _ HF.out
theorem leOut {b : Nat} {w : World} {F : FP} {s : RS} (h : LM b w F s) (t : Int) : Calls Tryz.prog 171 #[.pointer (some ⟨b, 0, none⟩), .int .i64 t] w (OpP (LM b) w F (outS s t)) := by
  refine cph fun R HR => ?_
  obtain ⟨v, hv⟩ := h
  have HT := Lib.hid (leThread hv t)
  have HF : Hid (OpP (LM b) w F (outS s t) (.returned (.tuple #[.slice none 0 0, .int .i64 (if okTh s t then 0 else 1)])) w) := by
    cases ht : okTh s t
    · have e : outS s t = ⟨s, [], 1⟩ := by simp [outS, ht]
      rw [e]
      exact OpP.none ⟨v, hv⟩ (Step.refl _ _)
    · obtain ⟨k, rfl, hk⟩ := okTh_nat ht
      have e : outS s (k : Int) = ⟨outS0 s k, [], 0⟩ := by simp [outS, ht, hv.kind]
      rw [e]
      exact OpP.none ⟨v, hv.upd (hv.ok.out0 hk) rfl rfl (by simp [outS0, addrs])⟩ (Step.refl _ _)
  clear hv
  generalize (if okTh s t then (0 : Int) else 1) = z at HT HF
  go_enter Tryz.func171, Tryz.ntmps171
  go_wp2_with (go_at_call 175; refine HT.out.mono ?_; rintro e w' ⟨rfl, rfl⟩)
  exact HR.out _ _ HF.out
set_option maxHeartbeats 1000000 in
theorem leHold {b : Nat} {w : World} {F : FP} {s : RS} (h : LM b w F s) (t k a : Int) : Calls Tryz.prog 168 #[.pointer (some ⟨b, 0, none⟩), .int .i64 t, .int .i64 k, .int .i64 a] w (OpP (LM b) w F (holdS s t k a)) := by
  refine cph fun R HR => ?_
  obtain ⟨v, hv⟩ := h
  have HT := Lib.hid (leThread hv t)
  have HV := Lib.hid hv
  rcases holdOk_cases k a with ⟨h1, e⟩ | ⟨h1, h2, e⟩ | ⟨h1, h2, h3, e⟩ | ⟨h1, h2, h3, e⟩
  iterate 3
    have e2 : holdS s t k a = ⟨s, [], 1⟩ := by simp [holdS, e]
    rw [e2] at HR
    clear hv e e2
    go_enter Tryz.func168, Tryz.ntmps168
    go_wp2_with fail
    exact HR.out _ _ (OpP.none ⟨v, HV.out⟩ (Step.refl _ _))
  have HF : Hid (OpP (LM b) w F (holdS s t k a) (.returned (.tuple #[.slice none 0 0, .int .i64 (if okTh s t then 0 else 1)])) w) := by
    cases ht : okTh s t
    · have e : holdS s t k a = ⟨s, [], 1⟩ := by simp [holdS, ht]
      rw [e]
      exact OpP.none ⟨v, hv⟩ (Step.refl _ _)
    · obtain ⟨t', rfl, hk⟩ := okTh_nat ht
      have e : holdS s (t' : Int) k a = ⟨holdS0 s t' k.toNat a, [], 0⟩ := by simp [holdS, ht, e, hv.kind]
      rw [e]
      exact OpP.none ⟨v, hv.upd (hv.ok.hold0 hk (by omega) h3) rfl rfl rfl⟩ (Step.refl _ _)
  clear hv e
  have h4 : ¬ k < 0 := by omega
  have h5 : ¬ 3 ≤ k := by omega
  have h6 : ¬ a < 0 := by omega
  generalize (if okTh s t then (0 : Int) else 1) = z at HT HF
  go_enter Tryz.func168, Tryz.ntmps168
  go_wp2_with (go_at_call 175; refine HT.out.mono ?_; rintro e w' ⟨rfl, rfl⟩)
  exact HR.out _ _ HF.out
theorem leBorn {b : Nat} {w : World} {F : FP} {s : RS} (h : LM b w F s) (a : Int) : Calls Tryz.prog 167 #[.pointer (some ⟨b, 0, none⟩), .int .i64 a] w (OpE (LM b) w F (bornS s a)) := by
  refine cph fun R HR => ?_
  have H := Lib.hid h
  obtain ⟨v, hv⟩ := h
  by_cases ha : a ≤ 0
  · have e : bornS s a = ⟨s, [], 1⟩ := by simp [bornS]; omega
    rw [e] at HR
    clear hv e
    go_enter Tryz.func167, Tryz.ntmps167
    go_wp2_with fail
    exact HR.out _ _ ⟨F, rfl, H.out, Step.refl _ _⟩
  · have e : bornS s a = ⟨s, [], 0⟩ := by simp [bornS, hv.kind]; omega
    rw [e] at HR
    clear hv e
    go_enter Tryz.func167, Tryz.ntmps167
    go_wp2_with fail
    exact HR.out _ _ ⟨F, rfl, H.out, Step.refl _ _⟩
theorem free0 {s : RS} (h : s.kind = 0) (x : Itm) : freeB s x = false := by
  unfold freeB
  rw [if_neg (by omega), if_neg (by omega), if_neg (by omega), if_neg (by omega)]
theorem leRest {b : Nat} {w : World} {F : FP} {s : RS} (h : LM b w F s) : Calls Tryz.prog 172 #[.pointer (some ⟨b, 0, none⟩)] w (OpL (LM b) w F (restS s)) := by
  refine cph fun R HR => ?_
  have H := Lib.hid h
  have e2 : restS s = ⟨s, [], 0⟩ := by
    obtain ⟨v, hv⟩ := h
    have hk := hv.kind
    unfold restS
    rw [if_neg (by omega), if_neg (by omega)]
    exact sweep_none fun x hx => by rw [free0 hk]; simp
  rw [e2] at HR
  clear h
  go_enter Tryz.func172, Tryz.ntmps172
  go_wp2_with fail
  exact HR.out _ _ ⟨_, F, rfl, World.ownsRow_nil _ _ _ _, H.out, Step.refl _ _, fun k hk => by simp [Value.ownBlock] at hk⟩
theorem leWaiting {b : Nat} {w : World} {F : FP} {s : RS} (h : LM b w F s) (hs : s.items.length ≤ 100000) : Calls Tryz.prog 174 #[.pointer (some ⟨b, 0, none⟩)] w (WaitP w s) := by
  refine cph fun R HR => ?_
  obtain ⟨v, hv⟩ := h
  have HC := Lib.hid (cloneI_any hv.row (by rw [addrs_len]; omega))
  have k1 := (blk_cell hv.blk 1).trans (rfl : _ = some v)
  obtain ⟨A, m, c, rfl⟩ := own_sl hv.row
  clear hv
  go_enter Tryz.func174, Tryz.ntmps174
  go_wp2_with (go_at_call 88; refine HC.out.mono ?_; rintro e w' ⟨v', rfl, ho, hg⟩; have HH := Lib.hid (And.intro ho hg); clear ho hg)
  refine HR.out _ _ ⟨v', rfl, ?_, HH.out.2⟩
  rw [wait_ints, ← addrs_len]
  exact HH.out.1
set_option maxRecDepth 100000 in
set_option maxHeartbeats 2000000 in
theorem leRetire {b : Nat} {w : World} {F : FP} {s : RS} (h : LM b w F s) (hs : s.items.length ≤ 100000) (t a : Int) : Calls Tryz.prog 173 #[.pointer (some ⟨b, 0, none⟩), .int .i64 t, .int .i64 a] w (OpP (LM b) w F (retS s t a)) := by
  refine cph fun R HR => ?_
  obtain ⟨v, hv⟩ := h
  have HT := Lib.hid (leThread hv t)
  have HV := Lib.hid hv
  cases ht : okTh s t
  · rw [ht] at HT
    have e : retS s t a = ⟨s, [], 1⟩ := by simp [retS, ht]
    rw [e] at HR
    clear hv e
    go_enter Tryz.func173, Tryz.ntmps173
    go_wp2_with (go_at_call 175; refine HT.out.mono ?_; rintro e w' ⟨rfl, rfl⟩)
    exact HR.out _ _ (OpP.none ⟨v, HV.out⟩ (Step.refl _ _))
  rw [ht] at HT
  by_cases ha : a ≤ 0
  · have e : retS s t a = ⟨s, [], 1⟩ := by simp [retS]; omega
    rw [e] at HR
    clear hv e ht
    go_enter Tryz.func173, Tryz.ntmps173
    go_wp2_with (go_at_call 175; refine HT.out.mono ?_; rintro e w' ⟨rfl, rfl⟩)
    exact HR.out _ _ (OpP.none ⟨v, HV.out⟩ (Step.refl _ _))
  have ha0 : 0 < a := by omega
  have k1 := (blk_cell hv.blk 1).trans (rfl : _ = some v)
  have f1 := blk_free hv.blk 1
  have hbl := blk_lt hv.blk
  obtain ⟨A, cap, rfl, hints, _, _⟩ := ints_of_own hv.row
  have hcon := containsI_any (cap := cap) a hints (by rw [addrs_len]; omega)
  cases hw : waitsB s a
  · have e : retS s t a = ⟨retS0 s t a, [], 0⟩ := by
      simp only [retS, ht, ha0, hw, hv.kind]
      simp
      exact sweep_none fun x hx => by rw [free0 (s := retS0 s t a) hv.kind]; simp
    rw [e] at HR
    rw [waits_mem] at hw
    have hw' : decide (a ∈ addrs s) = false := hw
    rw [hw'] at hcon
    have HC := Lib.hid hcon
    have hokr := Lib.hid (hv.ok.ret0 t a ha0)
    obtain ⟨i0, hi, hz0, hz1, hz2⟩ := info_parts info3x
    have HI := Lib.hid (And.intro hi (And.intro hz0 (And.intro hz1 hz2)))
    have hal : (addrs s).length ≤ 100000 := by rw [addrs_len]; exact hs
    clear hi hz0 hz1 hz2 hv e ht hw hw' hcon hints
    go_enter Tryz.func173, Tryz.ntmps173
    go_wp2_with (first | (go_at_call 175; refine HT.out.mono ?_; rintro e w' ⟨rfl, rfl⟩) | (go_at_call 106; refine HC.out.mono ?_; rintro e w' ⟨rfl, rfl⟩) | (at_builtin; refine wpList_append_own_at _ rfl (.tmp 32) (.tmp 34) 34 rfl 0 3 i0 (.int .i64 0) 1 8 Tryz.underlying34 HI.out.1 HI.out.2.1 HI.out.2.2.1 HI.out.2.2.2 rfl (by decide) _ (addrs s).length ((addrs s).map (Value.int .i64)) rfl (HV.out.row.alloc _) ⟨w.heap.size, 0, none⟩ 1 1 [.int .i64 a] rfl rfl (cell_one_new _ _ _) (by simp [Value.oneCell']) (by unfold maxLen; omega) (by omega) (by simp) ?_; intro v1 w3 hown hgrow _ hat; obtain ⟨g, cap3, rfl⟩ := own_some hown; have hb3 : w3.heap[b]? = some (.cells #[.int .i64 s.n, .slice A (addrs s).length cap] 90 (0, 0)) := (fr_grown hgrow).at_ (blk_alloc' _ HV.out.blk) (fun e => HV.out.ne e); have k1' := (blk_cell hb3 1).trans (rfl : _ = some (Value.slice A (addrs s).length cap)); have f1' := blk_free hb3 1; have H8 := Lib.hid (And.intro hb3 (And.intro hown (And.intro hgrow hat))); clear hb3 hown hgrow hat))
    have hgb : g ≠ b := by
      rintro rfl
      rcases H8.out.2.2.2 with e | e
      · exact HV.out.ne (e ▸ rfl)
      · simp [Value.ownBlock] at e
        omega
    have hb4 := blk_set H8.out.1 1 (.slice (some ⟨g, 0, none⟩) ((addrs s).length + 1) cap3)
    have hq : LM b (w3.setCell ⟨b, 1, none⟩ (.slice (some ⟨g, 0, none⟩) ((addrs s).length + 1) cap3)) (fun k => k = b ∨ (Value.slice (some ⟨g, 0, none⟩) ((addrs s).length + 1) cap3).ownBlock = some k) (retS0 s t a) := by
      refine ⟨_, HV.out.kind, hokr.out, hb4, ?_, fun k => Iff.rfl⟩
      have h1 := owns_fr H8.out.2.1 ((Fr.refl (· = b) w3).setCell ⟨b, 1, none⟩ (.slice (some ⟨g, 0, none⟩) ((addrs s).length + 1) cap3) (.inr rfl)) (fun j hj e => by
        have : g = j := by simpa [Value.ownBlock] using hj
        exact hgb (this.trans e))
      simpa [retS0, addrs, mkItm] using h1
    have hst : Step F w (fun k => k = b ∨ (Value.slice (some ⟨g, 0, none⟩) ((addrs s).length + 1) cap3).ownBlock = some k) (w3.setCell ⟨b, 1, none⟩ (.slice (some ⟨g, 0, none⟩) ((addrs s).length + 1) cap3)) :=
      ⟨(((Fr.refl F w).alloc _).grown H8.out.2.2.1 (fun k e => .inr ((HV.out.fp k).2 (.inr e)))).setCell _ _ (.inr ((HV.out.fp b).2 (.inl rfl))), fun k hk => by
        rcases hk with rfl | hk
        · exact .inl ((HV.out.fp k).2 (.inl rfl))
        · rcases H8.out.2.2.2 with e | e
          · exact .inl ((HV.out.fp k).2 (.inr (e ▸ hk)))
          · rw [e] at hk
            simp at hk
            exact .inr (by omega)⟩
    exact HR.out _ _ (OpP.none hq hst)
  · have e : retS s t a = ⟨s, [], 6⟩ := by simp [retS, ht, ha0, hw]
    rw [e] at HR
    rw [waits_mem] at hw
    have hw' : decide (a ∈ addrs s) = true := hw
    rw [hw'] at hcon
    have HC := Lib.hid hcon
    clear hv e ht hw hw' hcon hints
    go_enter Tryz.func173, Tryz.ntmps173
    go_wp2_with (first | (go_at_call 175; refine HT.out.mono ?_; rintro e w' ⟨rfl, rfl⟩) | (go_at_call 106; refine HC.out.mono ?_; rintro e w' ⟨rfl, rfl⟩))
    exact HR.out _ _ (OpP.none ⟨_, HV.out⟩ (Step.refl _ _))
end Go.Proofs.YtcgcljmnnjalpaaGreat
