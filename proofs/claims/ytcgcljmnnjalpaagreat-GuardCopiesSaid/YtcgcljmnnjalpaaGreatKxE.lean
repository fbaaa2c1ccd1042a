/- Ranges over functions whose rounds are handed what lies in memory: a law by frames. What the caller may turn is a set M of blocks; it grows by the blocks that a round lays. -/
import Derived.Test.YtcgcljmnnjalpaaGreatKxD
import Derived.RangeFuncNested
import Derived.RangeFuncBound
set_option linter.unusedVariables false
set_option linter.unusedSimpArgs false
namespace Go.Kx
open Go.RowKit
structure Step (M : Nat → Prop) (W : World) (M' : Nat → Prop) (W' : World) : Prop where
  fr : Fr M W W'
  sub : ∀ k, M' k → M k ∨ W.heap.size ≤ k
theorem Step.refl (M : Nat → Prop) (W : World) : Step M W M W := ⟨Fr.refl _ _, fun _ h => .inl h⟩
theorem Step.trans {M M1 M2 : Nat → Prop} {W W1 W2 : World} (h : Step M W M1 W1) (k : Step M1 W1 M2 W2) : Step M W M2 W2 :=
  ⟨h.fr.then k.fr (fun i hi hm => (h.sub i hm).elim id (fun q => by omega)), fun i hi => (k.sub i hi).elim (h.sub i) (fun q => .inr (Nat.le_trans h.fr.size q))⟩
/-- What survives an iterator's steps: new blocks, and the turn of a block from B on that holds no cells. -/
def Keeps {α : Type} (B : Nat) (J : List α → (Nat → Prop) → World → Prop) : Prop :=
  ∀ pre M W W' row, J pre M W → W.grownBy W' row → (∀ r, row = some r → B ≤ r ∧ ∃ o : Obj, W.heap[r]? = some o ∧ o.isCells = false) → J pre M W'
theorem Keeps.putObj {α : Type} {B : Nat} {J : List α → (Nat → Prop) → World → Prop} (h : Keeps B J) {pre : List α} {M : Nat → Prop} {W : World} {l : Nat} {o : Obj} (o' : Obj) (hs : J pre M W) (hB : B ≤ l) (hl : W.heap[l]? = some o) (ho : o.isCells = false) : J pre M (W.putObj l o') :=
  h pre M W _ (some l) hs (grownBy_putObj' W l o') (fun r e => by cases e; exact ⟨hB, o, hl, ho⟩)
theorem Keeps.alloc {α : Type} {B : Nat} {J : List α → (Nat → Prop) → World → Prop} (h : Keeps B J) {pre : List α} {M : Nat → Prop} {W : World} (o : Obj) (hs : J pre M W) : J pre M (W.alloc o) :=
  h pre M W _ none hs (World.grownBy_alloc W o none) (fun r e => by cases e)
theorem Keeps.later {α : Type} {B B' : Nat} {J : List α → (Nat → Prop) → World → Prop} (h : Keeps B J) (hB : B ≤ B') : Keeps B' J :=
  fun pre M W W' row hs hg hr => h pre M W W' row hs hg (fun r e => ⟨Nat.le_trans hB (hr r e).1, (hr r e).2⟩)
theorem own_later {β : Type} {B B' : Nat} {J : β → World → Prop} (h : OwnFrom B J) (hB : B ≤ B') : OwnFrom B' J :=
  fun s W W' row hs hg hr => h s W W' row hs hg (fun r e => ⟨Nat.le_trans hB (hr r e).1, (hr r e).2⟩)
theorem fr_putObj (W : World) (l : Nat) (o : Obj) : Fr (fun k => k = l) W (W.putObj l o) :=
  ⟨rfl, rfl, rfl, by simp, fun k _ hk => World.putObj_heap_other hk⟩
/-- The contract of an iterator's value in the world of its call. -/
def SeqM {α : Type} (F : Fence) (n : Nat) (P : Program) (g : Nat) (lb : Array Value) (encs : α → Array Value) (Rd : α → (Nat → Prop) → World → Prop) (S Sp : List α → Prop) (N : Nat) (own : Nat → Prop) (W : World) : Prop :=
  ∀ (l : Nat) (J : List α → (Nat → Prop) → World → Prop) (Jx : List α → World → Prop) (M0 : Nat → Prop), l < W.heap.size →
    Keeps W.heap.size J → OwnFrom W.heap.size Jx → (∀ pre M w, J pre M w → ∀ k, M k → k < w.heap.size) →
    (∀ pre M x w, J pre M w → Rd x M w → pre.length < N → YieldAt F (n - 1) P l (encs x) w fun e w' =>
      (e = .returned (.bool true) ∧ ∃ M', J (pre ++ [x]) M' w' ∧ Step M w M' w') ∨ (e = .returned (.bool false) ∧ Jx (pre ++ [x]) w' ∧ Fr (fun k => M k ∨ k ≤ l) w w')) →
    (∀ k, own k → ¬ M0 k) → J [] M0 W →
    CallsIn F n P g (#[.func (.yield l) #[] #[]] ++ lb) W fun e w' => (∃ v, e = .returned v) ∧ ((∃ xs M, S xs ∧ J xs M w') ∨ (∃ pre, Sp pre ∧ Jx pre w'))
/-- How a round's body may be left. -/
def mPost {α : Type} (B0 : Nat) (I : List α → (Nat → Prop) → World → Prop) (Ix : Code → List α → World → Prop) (xs : List α) (M : Nat → Prop) (W : World) : Exit → Act → World → Prop
  | .normal, _, W' => ∃ M', Step M W M' W' ∧ I xs M' W'
  | .ret, _, W' => Fr (fun k => M k ∨ k < B0) W W' ∧ Ix .ret xs W'
  | .exit id, _, W' => Fr (fun k => M k ∨ k < B0) W W' ∧ Ix (.exit id) xs W'
  | .goto t, _, W' => Fr (fun k => M k ∨ k < B0) W W' ∧ Ix (.goto t) xs W'
  | .panic _, _, _ => False
  | .outgrown, _, _ => False
variable {F : Fence} {n : Nat} {P : Program}
theorem range_core {α : Type} {ps : Array Tmp} {assign body : Code} {tm : Array Value} {dd fn : Nat} {gf : Nat} {lb : Array Value} {m B B0 l : Nat} {W1 : World} (hfn : F.fn fn)
    (hB : B ≤ l) (hB0 : B0 ≤ l) (hBW : B ≤ W1.heap.size) {rec : LoopState → Option Code → Loop} (hrec : rec = fun st pe => { state := st, pending := pe, fn, tmps := tm, params := ps, assign, body, defers := dd })
    (hl1 : W1.heap[l]? = some (.loop (rec .ready none)))
    {encs : α → Array Value} {Rd : α → (Nat → Prop) → World → Prop} {S Sp : List α → Prop} {N : Nat} {own : Nat → Prop} (hseq : SeqM F m P gf lb encs Rd S Sp N own W1) (hps : ∀ x, (encs x).size = ps.size)
    (I : List α → (Nat → Prop) → World → Prop) (Ix : Code → List α → World → Prop) (hI : Keeps B I) (hIx : ∀ c, OwnFrom B (Ix c)) (hIM : ∀ pre M w, I pre M w → ∀ k, M k → k < w.heap.size)
    (hRd : ∀ x M, OwnFrom B (fun (_ : Unit) W => Rd x M W)) (M0 : Nat → Prop) (hM0 : ∀ k, own k → ¬ M0 k) (hM0l : ¬ M0 l) (h0 : I [] M0 W1)
    (Ax : α → Act → World → Prop) (hAx : ∀ x a', OwnFrom B (fun (_ : Unit) W => Ax x a' W))
    (hassign : ∀ (pre : List α) (M : Nat → Prop) (x : α) (W : World) (K : Act → World → Prop), I pre M W → Rd x M W → (∀ a' M' W', Step M W M' W' → I pre M' W' → Rd x M' W' → Ax x a' W' → K a' W') →
      assign.wpIn (F.inRound l) (m - 1) P (Exit.then K (fun _ _ _ => False)) { tmps := (ps.zip (encs x)).foldl (fun t (p, v) => t.setIfInBounds p v) tm, defers := [] } W)
    (hbody : ∀ (pre : List α) (M : Nat → Prop) (x : α) (a' : Act) (W : World), ¬ M l → W.heap[l]? = some (.loop { rec .ready none with state := .busy }) → I pre M W → Rd x M W → Ax x a' W → pre.length < N →
      body.wpIn (F.inRound l) (m - 1) P (mPost B0 I Ix (pre ++ [x]) M W) a' W) :
    CallsIn F m P gf (#[.func (.yield l) #[] #[]] ++ lb) W1 fun e W' => (∃ v, e = .returned v) ∧
      ((∃ xs M, S xs ∧ I xs M W' ∧ W'.heap[l]? = some (.loop (rec .ready none))) ∨ (∃ pre c, Sp pre ∧ Ix c pre W' ∧ W'.heap[l]? = some (.loop (rec .done (some c))))) := by
  have hl1t : l < W1.heap.size := (Array.getElem?_eq_some_iff.1 hl1).1
  refine (hseq l (fun pre M W => I pre M W ∧ ¬ M l ∧ W.heap[l]? = some (.loop (rec .ready none))) (fun pre W => ∃ c, Ix c pre W ∧ W.heap[l]? = some (.loop (rec .done (some c)))) M0 hl1t ?_ ?_ ?_ ?_ hM0 ⟨h0, hM0l, hl1⟩).mono ?_
  · intro pre M W W' row hs hg hr
    exact ⟨hI pre M W W' row hs.1 hg (fun r e => ⟨Nat.le_trans hBW (hr r e).1, (hr r e).2⟩), hs.2.1, (hg.block l (Array.getElem?_eq_some_iff.1 hs.2.2).1 (fun e => by have := (hr l e.symm).1; omega)).trans hs.2.2⟩
  · intro pre W W' row hs hg hr
    obtain ⟨c, hc, hl⟩ := hs
    exact ⟨c, hIx c pre W W' row hc hg (fun r e => ⟨Nat.le_trans hBW (hr r e).1, (hr r e).2⟩), (hg.block l (Array.getElem?_eq_some_iff.1 hl).1 (fun e => by have := (hr l e.symm).1; omega)).trans hl⟩
  · intro pre M w hs
    exact hIM pre M w hs.1
  · rintro pre M x W ⟨hi, hMl, hl⟩ hrd hlen
    have hy := run_yield (P := P) (args := encs x) hl (by rw [hrec]; exact hps x)
    rw [hrec] at hy
    refine ⟨fn, _, assign, body, hy, roundIn_of_wpIn hfn (hassign pre M x W _ hi hrd ?_)⟩
    clear hy
    intro a' Ma Wa hst hia hrda hax
    have hlt : l < W.heap.size := (Array.getElem?_eq_some_iff.1 hl).1
    have hMal : ¬ Ma l := fun h => (hst.sub l h).elim hMl (fun q => by omega)
    have hla : Wa.heap[l]? = some (.loop (rec .ready none)) := hst.fr.at_ hl hMl
    have hlta : l < Wa.heap.size := (Array.getElem?_eq_some_iff.1 hla).1
    refine ⟨_, run_beginRound hla (by rw [hrec]), ?_⟩
    have hl2 : (Wa.putObj l (.loop { rec .ready none with state := .busy })).heap[l]? = some (.loop { rec .ready none with state := .busy }) := World.putObj_heap_same hlta
    refine wpIn_mono (hbody pre Ma x a' _ hMal hl2 (hI.putObj _ hia hB hla rfl) ((hRd x Ma).putObj (s := ()) _ hrda hB hla rfl) ((hAx x a').putObj (s := ()) _ hax hB hla rfl) hlen) ?_
    have fin : ∀ (jump : Option Code) (W3 : World) (Z : Nat → Prop), Fr Z (Wa.putObj l (.loop { rec .ready none with state := .busy })) W3 → ¬ Z l →
        (Instr.endRound l jump).run P W3 = .ok (.bool jump.isNone) (W3.putObj l (.loop (rec (if jump.isNone then .ready else .done) jump))) ∧
        W3.heap[l]? = some (.loop { rec .ready none with state := .busy }) ∧
        (W3.putObj l (.loop (rec (if jump.isNone then .ready else .done) jump))).heap[l]? = some (.loop (rec (if jump.isNone then .ready else .done) jump)) := fun jump W3 Z hk3 hZ => by
      have hl3 := hk3.at_ hl2 hZ
      have := run_endRound (P := P) jump hl3
      rw [hrec] at this ⊢
      exact ⟨this, by rw [hrec] at hl3; exact hl3, World.putObj_heap_same (Array.getElem?_eq_some_iff.1 hl3).1⟩
    have hZl : ¬ (Ma l ∨ l < B0) := fun h => h.elim hMal (fun q => by omega)
    have out : ∀ (o : Obj) (W3 : World), Fr (fun k => Ma k ∨ k < B0) (Wa.putObj l (.loop { rec .ready none with state := .busy })) W3 → Fr (fun k => M k ∨ k ≤ l) W (W3.putObj l o) := fun o W3 hk3 => by
      have h1 := hst.fr.size
      have h2 := hk3.size
      simp at h2
      refine ⟨hk3.os.trans hst.fr.os, hk3.tape.trans hst.fr.tape, hk3.output.trans hst.fr.output, by simp; omega, fun k hk hn => ?_⟩
      have hkl : k ≠ l := fun e => hn (.inr (by omega))
      have hMk : ¬ M k := fun h => hn (.inl h)
      have hMak : ¬ (Ma k ∨ k < B0) := fun h => h.elim (fun q => (hst.sub k q).elim hMk (fun q => by omega)) (fun q => hn (.inr (by omega)))
      rw [World.putObj_heap_other hkl, hk3.blk k (by simp; omega) hMak, World.putObj_heap_other hkl]
      exact hst.fr.blk k hk hMk
    rintro e a3 W3 hp
    cases e with
    | normal =>
      obtain ⟨M', hst3, hi3⟩ := hp
      obtain ⟨hr, hl3, hl4⟩ := fin none W3 Ma hst3.fr hMal
      have hM'l : ¬ M' l := fun h => (hst3.sub l h).elim hMal (fun q => by simp at q; omega)
      refine ⟨_, _, hr, .inl ⟨rfl, M', ⟨hI.putObj _ hi3 hB hl3 rfl, hM'l, hl4⟩, ?_, ?_⟩⟩
      · refine ⟨hst.fr.os ▸ ?_, ?_, ?_, ?_, ?_⟩
        · exact hst3.fr.os
        · exact hst3.fr.tape.trans hst.fr.tape
        · exact hst3.fr.output.trans hst.fr.output
        · have h1 := hst.fr.size
          have h2 := hst3.fr.size
          simp at h2 ⊢
          omega
        · intro k hk hMk
          have h1 := hst.fr.size
          by_cases hkl : k = l
          · subst hkl; exact hl4.trans hl.symm
          · have hMak : ¬ Ma k := fun h => (hst.sub k h).elim hMk (fun q => by omega)
            rw [World.putObj_heap_other hkl, hst3.fr.blk k (by simp; omega) hMak, World.putObj_heap_other hkl]
            exact hst.fr.blk k hk hMk
      · intro k hk
        have h1 := hst.fr.size
        rcases hst3.sub k hk with h2 | h2
        · exact hst.sub k h2
        · simp at h2; exact .inr (by omega)
    | ret =>
      obtain ⟨hk3, hi3⟩ := hp
      obtain ⟨hr, hl3, hl4⟩ := fin (some .ret) W3 _ hk3 hZl
      exact ⟨_, _, hr, .inr ⟨rfl, ⟨_, (hIx _).putObj _ hi3 hB hl3 rfl, hl4⟩, out _ W3 hk3⟩⟩
    | exit id =>
      obtain ⟨hk3, hi3⟩ := hp
      obtain ⟨hr, hl3, hl4⟩ := fin (some (.exit id)) W3 _ hk3 hZl
      exact ⟨_, _, hr, .inr ⟨rfl, ⟨_, (hIx _).putObj _ hi3 hB hl3 rfl, hl4⟩, out _ W3 hk3⟩⟩
    | goto t =>
      obtain ⟨hk3, hi3⟩ := hp
      obtain ⟨hr, hl3, hl4⟩ := fin (some (.goto t)) W3 _ hk3 hZl
      exact ⟨_, _, hr, .inr ⟨rfl, ⟨_, (hIx _).putObj _ hi3 hB hl3 rfl, hl4⟩, out _ W3 hk3⟩⟩
    | panic ch => exact hp.elim
    | outgrown => exact hp.elim
  · rintro e W2 ⟨hv, (⟨xs, M, hS, hi, _, hl⟩ | ⟨pre, hSp, c, hi, hl⟩)⟩
    · exact ⟨hv, .inl ⟨xs, M, hS, hi, hl⟩⟩
    · exact ⟨hv, .inr ⟨pre, c, hSp, hi, hl⟩⟩
/-- A range over a function, not within a round. -/
theorem range_outer {α : Type} {g : Operand} {ps : Array Tmp} {assign body : Code} {Q : Exit → Act → World → Prop} {a : Act} {w : World}
    (hro : F.round = none) (h1 : 1 ≤ n) {gf : Nat} {lb : Array Value} (hg : a.eval g = .func (.func gf) #[] lb) (hFg : F.fn gf) (eg : ∀ args w, (callFunc gf args).run P w = .ok (.enter gf args) w)
    {encs : α → Array Value} {Rd : α → (Nat → Prop) → World → Prop} {S Sp : List α → Prop} {N : Nat} {own : Nat → Prop} (hseq : ∀ W, Grow w W → W.heap.size = w.heap.size + 2 → SeqM F (n - 1) P gf lb encs Rd S Sp N own W) (hps : ∀ x, (encs x).size = ps.size)
    (I : List α → (Nat → Prop) → World → Prop) (Ix : Code → List α → World → Prop) (hI : Keeps w.heap.size I) (hIx : ∀ c, OwnFrom w.heap.size (Ix c)) (hIM : ∀ pre M w, I pre M w → ∀ k, M k → k < w.heap.size)
    (hRd : ∀ x M, OwnFrom w.heap.size (fun (_ : Unit) W => Rd x M W)) (M0 : Nat → Prop) (hM0 : ∀ k, own k → ¬ M0 k) (h0 : I [] M0 w)
    (Ax : α → Act → World → Prop) (hAx : ∀ x a', OwnFrom w.heap.size (fun (_ : Unit) W => Ax x a' W))
    (hassign : ∀ (l : Nat) (pre : List α) (M : Nat → Prop) (x : α) (W : World) (K : Act → World → Prop), I pre M W → Rd x M W → (∀ a' M' W', Step M W M' W' → I pre M' W' → Rd x M' W' → Ax x a' W' → K a' W') →
      assign.wpIn (F.inRound l) (n - 1 - 1) P (Exit.then K (fun _ _ _ => False)) { tmps := (ps.zip (encs x)).foldl (fun t (p, v) => t.setIfInBounds p v) a.tmps, defers := [] } W)
    (hbody : ∀ (l : Nat) (pre : List α) (M : Nat → Prop) (x : α) (a' : Act) (W : World), ¬ M l → (∃ r, W.heap[l]? = some (.loop r)) → I pre M W → Rd x M W → Ax x a' W → pre.length < N →
      body.wpIn (F.inRound l) (n - 1 - 1) P (mPost w.heap.size I Ix (pre ++ [x]) M W) a' W)
    (hdone : ∀ (D : Nat) (xs : List α) (M : Nat → Prop) (W : World), w.heap.size ≤ D → S xs → I xs M W → ¬ M D → W.heap[D]? = some (.deferred (some [])) → Q .normal { a with defers := { target := .collected D, args := #[] } :: a.defers } W)
    (hstop : ∀ (D : Nat) (c : Code) (pre : List α) (W : World), w.heap.size ≤ D → Sp pre → Ix c pre W → W.heap[D]? = some (.deferred (some [])) → c.wpIn F n P Q { a with defers := { target := .collected D, args := #[] } :: a.defers } W) :
    (Code.rangeFunc g ps assign body).wpIn F n P Q a w := by
  refine wpIn_rangeFunc ?_
  intro fn hfn
  rw [hro]
  obtain ⟨rec, hrec⟩ : ∃ rec : LoopState → Option Code → Loop, rec = fun st pe => { state := st, pending := pe, fn, tmps := a.tmps, params := ps, assign, body, defers := w.heap.size } := ⟨_, rfl⟩
  obtain ⟨W1, hW1⟩ : ∃ W1, (w.alloc (.deferred (some []))).alloc (.loop (rec .ready none)) = W1 := ⟨_, rfl⟩
  have hL1 : W1.heap[w.heap.size + 1]? = some (.loop (rec .ready none)) := by
    rw [← hW1]; have := World.alloc_heap_new (w.alloc (.deferred (some []))) (.loop (rec .ready none)); rwa [World.size_alloc] at this
  have hK1 : W1.heap[w.heap.size]? = some (.deferred (some [])) := by
    rw [← hW1]; exact (Below.heap_alloc _ _ _ (by simp)).trans (World.alloc_heap_new w _)
  have hI1 : I [] M0 W1 := by rw [← hW1]; exact hI.alloc _ (hI.alloc _ h0)
  have hsz : W1.heap.size = w.heap.size + 2 := by rw [← hW1]; simp
  have hgr : Grow w W1 := by rw [← hW1]; exact ((Grow.refl w).alloc _).alloc _
  have hM0b := hIM _ _ _ h0
  refine ⟨w.heap.size + 1, [{ target := .collected w.heap.size, args := #[] }], W1, { target := .fn (.func gf) lb, args := #[.func (.yield (w.heap.size + 1)) #[] #[]] }, W1, gf,
    #[.func (.yield (w.heap.size + 1)) #[] #[]] ++ lb, W1, ?_, ?_, ?_, ?_, fun _ => h1, ?_⟩
  · rw [← hW1, hrec]; exact run_enterLoop_outer _ _ _ _ _
  · simp only [resolve, hg]
    simp [go_sem]
  · intro f' hf'; simp [Target.leads] at hf'; subst hf'; exact hFg
  · simp [invoke, go_sem, eg]
  · refine (range_core (P := P) (F := F) (m := n - 1) (B := w.heap.size + 1) (B0 := w.heap.size) (l := w.heap.size + 1) (tm := a.tmps) (dd := w.heap.size) (assign := assign) (body := body) hfn (Nat.le_refl _) (by omega) (by omega) hrec hL1 (hseq W1 hgr hsz) hps
      (fun pre M W => I pre M W ∧ ¬ M w.heap.size ∧ W.heap[w.heap.size]? = some (.deferred (some []))) (fun c pre W => Ix c pre W ∧ W.heap[w.heap.size]? = some (.deferred (some [])))
      ?_ ?_ ?_ (fun x M => own_later (hRd x M) (by omega)) M0 hM0 (fun h => by have := hM0b _ h; omega) ⟨hI1, fun h => by have := hM0b _ h; omega, hK1⟩ Ax (fun x a' => own_later (hAx x a') (by omega)) ?_ ?_).mono ?_
    · rintro pre M W W' row ⟨hi, hd, hk⟩ hg hr
      exact ⟨(hI.later (by omega)) pre M W W' row hi hg hr, hd, (hg.block _ (Array.getElem?_eq_some_iff.1 hk).1 (fun e => by have := (hr _ e.symm).1; omega)).trans hk⟩
    · rintro c pre W W' row ⟨hi, hk⟩ hg hr
      exact ⟨(own_later (hIx c) (by omega)) pre W W' row hi hg hr, (hg.block _ (Array.getElem?_eq_some_iff.1 hk).1 (fun e => by have := (hr _ e.symm).1; omega)).trans hk⟩
    · rintro pre M W ⟨hi, _⟩
      exact hIM pre M W hi
    · rintro pre M x W K ⟨hi, hd, hk⟩ hrd hK
      refine hassign _ pre M x W K hi hrd fun a' M' W' hst hi' hrd' hax => hK a' M' W' hst ⟨hi', fun h => ?_, hst.fr.at_ hk hd⟩ hrd' hax
      have hlt := (Array.getElem?_eq_some_iff.1 hk).1
      exact (hst.sub _ h).elim hd (fun q => by omega)
    · rintro pre M x a' W hMl hl ⟨hi, hd, hk⟩ hrd hax hlen
      refine wpIn_mono (hbody _ pre M x a' W hMl ⟨_, hl⟩ hi hrd hax hlen) ?_
      rintro e a3 W3 hp
      have hlt := (Array.getElem?_eq_some_iff.1 hk).1
      cases e with
      | normal =>
        obtain ⟨M', hst, hi'⟩ := hp
        exact ⟨M', hst, hi', fun h => (hst.sub _ h).elim hd (fun q => by omega), hst.fr.at_ hk hd⟩
      | ret => exact ⟨hp.1, hp.2, hp.1.at_ hk (fun h => h.elim hd (fun q => by omega))⟩
      | exit id => exact ⟨hp.1, hp.2, hp.1.at_ hk (fun h => h.elim hd (fun q => by omega))⟩
      | goto t => exact ⟨hp.1, hp.2, hp.1.at_ hk (fun h => h.elim hd (fun q => by omega))⟩
      | panic ch => exact hp
      | outgrown => exact hp
    · rintro e W2 ⟨⟨v, rfl⟩, (⟨xs, M, hS, ⟨hi, hd, hk⟩, hl⟩ | ⟨pre, c, hSp, ⟨hi, hk⟩, hl⟩)⟩
      · exact ⟨none, _, by have := run_endLoop (P := P) hl (by rw [hrec]; simp); rw [hrec] at this; exact this, hdone _ xs M _ (Nat.le_refl _) hS (hI.putObj _ hi (by omega) hl rfl) hd ((World.putObj_heap_other (by omega)).trans hk)⟩
      · exact ⟨some c, _, by have := run_endLoop (P := P) hl (by rw [hrec]; simp); rw [hrec] at this; exact this, hstop _ c pre _ (Nat.le_refl _) hSp ((hIx c).putObj _ hi (by omega) hl rfl) ((World.putObj_heap_other (by omega)).trans hk)⟩
/-- A range over a function within a round. -/
theorem range_inner {α : Type} {g : Operand} {ps : Array Tmp} {assign body : Code} {Q : Exit → Act → World → Prop} {a : Act} {w : World}
    {l₀ : Nat} {r₀ : Loop} (hro : F.round = some l₀) (hl₀ : w.heap[l₀]? = some (.loop r₀)) (h1 : 1 ≤ n) {gf : Nat} {lb : Array Value} (hg : a.eval g = .func (.func gf) #[] lb) (hFg : F.fn gf) (eg : ∀ args w, (callFunc gf args).run P w = .ok (.enter gf args) w)
    {encs : α → Array Value} {Rd : α → (Nat → Prop) → World → Prop} {S Sp : List α → Prop} {N : Nat} {own : Nat → Prop} (hseq : ∀ W, Grow w W → W.heap.size = w.heap.size + 1 → SeqM F (n - 1) P gf lb encs Rd S Sp N own W) (hps : ∀ x, (encs x).size = ps.size)
    (I : List α → (Nat → Prop) → World → Prop) (Ix : Code → List α → World → Prop) (hI : Keeps w.heap.size I) (hIx : ∀ c, OwnFrom w.heap.size (Ix c)) (hIM : ∀ pre M w, I pre M w → ∀ k, M k → k < w.heap.size)
    (hRd : ∀ x M, OwnFrom w.heap.size (fun (_ : Unit) W => Rd x M W)) (M0 : Nat → Prop) (hM0 : ∀ k, own k → ¬ M0 k) (h0 : I [] M0 w)
    (Ax : α → Act → World → Prop) (hAx : ∀ x a', OwnFrom w.heap.size (fun (_ : Unit) W => Ax x a' W))
    (hassign : ∀ (l : Nat) (pre : List α) (M : Nat → Prop) (x : α) (W : World) (K : Act → World → Prop), I pre M W → Rd x M W → (∀ a' M' W', Step M W M' W' → I pre M' W' → Rd x M' W' → Ax x a' W' → K a' W') →
      assign.wpIn (F.inRound l) (n - 1 - 1) P (Exit.then K (fun _ _ _ => False)) { tmps := (ps.zip (encs x)).foldl (fun t (p, v) => t.setIfInBounds p v) a.tmps, defers := [] } W)
    (hbody : ∀ (l : Nat) (pre : List α) (M : Nat → Prop) (x : α) (a' : Act) (W : World), ¬ M l → (∃ r, W.heap[l]? = some (.loop r)) → I pre M W → Rd x M W → Ax x a' W → pre.length < N →
      body.wpIn (F.inRound l) (n - 1 - 1) P (mPost w.heap.size I Ix (pre ++ [x]) M W) a' W)
    (hdone : ∀ (xs : List α) (M : Nat → Prop) (W : World), S xs → I xs M W → Q .normal a W)
    (hstop : ∀ (c : Code) (pre : List α) (W : World), Sp pre → Ix c pre W → c.wpIn F n P Q a W) :
    (Code.rangeFunc g ps assign body).wpIn F n P Q a w := by
  refine wpIn_rangeFunc ?_
  intro fn hfn
  rw [hro]
  obtain ⟨rec, hrec⟩ : ∃ rec : LoopState → Option Code → Loop, rec = fun st pe => { state := st, pending := pe, fn, tmps := a.tmps, params := ps, assign, body, defers := r₀.defers } := ⟨_, rfl⟩
  obtain ⟨W1, hW1⟩ : ∃ W1, w.alloc (.loop (rec .ready none)) = W1 := ⟨_, rfl⟩
  have hL1 : W1.heap[w.heap.size]? = some (.loop (rec .ready none)) := by rw [← hW1]; exact World.alloc_heap_new w _
  have hI1 : I [] M0 W1 := by rw [← hW1]; exact hI.alloc _ h0
  have hsz : W1.heap.size = w.heap.size + 1 := by rw [← hW1]; simp
  have hgr : Grow w W1 := by rw [← hW1]; exact (Grow.refl w).alloc _
  have hM0b := hIM _ _ _ h0
  refine ⟨w.heap.size, [], W1, { target := .fn (.func gf) lb, args := #[.func (.yield w.heap.size) #[] #[]] }, W1, gf,
    #[.func (.yield w.heap.size) #[] #[]] ++ lb, W1, ?_, ?_, ?_, ?_, fun _ => h1, ?_⟩
  · rw [← hW1, hrec]; exact run_enterLoop_inner hl₀ _ _ _ _ _
  · simp only [resolve, hg]
    simp [go_sem]
  · intro f' hf'; simp [Target.leads] at hf'; subst hf'; exact hFg
  · simp [invoke, go_sem, eg]
  · refine (range_core (P := P) (F := F) (m := n - 1) (B := w.heap.size) (B0 := w.heap.size) (l := w.heap.size) (tm := a.tmps) (dd := r₀.defers) (assign := assign) (body := body) hfn (Nat.le_refl _) (Nat.le_refl _) (by omega) hrec hL1 (hseq W1 hgr hsz) hps
      I Ix hI hIx hIM hRd M0 hM0 (fun h => by have := hM0b _ h; omega) hI1 Ax hAx (hassign _) (fun pre M x a' W hMl hl => hbody _ pre M x a' W hMl ⟨_, hl⟩)).mono ?_
    rintro e W2 ⟨⟨v, rfl⟩, (⟨xs, M, hS, hi, hl⟩ | ⟨pre, c, hSp, hi, hl⟩)⟩
    · exact ⟨none, _, by have := run_endLoop (P := P) hl (by rw [hrec]; simp); rw [hrec] at this; exact this, hdone xs M _ hS (hI.putObj _ hi (Nat.le_refl _) hl rfl)⟩
    · exact ⟨some c, _, by have := run_endLoop (P := P) hl (by rw [hrec]; simp); rw [hrec] at this; exact this, hstop c pre _ hSp ((hIx c).putObj _ hi (Nat.le_refl _) hl rfl)⟩
end Go.Kx
