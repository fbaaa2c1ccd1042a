/- The iterator over all orders: its contract. -/
import Derived.Test.YtacfchepacfjnaaOdO
import Derived.Sort.LoopGhostIn
set_option linter.unusedVariables false
set_option linter.unusedSimpArgs false
namespace Go.Proofs.Ytacfchepacfjnaa
open Go.RowKit Go.Kx Go.Maps Go.Sort Go.Shelf
attribute [local go_sem] Oper.semAt_some
/-- What is handed over: a slice (its address, length, capacity), and what it reads as. -/
abbrev Elt := (Option Addr × Nat × Nat) × List Int
def encV (x : Elt) : Value := .slice x.1.1 x.1.2.1 x.1.2.2
def RdP (x : Elt) (W : World) : Prop := W.ownsRow 0 3 1 (encV x) x.2.length (x.2.map (Value.int .i64))
def bk (x : Elt) (k : Nat) : Prop := (encV x).ownBlock = some k
def RdL (n : Nat) (x : Elt) (W : World) : Prop := RdP x W ∧ x.2.length = n
def RdM (n : Nat) (x : Elt) (M : Nat → Prop) (W : World) : Prop := RdL n x W ∧ ∀ k, bk x k → k < W.heap.size ∧ ¬ M k
theorem rdP_own (x : Elt) : Own (fun (_ : Unit) W => RdP x W) := fun _ W W' row h hg hr => h.kept hg (own_noncell (W' := W') h hr)
theorem rdP_fr (x : Elt) (M : Nat → Prop) (W W' : World) (h : RdP x W) (hk : ∀ k, bk x k → k < W.heap.size ∧ ¬ M k) (hf : Fr M W W') : RdP x W' := owns_fr h hf (fun k e => (hk k e).2)
theorem rdL_own (n : Nat) (x : Elt) : Own (fun (_ : Unit) W => RdL n x W) := fun _ W W' row h hg hr => ⟨rdP_own x () W W' row h.1 hg hr, h.2⟩
theorem rdL_fr (n : Nat) (x : Elt) (M : Nat → Prop) (W W' : World) (h : RdL n x W) (hk : ∀ k, bk x k → k < W.heap.size ∧ ¬ M k) (hf : Fr M W W') : RdL n x W' := ⟨rdP_fr x M W W' h.1 hk hf, h.2⟩
theorem rdM_keeps (n : Nat) (x : Elt) (M : Nat → Prop) (B : Nat) : OwnFrom B (fun (_ : Unit) W => RdM n x M W) := fun _ W W' row h hg hr =>
  ⟨rdL_own n x () W W' row h.1 hg (fun r e => (hr r e).2), fun k hk => ⟨Nat.lt_of_lt_of_le (h.2 k hk).1 hg.size, (h.2 k hk).2⟩⟩
theorem rdM_nil (M : Nat → Prop) (W : World) : RdM 0 ((none, 0, 0), []) M W := ⟨⟨World.ownsRow_nil _ _ _ _, rfl⟩, fun k h => by simp [bk, encV, Value.ownBlock] at h⟩
theorem room_none (k : Nat) : Fence.wide.room k := fun d h => by cases h
theorem RoundIn.any {m m' : Nat} {P : Program} {l : Nat} {f : FuncId} {tmps : Array Value} {assign body : Code} {w : World} {R : Ending → World → Prop}
    (h : RoundIn Fence.wide m P l f tmps assign body w R) : RoundIn Fence.wide m' P l f tmps assign body w R := ⟨h.1, fun c cs _ => h.2 c cs (room_none _)⟩
theorem yield_any {m : Nat} (m' : Nat) {P : Program} {l : Nat} {args : Array Value} {W : World} {R : Ending → World → Prop} (h : YieldAt Fence.wide m P l args W R) : YieldAt Fence.wide m' P l args W R := by
  obtain ⟨fn, tmps, assign, body, hy, hR⟩ := h
  exact ⟨fn, tmps, assign, body, hy, RoundIn.any hR⟩
theorem step_append_in {F : Fence} {n : Nat} {P : Program} {ops : Array Oper} {o : Oper} {a : Act} {w : World} {K : Act → World → Prop} {Q : Exit → Act → World → Prop} {E : Prop}
    (hg : o.guard = none) (s x : Operand) (t : TypeId) (hop : o.op = Op.call { callee := Callee.builtin Builtin.append, args := #[s, x], argTypes := #[t, t] }) (v xv : Value) (hs : a.eval s = v) (hx : a.eval x = xv) {v' : Value} {w' : World}
    (hr : (Builtin.append_ #[t, t] o.type #[v, xv]).run P w = .ok v' w') (hK : K (a.put o.dst v') w') :
    if Region.wanted o (yielded ops a.tmps) = true then Oper.wpIn F n P o a w K Q else E := by
  have hw : Region.wanted o (yielded ops a.tmps) = true := by simp [Region.wanted, hg]
  rw [if_pos hw]
  unfold Oper.wpIn
  refine ⟨by simp [Oper.about, hop, resolve, Target.leads, Sem.run_pure], ?_⟩
  rw [Oper.semAt_plain F _ _ (by rw [hop]; intro c hc'; cases hc')]
  simp [execOp, hop, resolve, invoke, builtin, hs, hx, hr, Result.andThen]
  exact hK
/-! ### marks among the deferred calls -/
def Marks (B : Nat) (ds : List Deferred) (M : Nat → Prop) (w : World) : Prop :=
  (∀ d ∈ ds, ∃ D, d = { target := .collected D, args := #[] } ∧ B ≤ D ∧ ¬ M D ∧ w.heap[D]? = some (.deferred (some []))) ∧ ds.Pairwise (fun a b => a.target ≠ b.target)
theorem Marks.nil (B : Nat) (M : Nat → Prop) (w : World) : Marks B [] M w := ⟨by simp, List.Pairwise.nil⟩
theorem leaves_marks {P : Program} {n : Nat} {fn : Func} {tmps : Array Value} {R : Ending → World → Prop} {B : Nat} {M : Nat → Prop} (G : World → Prop)
    (hG : ∀ w l o o', G w → B ≤ l → w.heap[l]? = some o → o.isCells = false → G (w.putObj l o')) (hR : ∀ w, G w → LeavesInM Fence.wide n P fn tmps R [] .returning w) :
    ∀ (ds : List Deferred) (w : World), Marks B ds M w → G w → LeavesInM Fence.wide n P fn tmps R ds .returning w := by
  intro ds
  induction ds with
  | nil => exact fun w _ hg => hR w hg
  | cons d ds ih =>
    rintro w ⟨hm, hp⟩ hg
    obtain ⟨D, rfl, hB, hMD, hK⟩ := hm d (by simp)
    obtain ⟨hp1, hp2⟩ := List.pairwise_cons.1 hp
    refine ⟨by simp, .inl ⟨D, _, rfl, run_takeDeferred hK, ?_⟩⟩
    refine ih _ ⟨fun d' hd' => ?_, hp2⟩ (hG w D _ _ hg hB hK rfl)
    obtain ⟨D', e, h1, h2, h3⟩ := hm d' (by simp [hd'])
    refine ⟨D', e, h1, h2, ?_⟩
    have hne : D' ≠ D := by
      intro h
      exact hp1 d' hd' (by rw [e, h])
    exact (World.putObj_heap_other hne).trans h3
/-! ### all orders -/
def ords : Nat → List Int → List (List Int)
  | 0, _ => [[]]
  | n + 1, l => (List.range l.length).flatMap fun i => (ords n (l.eraseIdx i)).map fun r => l[i]?.getD 0 :: r
/-- Those that begin with one of the first i. -/
def ordsTo (n : Nat) (l : List Int) (i : Nat) : List (List Int) := (List.range i).flatMap fun i => (ords n (l.eraseIdx i)).map fun r => l[i]?.getD 0 :: r
theorem ordsTo_succ (n : Nat) (l : List Int) (i : Nat) : ordsTo n l (i + 1) = ordsTo n l i ++ (ords n (l.eraseIdx i)).map fun r => l[i]?.getD 0 :: r := by
  unfold ordsTo
  rw [List.range_succ, List.flatMap_append]
  simp
theorem ordsTo_all (n : Nat) (l : List Int) : ordsTo n l l.length = ords (n + 1) l := rfl
theorem ordsTo_len (n : Nat) (l : List Int) {i j : Nat} (h : i ≤ j) : (ordsTo n l i).length ≤ (ordsTo n l j).length := by
  induction j with
  | zero => have : i = 0 := by omega
            subst this; exact Nat.le_refl _
  | succ j ih =>
    by_cases e : i = j + 1
    · subst e; exact Nat.le_refl _
    · rw [ordsTo_succ, List.length_append]
      have := ih (by omega)
      omega
/-- The blocks that the iterator owns. -/
def ownO (Bs : Nat) (A : Option Addr) (l : List Int) (k : Nat) : Prop := k = Bs ∨ (l ≠ [] ∧ blkOf A k)
theorem orders0_seq (d : Nat) (hd : 1 ≤ d) (Bs : Nat) (A : Option Addr) (cap : Nat) (W : World) (hB : Boxed W Bs 22 (.slice A 0 cap)) :
    SeqM Fence.wide d Try.prog 60 #[.pointer (some ⟨Bs, 0, none⟩)] (fun x : Elt => #[.slice x.1.1 x.1.2.1 x.1.2.2]) (RdM 0) (fun ys => ys.map Prod.snd = ords 0 []) (fun _ => True) 1 (ownO Bs A []) W := by
  intro lr J Jx M0 hlr hJ hJx hJM hY hown h0
  refine callsIn_of_wp Try.func60 rfl trivial ?_ rfl
  simp only [Try.ntmps60, List.size_toArray, List.length_cons, List.length_nil, Nat.reduceAdd, Nat.reduceSub, Array.replicate_succ, Array.replicate_zero, List.push_toArray, List.append_toArray, List.nil_append, List.cons_append]
  have hc := (hB.alloc (.cells #[.func (.yield lr) #[] #[]] 27)).cell
  have h1 := hJ.alloc (.cells #[.func (.yield lr) #[] #[]] 27) h0
  obtain ⟨fn, tmps, assign, body, hy, hR⟩ := hY [] M0 ((none, 0, 0), []) _ h1 (rdM_nil _ _) (by simp)
  clear hB hY h1 h0 hJ hJM hJx hown
  gi_wp2
  refine hR.mono ?_
  rintro e W3 (⟨rfl, M', hJ3, hst⟩ | ⟨rfl, hJx3, _⟩)
  · have H := Lib.hid hJ3
    clear hJ3 hst
    gi_wp2
    refine bodyPost_ret (results_none rfl _ _ _) rfl ?_
    exact ⟨⟨_, rfl⟩, .inl ⟨_, M', rfl, H.out⟩⟩
  · have H := Lib.hid hJx3
    clear hJx3
    gi_wp2
    refine bodyPost_ret (results_none rfl _ _ _) rfl ?_
    exact ⟨⟨_, rfl⟩, .inr ⟨_, trivial, H.out⟩⟩
theorem orders_in (d : Nat) (A : Option Addr) (len cap : Nat) (w : World) :
    CallsIn Fence.wide d Try.prog 50 #[.slice A len cap] w fun e w' => e = .returned (.func (.func 60) #[] #[.pointer (some ⟨w.heap.size, 0, none⟩)]) ∧ w' = w.alloc (.cells #[.slice A len cap] 22) := by
  refine callsIn_of_wp Try.func50 rfl trivial ?_ rfl
  simp only [Try.ntmps50, List.size_toArray, List.length_cons, List.length_nil, Nat.reduceAdd, Nat.reduceSub, Array.replicate_succ, Array.replicate_zero, List.push_toArray, List.append_toArray, List.nil_append, List.cons_append]
  gi_wp2
  go_ret
  exact ⟨rfl, rfl⟩
/-- What an iterator leaves. -/
def SeqP {α : Type} (S Sp : List α → Prop) (J : List α → (Nat → Prop) → World → Prop) (Jx : List α → World → Prop) (e : Ending) (w' : World) : Prop := (∃ v, e = .returned v) ∧ ((∃ xs M, S xs ∧ J xs M w') ∨ (∃ pre, Sp pre ∧ Jx pre w'))
theorem app_run (X : World) (x : Int) (x' : Elt) (h : RdP x' X) (hl : x'.2.length ≤ 100) : ∃ g cap w', (Builtin.append_ #[22, 22] 22 #[.slice (some ⟨X.heap.size, 0, none⟩) 1 1, .slice x'.1.1 x'.1.2.1 x'.1.2.2]).run Try.prog (X.alloc (.cells #[.int .i64 x] 3)) = .ok (.slice (some ⟨g, 0, none⟩) (x'.2.length + 1) cap) w' ∧
    w'.ownsRow X.heap.size 3 1 (.slice (some ⟨g, 0, none⟩) (x'.2.length + 1) cap) (x'.2.length + 1) ((x :: x'.2).map (Value.int .i64)) ∧ Grow X w' := by
  obtain ⟨i0, hi, hz0, hz1, hz2⟩ := info_parts info3x
  have hs : (X.alloc (.cells #[.int .i64 x] 3)).ownsRow X.heap.size 3 1 (.slice (some ⟨X.heap.size, 0, none⟩) 1 1) 1 [.int .i64 x] := World.ownsRow_lit X #[.int .i64 x] 1 (Nat.le_refl _) (by unfold maxLen; omega) rfl
  have hx := h
  unfold RdP encV at hx
  rcases hx.2 with ⟨e, h0⟩ | ⟨g, c, cur, e, _, hg, _⟩
  · have hnil : x'.2 = [] := List.eq_nil_of_length_eq_zero h0
    rw [e, hnil]
    exact ⟨_, _, _, run_append_owned_none (P := Try.prog) _ X.heap.size 22 22 3 i0 1 Try.underlying22 hi _ 1 [.int .i64 x] hs, by simpa using hs, (Grow.refl X).alloc _⟩
  · rw [e]
    obtain ⟨v', w', hr, h2, h3, _, _⟩ := run_append_own_at (P := Try.prog) (X.alloc (.cells #[.int .i64 x] 3)) X.heap.size 22 22 3 i0 (.int .i64 0) 1 8 Try.underlying22 hi hz0 hz1 hz2 rfl (by decide) (.slice (some ⟨X.heap.size, 0, none⟩) 1 1) 1 [.int .i64 x] hs ⟨g, 0, none⟩ x'.2.length c (x'.2.map (Value.int .i64)) (by simp)
      (fun j u hu => by
        rw [e] at hx
        exact ((Grow.refl X).alloc (.cells #[.int .i64 x] 3)).cell (hx.cells (g := g) (by simp [Value.ownBlock]) j u hu))
      (fun u hu => by obtain ⟨y, _, rfl⟩ := List.mem_map.1 hu; rfl) (by unfold maxLen; omega) (by omega) (by rw [World.size_alloc]; omega)
    obtain ⟨g2, c2, e2⟩ := own_form h2 (by omega)
    rw [e2] at hr h2
    have h2' : w'.ownsRow X.heap.size 3 1 (.slice (some ⟨g2, 0, none⟩) (1 + x'.2.length) c2) (1 + x'.2.length) ((x :: x'.2).map (Value.int .i64)) := by simpa using h2
    rw [Nat.add_comm 1 x'.2.length] at hr h2'
    exact ⟨g2, c2, w', hr, h2', ((Grow.refl X).alloc _).grown h3 (fun k e => by simp [Value.ownBlock] at e; omega)⟩
/-- A cut behind a region. -/
def Post8 (X : Bool → World → Prop) (T : Bool → Act) : Exit → Act → World → Prop
  | .normal, a, w => ∃ r : Bool, X r w ∧ a = T r
  | _, _, _ => False
theorem Post8.mk {X : Bool → World → Prop} {T : Bool → Act} {r : Bool} {a : Act} {w : World} (h : X r w) (e : a = T r) : Post8 X T .normal a w := ⟨r, h, e⟩
/-- How a call of yield ends. -/
def Out8 (J : List Elt → (Nat → Prop) → World → Prop) (Jx : List Elt → World → Prop) (ps : List Elt) (M : Nat → Prop) (lr : Nat) (w : World) (r : Bool) (W3 : World) : Prop :=
  if r = true then (∃ M', J ps M' W3 ∧ Step M w M' W3) else (Jx ps W3 ∧ Fr (fun k => M k ∨ k ≤ lr) w W3)
/-- The contract at lists of one length. -/
def OrdersAt (n : Nat) : Prop := ∀ (l : List Int), l.length = n → ∀ (d : Nat), 1 ≤ d → ∀ (Bs : Nat) (A : Option Addr) (cap : Nat) (W : World), Boxed W Bs 22 (.slice A n cap) → IntsAt W A l → n ≤ cap → cap ≤ maxLen → (l = [] ∨ A ≠ none) →
  SeqM Fence.wide d Try.prog 60 #[.pointer (some ⟨Bs, 0, none⟩)] (fun x : Elt => #[.slice x.1.1 x.1.2.1 x.1.2.2]) (RdM n) (fun ys => ys.map Prod.snd = ords n l) (fun _ => True) (ords n l).length (ownO Bs A l) W
/-- What the iterator knows between two of its own rounds. -/
structure OrdSt (W0 : World) (Bs : Nat) (A : Option Addr) (cap n : Nat) (l : List Int) (lr : Nat) (M : Nat → Prop) (ds : List Deferred) (wr : World) : Prop where
  box : Boxed wr Bs 22 (.slice A (n + 1) cap)
  yb : Boxed wr W0.heap.size 27 (.func (.yield lr) #[] #[])
  ints : IntsAt wr A l
  own : ∀ k, ownO Bs A l k → ¬ M k
  nb : ¬ M W0.heap.size
  lo : W0.heap.size ≤ wr.heap.size
  marks : Marks W0.heap.size ds M wr
theorem grow_grown {a b : World} (h : Grow a b) : a.grownBy b none := ⟨h.os, h.tape, h.output, h.size, fun k hk _ => h.blk k hk (fun h => h)⟩
theorem keeps_grow {α : Type} {B : Nat} {J : List α → (Nat → Prop) → World → Prop} (h : Keeps B J) {pre : List α} {M : Nat → Prop} {W W' : World} (hj : J pre M W) (hg : Grow W W') : J pre M W' := h pre M W W' none hj (grow_grown hg) (fun r e => by cases e)
theorem Marks.grow {B : Nat} {ds : List Deferred} {M : Nat → Prop} {w w' : World} (h : Marks B ds M w) (hg : Grow w w') : Marks B ds M w' :=
  ⟨fun d hd => by obtain ⟨D, e, h1, h2, h3⟩ := h.1 d hd; exact ⟨D, e, h1, h2, hg.at_ h3⟩, h.2⟩
theorem Marks.fr {B : Nat} {ds : List Deferred} {M M' : Nat → Prop} {w w' : World} (h : Marks B ds M w) (hs : Step M w M' w') : Marks B ds M' w' :=
  ⟨fun d hd => by
    obtain ⟨D, e, h1, h2, h3⟩ := h.1 d hd
    have hlt := (Array.getElem?_eq_some_iff.1 h3).1
    exact ⟨D, e, h1, fun h => (hs.sub D h).elim h2 (fun q => by omega), hs.fr.at_ h3 h2⟩, h.2⟩
theorem Marks.turn {B U : Nat} {ds : List Deferred} {M : Nat → Prop} {w w' : World} {row : Option Nat} (h : Marks B ds M w) (hU : ∀ D, ({ target := .collected D, args := #[] } : Deferred) ∈ ds → D < U) (hg : w.grownBy w' row) (hr : ∀ r, row = some r → U ≤ r) : Marks B ds M w' :=
  ⟨fun d hd => by
    obtain ⟨D, e, h1, h2, h3⟩ := h.1 d hd
    have hlt := hU D (e ▸ hd)
    exact ⟨D, e, h1, h2, (hg.block D (Array.getElem?_eq_some_iff.1 h3).1 (fun e' => by have := hr D e'.symm; omega)).trans h3⟩, h.2⟩
theorem Marks.free {B : Nat} {ds : List Deferred} {M : Nat → Prop} {w : World} (h : Marks B ds M w) : Marks B ds (fun _ => False) w :=
  ⟨fun d hd => by obtain ⟨D, e, h1, _, h3⟩ := h.1 d hd; exact ⟨D, e, h1, fun h => h, h3⟩, h.2⟩
theorem Marks.lt {B : Nat} {ds : List Deferred} {M : Nat → Prop} {w : World} (h : Marks B ds M w) : ∀ D, ({ target := .collected D, args := #[] } : Deferred) ∈ ds → D < w.heap.size := by
  intro D hD
  obtain ⟨D', e, _, _, h3⟩ := h.1 _ hD
  cases e
  exact (Array.getElem?_eq_some_iff.1 h3).1
theorem Marks.cons {B : Nat} {ds : List Deferred} {M : Nat → Prop} {w : World} {D U : Nat} (h : Marks B ds M w) (hU : ∀ D, ({ target := .collected D, args := #[] } : Deferred) ∈ ds → D < U) (hD : U ≤ D) (hB : B ≤ D) (hM : ¬ M D) (hK : w.heap[D]? = some (.deferred (some []))) : Marks B ({ target := .collected D, args := #[] } :: ds) M w :=
  ⟨fun d hd => by
    rcases List.mem_cons.1 hd with rfl | h1
    · exact ⟨D, rfl, hB, hM, hK⟩
    · exact h.1 d h1,
   List.pairwise_cons.2 ⟨fun d hd e => by
    obtain ⟨D', e', _, _, _⟩ := h.1 d hd
    have := hU D' (e' ▸ hd)
    rw [e'] at e
    cases e
    omega, h.2⟩⟩
section
variable {W0 : World} {Bs : Nat} {A : Option Addr} {cap n : Nat} {l : List Int} {lr : Nat} {M M' : Nat → Prop} {ds : List Deferred} {w w' : World}
theorem OrdSt.grow (h : OrdSt W0 Bs A cap n l lr M ds w) (hg : Grow w w') : OrdSt W0 Bs A cap n l lr M ds w' :=
  ⟨hg.at_ h.box, hg.at_ h.yb, h.ints.grow hg, h.own, h.nb, Nat.le_trans h.lo hg.size, h.marks.grow hg⟩
theorem OrdSt.blt (h : OrdSt W0 Bs A cap n l lr M ds w) : ∀ k, ownO Bs A l k → k < w.heap.size := by
  rintro k (rfl | ⟨hne, a, ha, rfl⟩)
  · exact h.box.lt
  · obtain ⟨b, off, hA, hc⟩ := h.ints.resolve_left hne
    rw [hA] at ha; cases ha
    cases l with
    | nil => exact absurd rfl hne
    | cons x l => exact World.block_lt_of_cell? w ⟨b, off + 0, none⟩ (hc 0 x rfl)
theorem OrdSt.step (h : OrdSt W0 Bs A cap n l lr M ds w) (hs : Step M w M' w') : OrdSt W0 Bs A cap n l lr M' ds w' := by
  have hno : ∀ k, k < w.heap.size → ¬ M k → ¬ M' k := fun k hk hm hm' => (hs.sub k hm').elim hm (fun q => by omega)
  refine ⟨hs.fr.at_ h.box (h.own _ (.inl rfl)), hs.fr.at_ h.yb h.nb, ?_, fun k hk => hno k (h.blt k hk) (h.own k hk), hno _ h.yb.lt h.nb, Nat.le_trans h.lo hs.fr.size, h.marks.fr hs⟩
  by_cases hl : l = []
  · exact .inl hl
  · exact h.ints.fr hs.fr (fun k hk => h.own k (.inr ⟨hl, hk⟩))
theorem OrdSt.turn {U : Nat} {row : Option Nat} (h : OrdSt W0 Bs A cap n l lr M ds w) (hU : ∀ D, ({ target := .collected D, args := #[] } : Deferred) ∈ ds → D < U) (hg : w.grownBy w' row) (hr : ∀ r, row = some r → U ≤ r ∧ ∃ o : Obj, w.heap[r]? = some o ∧ o.isCells = false) : OrdSt W0 Bs A cap n l lr M ds w' := by
  have hr' : ∀ r, row = some r → ∃ o : Obj, w.heap[r]? = some o ∧ o.isCells = false := fun r e => (hr r e).2
  refine ⟨h.box.kept hg (box_noncell h.box hr'), h.yb.kept hg (box_noncell h.yb hr'), ?_, h.own, h.nb, Nat.le_trans h.lo hg.size, h.marks.turn hU hg (fun r e => (hr r e).1)⟩
  refine h.ints.imp id fun ⟨b, off, h1, h2⟩ => ⟨b, off, h1, fun j x hx => ?_⟩
  exact (cell_kept (h2 j x hx) hg hr')
end
set_option maxRecDepth 100000 in
set_option maxHeartbeats 4000000 in
theorem orders_step (n : Nat) (hn4 : n + 1 ≤ 4) (ih : OrdersAt n) : OrdersAt (n + 1) := by
  intro l hl d hd Bs A cap W hB hI hcap hcapm hA lr J Jx M0 hlr hJ hJx hJM hY hown h0
  show CallsIn _ _ _ _ _ _ (SeqP (fun ys : List Elt => ys.map Prod.snd = ords (n + 1) l) (fun _ => True) J Jx)
  refine callsIn_wide.2 ((callsIn_wide (n := 20)).1 ?_)
  refine callsIn_of_wp_marks Try.func60 rfl trivial ?_ rfl
  simp only [Try.ntmps60, List.size_toArray, List.length_cons, List.length_nil, Nat.reduceAdd, Nat.reduceSub, Array.replicate_succ, Array.replicate_zero, List.push_toArray, List.append_toArray, List.nil_append, List.cons_append]
  have hne : l ≠ [] := by rintro rfl; simp at hl
  have hc := (hB.alloc (.cells #[.func (.yield lr) #[] #[]] 27)).cell
  have h1 := hJ.alloc (.cells #[.func (.yield lr) #[] #[]] 27) h0
  have hM0 := hJM _ _ _ h0
  have hst : OrdSt W Bs A cap n l lr M0 [] (W.alloc (.cells #[.func (.yield lr) #[] #[]] 27)) := ⟨hB.alloc _, Boxed.new W 27 _, hI.grow ((Grow.refl W).alloc _), hown, fun h => by have := hM0 _ h; omega, by rw [World.size_alloc]; omega, Marks.nil _ _ _⟩
  have HS := Lib.hid (And.intro hst h1)
  have HY := Lib.hid hY
  have HJ := Lib.hid (And.intro hJ (And.intro hJx hJM))
  have HL := Lib.hid (And.intro hl hne)
  clear hst h1 hB hY hJ hJx hJM h0 hM0 hI hown hl hne
  gi_wp2
  refine wpIn_loop_ghost (fun r a wr => ∃ (i : Nat) (pre : List Elt) (M : Nat → Prop) (ds : List Deferred) (u3 u4 u5 u14 u15 u16 u17 u18 u19 u20 u21 u22 u23 u24 u25 u26 u27 u28 u29 u30 u31 u32 u33 u34 u35 u36 : Value), i ≤ n + 1 ∧ r = n + 1 - i ∧
    Hid (OrdSt W Bs A cap n l lr M ds wr ∧ J pre M wr ∧ pre.map Prod.snd = ordsTo n l i) ∧
    a = { tmps := #[.func (.yield lr) #[] #[], .pointer (some ⟨Bs, 0, none⟩), .pointer (some ⟨W.heap.size, 0, none⟩), u3, u4, u5, .slice A (n + 1) cap, .int .i64 ((n : Int) + 1), .bool false, undef, undef, .slice A (n + 1) cap, .int .i64 ((n : Int) + 1), .int .i64 (i : Int), u14, u15, u16, u17, u18, u19, u20, u21, u22, u23, u24, u25, u26, u27, u28, u29, u30, u31, u32, u33, u34, u35, u36], defers := ds }) (n + 1) ?start ?round
  case start =>
    refine ⟨0, [], M0, [], _, _, _, _, _, _, _, _, _, _, _, _, _, _, _, _, _, _, _, _, _, _, _, _, _, _, Nat.zero_le _, rfl, ?_, rfl⟩
    exact ⟨HS.out.1, HS.out.2, rfl⟩
  case round =>
    rintro r a wr ⟨i, pre, M, ds, u3, u4, u5, u14, u15, u16, u17, u18, u19, u20, u21, u22, u23, u24, u25, u26, u27, u28, u29, u30, u31, u32, u33, u34, u35, u36, hi, rfl, HX, rfl⟩
    by_cases hlt : i < n + 1
    · have hlti : (i : Int) < (n : Int) + 1 := by omega
      have hil : i < l.length := by rw [HL.out.1]; exact hlt
      obtain ⟨b, off, rfl, hcell⟩ := HX.out.1.ints.at_ hil
      obtain ⟨x, hx⟩ : ∃ x, x = l[i] := ⟨_, rfl⟩
      rw [← hx] at hcell
      have hcb := HX.out.1.box.cell
      have Hx := Lib.hid hx
      clear hx
      gi_wp2
      have hmix : Try.prog.follows .mixedOrders = true := by kernel_rfl
      have hf61 : Fence.wide.fn 61 := trivial
      have hf50 : Fence.wide.fn 50 := trivial
      have hcap1 : (i : Int) < (cap : Int) := by omega
      have hcap0 : ((i : Int) + 1 ≤ (cap : Int)) := by omega
      have hcapb : (cap : Int) ≤ 9223372036854775807 := by unfold maxLen at hcapm; omega
      have hcb2 : (wr.alloc (.cells #[.int .i64 x] 3)).drew.cell? ⟨Bs, 0, none⟩ = some (.slice (some ⟨b, off, none⟩) (n + 1) cap) := (HX.out.1.box.alloc _).cell
      have hnb : (n : Int) - (i : Int) = ((n - i : Nat) : Int) := by omega
      have hei : l.eraseIdx i = l.take i ++ l.drop (i + 1) := List.eraseIdx_eq_take_drop_succ ..
      have HCC : ∀ (a2 : Addr) (c1 c2 : Nat), (n - i = 0 ∨ a2 = ⟨b, off + (i + 1), none⟩) → CallsIn Fence.wide 19 Try.prog 61 #[.slice (some ⟨wr.heap.size + 1, 0, none⟩) 2 2] ((wr.alloc (.cells #[.int .i64 x] 3)).alloc (.cells #[.slice (some ⟨b, off, none⟩) i c1, .slice (some a2) (n - i) c2] 22)).drew (Made ((wr.alloc (.cells #[.int .i64 x] 3)).alloc (.cells #[.slice (some ⟨b, off, none⟩) i c1, .slice (some a2) (n - i) c2] 22)).drew (l.eraseIdx i)) := by
        intro a2 c1 c2 ha
        refine callsIn_wide.2 ?_
        rw [hei]
        have hblk := blk_new (wr.alloc (.cells #[.int .i64 x] 3)) (.cells #[.slice (some ⟨b, off, none⟩) i c1, .slice (some a2) (n - i) c2] 22)
        rw [World.size_alloc] at hblk
        have hl1 : (l.take i).length = i := by rw [List.length_take]; omega
        have hl2 : (l.drop (i + 1)).length = n - i := by rw [List.length_drop]; have := HL.out.1; omega
        have hgw : Grow wr (((wr.alloc (.cells #[.int .i64 x] 3)).alloc (.cells #[.slice (some ⟨b, off, none⟩) i c1, .slice (some a2) (n - i) c2] 22)).drew) := (((Grow.refl wr).alloc _).alloc _).drew
        have hin := HX.out.1.ints.grow hgw
        obtain ⟨b', off', hbe, hce⟩ := hin.resolve_left HL.out.2
        cases hbe
        have := concat_any (w := ((wr.alloc (.cells #[.int .i64 x] 3)).alloc (.cells #[.slice (some ⟨b, off, none⟩) i c1, .slice (some a2) (n - i) c2] 22)).drew) (b := wr.heap.size + 1) (c1 := c1) (c2 := c2) (a1 := ⟨b, off, none⟩) (a2 := a2) (l1 := l.take i) (l2 := l.drop (i + 1)) (by rw [hl1, hl2]; exact hblk)
          (.inr ⟨b, off, rfl, fun j y hy => hce j y (by rw [List.getElem?_take] at hy; split at hy; exact hy; cases hy)⟩)
          (by
            rcases ha with h0 | rfl
            · exact .inl (List.eq_nil_of_length_eq_zero (by omega))
            · exact .inr ⟨b, off + (i + 1), rfl, fun j y hy => by rw [List.getElem?_drop] at hy; have := hce _ y hy; rwa [show off + (i + 1 + j) = off + (i + 1) + j by omega] at this⟩)
          (by rw [hl1, hl2]; omega)
        exact this
      have HC := Lib.hid HCC
      clear HCC hei
      refine wpIn_mono (Q := fun e a' w' => match e with
        | .normal => ∃ (s2 s24 : Value) (w2 : World) (A2 : Option Addr) (len2 cap2 : Nat), Hid (w2.ownsRow (wr.heap.size + 2) 3 1 (.slice A2 len2 cap2) len2 ((l.eraseIdx i).map (Value.int .i64)) ∧ Grow (wr.alloc (.cells #[.int .i64 x] 3)) w2) ∧ w' = w2.alloc (.cells #[.slice A2 len2 cap2] 22) ∧
            a' = { tmps := #[.func (.yield lr) #[] #[], .pointer (some ⟨Bs, 0, none⟩), .pointer (some ⟨W.heap.size, 0, none⟩), .int .i64 (i : Int), .pointer (some ⟨wr.heap.size, 0, none⟩), u5, .slice (some ⟨b, off, none⟩) (n + 1) cap, .int .i64 ((n : Int) + 1), .bool false, undef, undef, .slice (some ⟨b, off, none⟩) (n + 1) cap, .int .i64 ((n : Int) + 1), .int .i64 (i : Int), .bool true, .int .i64 (i : Int), .pointer (some ⟨b, off + i, none⟩), .int .i64 x, .slice (some ⟨b, off, none⟩) (n + 1) cap, .int .i64 (i : Int), s2, .slice (some ⟨b, off, none⟩) (n + 1) cap, .int .i64 (i : Int), .int .i64 ((i : Int) + 1), s24, .slice (some ⟨wr.heap.size + 1, 0, none⟩) 2 2, .slice A2 len2 cap2, .func (.func 60) #[] #[.pointer (some ⟨w2.heap.size, 0, none⟩)], u28, u29, u30, u31, u32, u33, u34, u35, u36], defers := ds }
        | _ => False) ?reg ?cont
      case reg =>
        have hs1 : ((i : Int) + 1).toNat = i + 1 := by omega
        have hs2 : (i : Int) + 1 ≤ (n : Int) + 1 := by omega
        have hs3 : (i : Int) ≤ (n : Int) := by omega
        have hs4 : i ≤ n := by omega
        have hs5 : IntKind.i64.wrap ((i : Int) + 1) = (i : Int) + 1 := by rw [IntKind.wrap_i64]; omega
        have hs6 : (0 : Int) ≤ (i : Int) + 1 := by omega
        have hs7 : (i : Int) + 1 ≤ (cap : Int) := by omega
        have hs8 : i + 1 ≤ cap := by omega
        have hs9 : i ≤ cap := by omega
        by_cases hce : cap = i + 1
        · have hn0 : n - i = 0 := by omega
          have hce1 : (cap : Int) = (i : Int) + 1 := by omega
          clear hlti hcap1
          have HC0 := HC.out ⟨b, off, none⟩ (i + 1) 0 (.inl hn0)
          rw [hn0] at HC0
          have HC1 := Lib.hid HC0
          clear HC0
          gi_region_with_o (first | (gi_at_call 61; refine HC1.out.mono ?_; rintro e w2 ⟨v2, rfl, hrow2, hg2⟩; obtain ⟨A2, cap2, rfl, hi2, hb2⟩ := ints_of_own hrow2; have H2 := Lib.hid (And.intro hrow2 hg2); clear hrow2 hg2 hi2 hb2) | (gi_at_call 50; refine (orders_in _ _ _ _ _).mono ?_; rintro e w' ⟨rfl, rfl⟩))
          all_goals exact ⟨_, _, w2, A2, _, cap2, ⟨own_base_le H2.out.1 (by simp), ((Grow.refl (wr.alloc (.cells #[.int .i64 x] 3))).alloc _).drew.trans H2.out.2⟩, rfl, rfl⟩
        · have hce2 : (cap : Int) ≠ (i : Int) + 1 := by omega
          gi_region_with_o (first | (gi_at_call 61; refine (HC.out _ _ _ (.inr rfl)).mono ?_; rintro e w2 ⟨v2, rfl, hrow2, hg2⟩; obtain ⟨A2, cap2, rfl, hi2, hb2⟩ := ints_of_own hrow2; have H2 := Lib.hid (And.intro hrow2 hg2); clear hrow2 hg2 hi2 hb2) | (gi_at_call 50; refine (orders_in _ _ _ _ _).mono ?_; rintro e w' ⟨rfl, rfl⟩))
          all_goals exact ⟨_, _, w2, A2, _, cap2, ⟨own_base_le H2.out.1 (by simp), ((Grow.refl (wr.alloc (.cells #[.int .i64 x] 3))).alloc _).drew.trans H2.out.2⟩, rfl, rfl⟩
      case cont =>
        rintro e a' w' hR
        cases e with
        | normal =>
          obtain ⟨s2, s24, w2, A2, len2, cap2, HQ, rfl, rfl⟩ := hR
          have hlen2 : len2 = n := by
            have h1 := HQ.out.1.1
            rw [List.length_map, List.length_eraseIdx, if_pos hil] at h1
            have := HL.out.1
            omega
          subst hlen2
          have hgA : Grow wr (w2.alloc (.cells #[.slice A2 len2 cap2] 22)) := (((Grow.refl wr).alloc _).trans HQ.out.2).alloc _
          have hel : (l.eraseIdx i).length = len2 := by rw [List.length_eraseIdx, if_pos hil]; have := HL.out.1; omega
          have hbn : Boxed (w2.alloc (.cells #[.slice A2 len2 cap2] 22)) wr.heap.size 3 (.int .i64 x) := Boxed.alloc (W := w2) (HQ.out.2.at_ (Boxed.new wr 3 (.int .i64 x))) _
          have hbl : Boxed (w2.alloc (.cells #[.slice A2 len2 cap2] 22)) w2.heap.size 22 (.slice A2 len2 cap2) := Boxed.new w2 22 _
          have hcap2 : len2 ≤ cap2 ∧ cap2 ≤ maxLen ∧ ((l.eraseIdx i) = [] ∨ A2 ≠ none) := by
            rcases HQ.out.1.2 with ⟨e, h0⟩ | ⟨g, c3, cur, e, hb1, hb2, hb3, hb4, _⟩
            · cases e
              exact ⟨Nat.le_refl _, by unfold maxLen; omega, .inl (List.eq_nil_of_length_eq_zero hel)⟩
            · cases e
              exact ⟨hb3, hb4, .inr (by simp)⟩
          have hin2 : IntsAt w2 A2 (l.eraseIdx i) ∧ ∀ k, blkOf A2 k → wr.heap.size + 2 ≤ k ∧ k < w2.heap.size := by
            obtain ⟨A3, c3, e, h1, h2⟩ := ints_of_own HQ.out.1
            cases e
            exact ⟨h1, fun k hk => HQ.out.1.lt k (h2 k hk)⟩
          have hMlt := HJ.out.2.2 _ _ _ HX.out.2.1
          have hU : ∀ D, ({ target := .collected D, args := #[] } : Deferred) ∈ ds → D < (w2.alloc (.cells #[.slice A2 len2 cap2] 22)).heap.size := fun D hD => Nat.lt_of_lt_of_le (HX.out.1.marks.lt D hD) hgA.size
          have hszA : (w2.alloc (.cells #[.slice A2 len2 cap2] 22)).heap.size = w2.heap.size + 1 := World.size_alloc _ _
          have hgs2 : wr.heap.size + 1 ≤ w2.heap.size := by have := HQ.out.2.size; rwa [World.size_alloc] at this
          have hlo := HX.out.1.lo
          have HA2 := Lib.hid (And.intro hgA (And.intro hbn (And.intro hbl (And.intro hcap2 (And.intro hin2 (And.intro hMlt (And.intro hU hel)))))))
          clear hgA hbn hbl hcap2 hin2 hMlt hU hel
          gi_wp2
          generalize hwA : w2.alloc (.cells #[.slice A2 len2 cap2] 22) = wA at HA2 hszA ⊢
          have e60 := enters_of Try.func60 (by kernel_rfl) rfl
          refine range_outer (α := Elt) (P := Try.prog) rfl (by omega) (gf := 60) (lb := #[.pointer (some ⟨w2.heap.size, 0, none⟩)]) rfl trivial e60
            (fun W' hg _ => ih (l.eraseIdx i) HA2.out.2.2.2.2.2.2.2 19 (by omega) w2.heap.size A2 cap2 W' (hg.at_ HA2.out.2.2.1) ((HA2.out.2.2.2.2.1.1.grow ?g1).grow hg) HA2.out.2.2.2.1.1 HA2.out.2.2.2.1.2.1 HA2.out.2.2.2.1.2.2) (fun _ => rfl)
            (fun pre' M' W' => ∃ pre2 : List Elt, pre2.map Prod.snd = pre'.map (fun r => x :: r.2) ∧ J (pre ++ pre2) M' W' ∧ OrdSt W Bs (some ⟨b, off, none⟩) cap len2 l lr M' ds W' ∧ Boxed W' wr.heap.size 3 (.int .i64 x) ∧ ¬ M' wr.heap.size)
            (fun c pre' W' => c = .ret ∧ (∃ q, Jx q W') ∧ Marks W.heap.size ds (fun _ => False) W') ?hI ?hIx ?hIM (fun x' M' => rdM_keeps len2 x' M' _) M ?hM0 ?h0
            (fun x' a' _ => a' = { tmps := #[.func (.yield lr) #[] #[], .pointer (some ⟨Bs, 0, none⟩), .pointer (some ⟨W.heap.size, 0, none⟩), .int .i64 (i : Int), .pointer (some ⟨wr.heap.size, 0, none⟩), .slice x'.1.1 x'.1.2.1 x'.1.2.2, .slice (some ⟨b, off, none⟩) (len2 + 1) cap, .int .i64 ((len2 : Int) + 1), .bool false, undef, undef, .slice (some ⟨b, off, none⟩) (len2 + 1) cap, .int .i64 ((len2 : Int) + 1), .int .i64 (i : Int), .bool true, .int .i64 (i : Int), .pointer (some ⟨b, off + i, none⟩), .int .i64 x, .slice (some ⟨b, off, none⟩) (len2 + 1) cap, .int .i64 (i : Int), s2, .slice (some ⟨b, off, none⟩) (len2 + 1) cap, .int .i64 (i : Int), .int .i64 ((i : Int) + 1), s24, .slice (some ⟨wr.heap.size + 1, 0, none⟩) 2 2, .slice A2 len2 cap2, .func (.func 60) #[] #[.pointer (some ⟨w2.heap.size, 0, none⟩)], .slice x'.1.1 x'.1.2.1 x'.1.2.2, u29, u30, u31, u32, u33, u34, u35, u36], defers := [] }) (fun _ _ _ _ _ _ h _ _ => h) ?assign ?body ?done ?stop
          case g1 => rw [← hwA]; exact (Grow.refl w2).alloc _
          case hI =>
            rintro pre' M' X X' row ⟨pre2, h1, h2, h3, h4, h5⟩ hg hr
            have hr' : ∀ r, row = some r → ∃ o : Obj, X.heap[r]? = some o ∧ o.isCells = false := fun r e => (hr r e).2
            exact ⟨pre2, h1, HJ.out.1.later (by omega) _ _ _ _ _ h2 hg hr, h3.turn HA2.out.2.2.2.2.2.2.1 hg hr, h4.kept hg (box_noncell h4 hr'), h5⟩
          case hIx =>
            rintro c pre' X X' row ⟨h1, ⟨q, h2⟩, h3⟩ hg hr
            exact ⟨h1, ⟨q, own_later HJ.out.2.1 (by omega) q X X' row h2 hg hr⟩, h3.turn HA2.out.2.2.2.2.2.2.1 hg (fun r e => (hr r e).1)⟩
          case hIM =>
            rintro pre' M' X ⟨pre2, _, h2, _⟩
            exact HJ.out.2.2 _ _ _ h2
          case hM0 =>
            rintro k (rfl | ⟨_, hk⟩) hM
            · have := HA2.out.2.2.2.2.2.1 _ hM; omega
            · have := HA2.out.2.2.2.2.2.1 _ hM
              have := (HA2.out.2.2.2.2.1.2 k hk).1
              omega
          case h0 => exact ⟨[], rfl, by rw [List.append_nil]; exact keeps_grow HJ.out.1 HX.out.2.1 HA2.out.1, HX.out.1.grow HA2.out.1, HA2.out.2.1, fun h => by have := HA2.out.2.2.2.2.2.1 _ h; omega⟩
          case assign =>
            intro lq pre' M' x' X K hi' hrd' hK
            have HK := Lib.hid (hK _ M' X (Step.refl _ _) hi' hrd' rfl)
            clear hK hi' hrd'
            gi_wp2
            exact HK.out
          case body =>
            rintro l' pre' M' x' a' X hMl hl ⟨pre2, h1, h2, h3, h4, h5⟩ hrd rfl hlen
            have hcy := h3.yb.cell
            have hcn := h4.cell
            have hxn : x'.2.length = len2 := hrd.1.2
            have hxl : x'.2.length ≤ 100 := by omega
            obtain ⟨g, cp, w', hr, hown, hgr⟩ := app_run X.drew x x' hrd.1.1 hxl
            have hgr' : Grow X w' := ((Grow.refl X).drew).trans hgr
            have hcy2 := (h3.yb.alloc (.cells #[.int .i64 x] 3)).cell
            have hcy3 := hgr'.cell hcy
            have hj2 := keeps_grow HJ.out.1 h2 hgr'
            have hXM := HJ.out.2.2 _ _ _ h2
            obtain ⟨y, hy0⟩ : ∃ y : Elt, y = ((some ⟨g, 0, none⟩, x'.2.length + 1, cp), x :: x'.2) := ⟨_, rfl⟩
            have hry : RdM (len2 + 1) y M' w' := by
              rw [hy0]
              refine ⟨⟨own_base_le hown (Nat.zero_le _), by simp [hxn]⟩, fun k hk => ?_⟩
              have := hown.lt k hk
              have hd : X.drew.heap.size = X.heap.size := rfl
              exact ⟨this.2, fun hM => by have := hXM k hM; omega⟩
            have hlen2 : (pre ++ pre2).length < (ords (len2 + 1) l).length := by
              have e1 : pre.length = (ordsTo len2 l i).length := by rw [← HX.out.2.2, List.length_map]
              have e2 : pre2.length = pre'.length := by have := congrArg List.length h1; simpa using this
              have e3 := ordsTo_len len2 l (i := i + 1) (j := l.length) (by omega)
              rw [ordsTo_succ, List.length_append, List.length_map, ordsTo_all] at e3
              rw [List.length_append]
              omega
            have hyy := yield_any 17 (HY.out _ M' y w' hj2 hry hlen2)
            rw [hy0] at hyy
            obtain ⟨fn, tmps, assign, body, hy, hR⟩ := hyy
            rw [← hy0] at hR
            have hmix2 : Try.prog.follows .mixedOrders = true := by kernel_rfl
            have HB := Lib.hid (And.intro h1 (And.intro h3 (And.intro h4 (And.intro h5 (And.intro hgr' hy0)))))
            have HR8 := Lib.hid hR
            clear h1 h2 h3 h4 h5 hrd hlen hgr hgr' hj2 hXM hry hlen2 hown hy0 hR hxn hxl
            gi_wp2
            refine wpIn_mono (Q := Post8 (fun r W3 => Hid (Out8 J Jx ((pre ++ pre2) ++ [y]) M' lr w' r W3)) (fun r => { tmps := #[.func (.yield lr) #[] #[], .pointer (some ⟨Bs, 0, none⟩), .pointer (some ⟨W.heap.size, 0, none⟩), .int .i64 (i : Int), .pointer (some ⟨wr.heap.size, 0, none⟩), .slice x'.1.1 x'.1.2.1 x'.1.2.2, .slice (some ⟨b, off, none⟩) (len2 + 1) cap, .int .i64 ((len2 : Int) + 1), .bool false, undef, undef, .slice (some ⟨b, off, none⟩) (len2 + 1) cap, .int .i64 ((len2 : Int) + 1), .int .i64 (i : Int), .bool true, .int .i64 (i : Int), .pointer (some ⟨b, off + i, none⟩), .int .i64 x, .slice (some ⟨b, off, none⟩) (len2 + 1) cap, .int .i64 (i : Int), s2, .slice (some ⟨b, off, none⟩) (len2 + 1) cap, .int .i64 (i : Int), .int .i64 ((i : Int) + 1), s24, .slice (some ⟨wr.heap.size + 1, 0, none⟩) 2 2, .slice A2 len2 cap2, .func (.func 60) #[] #[.pointer (some ⟨w2.heap.size, 0, none⟩)], .slice x'.1.1 x'.1.2.1 x'.1.2.2, .func (.yield lr) #[] #[], .int .i64 x, .slice (some ⟨X.heap.size, 0, none⟩) 1 1, .slice x'.1.1 x'.1.2.1 x'.1.2.2, .slice (some ⟨g, 0, none⟩) (x'.2.length + 1) cp, .bool r, .bool (!r), u36], defers := [] })) ?reg8 ?cont8
            case reg8 =>
              refine wpIn_region_any hmix2 ?_
              try (change wpAnyIn _ _ _ _ _ _ _ _ _ (World.drew _))
              refine wpAnyIn_ready (rs := [0, 1, 3]) (by kernel_rfl) (by simp) ?_
              refine AllReadyIn.cons rfl (fun K hK => ?_) ?_
              · go_simp
                refine hK _ _ ?_; clear hK K
                refine wpAnyIn_ready (rs := [1, 3]) (by kernel_rfl) (by simp) ?_
                refine AllReadyIn.cons rfl (fun K hK => ?_) ?_
                · go_simp
                  refine hK _ _ ?_; clear hK K
                  refine wpAnyIn_ready (rs := [2, 3]) (by kernel_rfl) (by simp) ?_
                  refine AllReadyIn.cons rfl (fun K hK => ?_) ?_
                  · go_simp
                    refine hK _ _ ?_; clear hK K
                    refine wpAnyIn_ready (rs := [3]) (by kernel_rfl) (by simp) ?_
                    refine AllReadyIn.cons rfl (fun K hK => ?_) ?_
                    · go_simp
                      refine hK _ _ ?_; clear hK K
                      refine wpAnyIn_ready (rs := [4]) (by kernel_rfl) (by simp) ?_
                      refine AllReadyIn.cons rfl (fun K hK => ?_) ?_
                      · refine step_append_in rfl (.tmp 31) (.tmp 32) 22 rfl _ _ rfl rfl hr ?_
                        refine hK _ _ ?_; clear hK K
                        refine wpAnyIn_ready (rs := [5]) (by kernel_rfl) (by simp) ?_
                        refine AllReadyIn.cons rfl (fun K hK => ?_) ?_
                        · go_simp
                          first | (refine HR8.out.mono ?_; skip) | skip
                          rintro e W3 hj
                          obtain ⟨r, rfl, HJ3⟩ : ∃ r : Bool, e = .returned (.bool r) ∧ Hid (Out8 J Jx ((pre ++ pre2) ++ [y]) M' lr w' r W3) := by
                            rcases hj with ⟨rfl, hj⟩ | ⟨rfl, hj⟩
                            · exact ⟨true, rfl, hj⟩
                            · exact ⟨false, rfl, hj⟩
                          clear hj
                          go_simp
                          refine hK _ _ ?_; clear hK K
                          refine wpAnyIn_ready (rs := [6]) (by kernel_rfl) (by simp) ?_
                          refine AllReadyIn.cons rfl (fun K hK => ?_) ?_
                          · go_simp
                            refine hK _ _ ?_; clear hK K
                            refine wpAnyIn_done (by kernel_rfl) ?_ _
                            exact Post8.mk HJ3 rfl
                          exact AllReadyIn.nil
                        exact AllReadyIn.nil
                      exact AllReadyIn.nil
                    exact AllReadyIn.nil
                  refine AllReadyIn.cons rfl (fun K hK => ?_) ?_
                  · go_simp
                    refine hK _ _ ?_; clear hK K
                    refine wpAnyIn_ready (rs := [2]) (by kernel_rfl) (by simp) ?_
                    refine AllReadyIn.cons rfl (fun K hK => ?_) ?_
                    · go_simp
                      refine hK _ _ ?_; clear hK K
                      refine wpAnyIn_ready (rs := [4]) (by kernel_rfl) (by simp) ?_
                      refine AllReadyIn.cons rfl (fun K hK => ?_) ?_
                      · refine step_append_in rfl (.tmp 31) (.tmp 32) 22 rfl _ _ rfl rfl hr ?_
                        refine hK _ _ ?_; clear hK K
                        refine wpAnyIn_ready (rs := [5]) (by kernel_rfl) (by simp) ?_
                        refine AllReadyIn.cons rfl (fun K hK => ?_) ?_
                        · go_simp
                          first | (refine HR8.out.mono ?_; skip) | skip
                          rintro e W3 hj
                          obtain ⟨r, rfl, HJ3⟩ : ∃ r : Bool, e = .returned (.bool r) ∧ Hid (Out8 J Jx ((pre ++ pre2) ++ [y]) M' lr w' r W3) := by
                            rcases hj with ⟨rfl, hj⟩ | ⟨rfl, hj⟩
                            · exact ⟨true, rfl, hj⟩
                            · exact ⟨false, rfl, hj⟩
                          clear hj
                          go_simp
                          refine hK _ _ ?_; clear hK K
                          refine wpAnyIn_ready (rs := [6]) (by kernel_rfl) (by simp) ?_
                          refine AllReadyIn.cons rfl (fun K hK => ?_) ?_
                          · go_simp
                            refine hK _ _ ?_; clear hK K
                            refine wpAnyIn_done (by kernel_rfl) ?_ _
                            exact Post8.mk HJ3 rfl
                          exact AllReadyIn.nil
                        exact AllReadyIn.nil
                      exact AllReadyIn.nil
                    exact AllReadyIn.nil
                  exact AllReadyIn.nil
                refine AllReadyIn.cons rfl (fun K hK => ?_) ?_
                · go_simp
                  refine hK _ _ ?_; clear hK K
                  refine wpAnyIn_ready (rs := [1]) (by kernel_rfl) (by simp) ?_
                  refine AllReadyIn.cons rfl (fun K hK => ?_) ?_
                  · go_simp
                    refine hK _ _ ?_; clear hK K
                    refine wpAnyIn_ready (rs := [2]) (by kernel_rfl) (by simp) ?_
                    refine AllReadyIn.cons rfl (fun K hK => ?_) ?_
                    · go_simp
                      refine hK _ _ ?_; clear hK K
                      refine wpAnyIn_ready (rs := [4]) (by kernel_rfl) (by simp) ?_
                      refine AllReadyIn.cons rfl (fun K hK => ?_) ?_
                      · refine step_append_in rfl (.tmp 31) (.tmp 32) 22 rfl _ _ rfl rfl hr ?_
                        refine hK _ _ ?_; clear hK K
                        refine wpAnyIn_ready (rs := [5]) (by kernel_rfl) (by simp) ?_
                        refine AllReadyIn.cons rfl (fun K hK => ?_) ?_
                        · go_simp
                          first | (refine HR8.out.mono ?_; skip) | skip
                          rintro e W3 hj
                          obtain ⟨r, rfl, HJ3⟩ : ∃ r : Bool, e = .returned (.bool r) ∧ Hid (Out8 J Jx ((pre ++ pre2) ++ [y]) M' lr w' r W3) := by
                            rcases hj with ⟨rfl, hj⟩ | ⟨rfl, hj⟩
                            · exact ⟨true, rfl, hj⟩
                            · exact ⟨false, rfl, hj⟩
                          clear hj
                          go_simp
                          refine hK _ _ ?_; clear hK K
                          refine wpAnyIn_ready (rs := [6]) (by kernel_rfl) (by simp) ?_
                          refine AllReadyIn.cons rfl (fun K hK => ?_) ?_
                          · go_simp
                            refine hK _ _ ?_; clear hK K
                            refine wpAnyIn_done (by kernel_rfl) ?_ _
                            exact Post8.mk HJ3 rfl
                          exact AllReadyIn.nil
                        exact AllReadyIn.nil
                      exact AllReadyIn.nil
                    exact AllReadyIn.nil
                  exact AllReadyIn.nil
                exact AllReadyIn.nil
              refine AllReadyIn.cons rfl (fun K hK => ?_) ?_
              · go_simp
                refine hK _ _ ?_; clear hK K
                refine wpAnyIn_ready (rs := [0, 2, 3]) (by kernel_rfl) (by simp) ?_
                refine AllReadyIn.cons rfl (fun K hK => ?_) ?_
                · go_simp
                  refine hK _ _ ?_; clear hK K
                  refine wpAnyIn_ready (rs := [2, 3]) (by kernel_rfl) (by simp) ?_
                  refine AllReadyIn.cons rfl (fun K hK => ?_) ?_
                  · go_simp
                    refine hK _ _ ?_; clear hK K
                    refine wpAnyIn_ready (rs := [3]) (by kernel_rfl) (by simp) ?_
                    refine AllReadyIn.cons rfl (fun K hK => ?_) ?_
                    · go_simp
                      refine hK _ _ ?_; clear hK K
                      refine wpAnyIn_ready (rs := [4]) (by kernel_rfl) (by simp) ?_
                      refine AllReadyIn.cons rfl (fun K hK => ?_) ?_
                      · refine step_append_in rfl (.tmp 31) (.tmp 32) 22 rfl _ _ rfl rfl hr ?_
                        refine hK _ _ ?_; clear hK K
                        refine wpAnyIn_ready (rs := [5]) (by kernel_rfl) (by simp) ?_
                        refine AllReadyIn.cons rfl (fun K hK => ?_) ?_
                        · go_simp
                          first | (refine HR8.out.mono ?_; skip) | skip
                          rintro e W3 hj
                          obtain ⟨r, rfl, HJ3⟩ : ∃ r : Bool, e = .returned (.bool r) ∧ Hid (Out8 J Jx ((pre ++ pre2) ++ [y]) M' lr w' r W3) := by
                            rcases hj with ⟨rfl, hj⟩ | ⟨rfl, hj⟩
                            · exact ⟨true, rfl, hj⟩
                            · exact ⟨false, rfl, hj⟩
                          clear hj
                          go_simp
                          refine hK _ _ ?_; clear hK K
                          refine wpAnyIn_ready (rs := [6]) (by kernel_rfl) (by simp) ?_
                          refine AllReadyIn.cons rfl (fun K hK => ?_) ?_
                          · go_simp
                            refine hK _ _ ?_; clear hK K
                            refine wpAnyIn_done (by kernel_rfl) ?_ _
                            exact Post8.mk HJ3 rfl
                          exact AllReadyIn.nil
                        exact AllReadyIn.nil
                      exact AllReadyIn.nil
                    exact AllReadyIn.nil
                  refine AllReadyIn.cons rfl (fun K hK => ?_) ?_
                  · go_simp
                    refine hK _ _ ?_; clear hK K
                    refine wpAnyIn_ready (rs := [2]) (by kernel_rfl) (by simp) ?_
                    refine AllReadyIn.cons rfl (fun K hK => ?_) ?_
                    · go_simp
                      refine hK _ _ ?_; clear hK K
                      refine wpAnyIn_ready (rs := [4]) (by kernel_rfl) (by simp) ?_
                      refine AllReadyIn.cons rfl (fun K hK => ?_) ?_
                      · refine step_append_in rfl (.tmp 31) (.tmp 32) 22 rfl _ _ rfl rfl hr ?_
                        refine hK _ _ ?_; clear hK K
                        refine wpAnyIn_ready (rs := [5]) (by kernel_rfl) (by simp) ?_
                        refine AllReadyIn.cons rfl (fun K hK => ?_) ?_
                        · go_simp
                          first | (refine HR8.out.mono ?_; skip) | skip
                          rintro e W3 hj
                          obtain ⟨r, rfl, HJ3⟩ : ∃ r : Bool, e = .returned (.bool r) ∧ Hid (Out8 J Jx ((pre ++ pre2) ++ [y]) M' lr w' r W3) := by
                            rcases hj with ⟨rfl, hj⟩ | ⟨rfl, hj⟩
                            · exact ⟨true, rfl, hj⟩
                            · exact ⟨false, rfl, hj⟩
                          clear hj
                          go_simp
                          refine hK _ _ ?_; clear hK K
                          refine wpAnyIn_ready (rs := [6]) (by kernel_rfl) (by simp) ?_
                          refine AllReadyIn.cons rfl (fun K hK => ?_) ?_
                          · go_simp
                            refine hK _ _ ?_; clear hK K
                            refine wpAnyIn_done (by kernel_rfl) ?_ _
                            exact Post8.mk HJ3 rfl
                          exact AllReadyIn.nil
                        exact AllReadyIn.nil
                      exact AllReadyIn.nil
                    exact AllReadyIn.nil
                  exact AllReadyIn.nil
                refine AllReadyIn.cons rfl (fun K hK => ?_) ?_
                · go_simp
                  refine hK _ _ ?_; clear hK K
                  refine wpAnyIn_ready (rs := [0, 3]) (by kernel_rfl) (by simp) ?_
                  refine AllReadyIn.cons rfl (fun K hK => ?_) ?_
                  · go_simp
                    refine hK _ _ ?_; clear hK K
                    refine wpAnyIn_ready (rs := [3]) (by kernel_rfl) (by simp) ?_
                    refine AllReadyIn.cons rfl (fun K hK => ?_) ?_
                    · go_simp
                      refine hK _ _ ?_; clear hK K
                      refine wpAnyIn_ready (rs := [4]) (by kernel_rfl) (by simp) ?_
                      refine AllReadyIn.cons rfl (fun K hK => ?_) ?_
                      · refine step_append_in rfl (.tmp 31) (.tmp 32) 22 rfl _ _ rfl rfl hr ?_
                        refine hK _ _ ?_; clear hK K
                        refine wpAnyIn_ready (rs := [5]) (by kernel_rfl) (by simp) ?_
                        refine AllReadyIn.cons rfl (fun K hK => ?_) ?_
                        · go_simp
                          first | (refine HR8.out.mono ?_; skip) | skip
                          rintro e W3 hj
                          obtain ⟨r, rfl, HJ3⟩ : ∃ r : Bool, e = .returned (.bool r) ∧ Hid (Out8 J Jx ((pre ++ pre2) ++ [y]) M' lr w' r W3) := by
                            rcases hj with ⟨rfl, hj⟩ | ⟨rfl, hj⟩
                            · exact ⟨true, rfl, hj⟩
                            · exact ⟨false, rfl, hj⟩
                          clear hj
                          go_simp
                          refine hK _ _ ?_; clear hK K
                          refine wpAnyIn_ready (rs := [6]) (by kernel_rfl) (by simp) ?_
                          refine AllReadyIn.cons rfl (fun K hK => ?_) ?_
                          · go_simp
                            refine hK _ _ ?_; clear hK K
                            refine wpAnyIn_done (by kernel_rfl) ?_ _
                            exact Post8.mk HJ3 rfl
                          exact AllReadyIn.nil
                        exact AllReadyIn.nil
                      exact AllReadyIn.nil
                    exact AllReadyIn.nil
                  refine AllReadyIn.cons rfl (fun K hK => ?_) ?_
                  · go_simp
                    refine hK _ _ ?_; clear hK K
                    refine wpAnyIn_ready (rs := [0, 4]) (by kernel_rfl) (by simp) ?_
                    refine AllReadyIn.cons rfl (fun K hK => ?_) ?_
                    · go_simp
                      refine hK _ _ ?_; clear hK K
                      refine wpAnyIn_ready (rs := [4]) (by kernel_rfl) (by simp) ?_
                      refine AllReadyIn.cons rfl (fun K hK => ?_) ?_
                      · refine step_append_in rfl (.tmp 31) (.tmp 32) 22 rfl _ _ rfl rfl hr ?_
                        refine hK _ _ ?_; clear hK K
                        refine wpAnyIn_ready (rs := [5]) (by kernel_rfl) (by simp) ?_
                        refine AllReadyIn.cons rfl (fun K hK => ?_) ?_
                        · go_simp
                          first | (refine HR8.out.mono ?_; skip) | skip
                          rintro e W3 hj
                          obtain ⟨r, rfl, HJ3⟩ : ∃ r : Bool, e = .returned (.bool r) ∧ Hid (Out8 J Jx ((pre ++ pre2) ++ [y]) M' lr w' r W3) := by
                            rcases hj with ⟨rfl, hj⟩ | ⟨rfl, hj⟩
                            · exact ⟨true, rfl, hj⟩
                            · exact ⟨false, rfl, hj⟩
                          clear hj
                          go_simp
                          refine hK _ _ ?_; clear hK K
                          refine wpAnyIn_ready (rs := [6]) (by kernel_rfl) (by simp) ?_
                          refine AllReadyIn.cons rfl (fun K hK => ?_) ?_
                          · go_simp
                            refine hK _ _ ?_; clear hK K
                            refine wpAnyIn_done (by kernel_rfl) ?_ _
                            exact Post8.mk HJ3 rfl
                          exact AllReadyIn.nil
                        exact AllReadyIn.nil
                      exact AllReadyIn.nil
                    refine AllReadyIn.cons rfl (fun K hK => ?_) ?_
                    · refine step_append_in rfl (.tmp 31) (.tmp 32) 22 rfl _ _ rfl rfl hr ?_
                      refine hK _ _ ?_; clear hK K
                      refine wpAnyIn_ready (rs := [0]) (by kernel_rfl) (by simp) ?_
                      refine AllReadyIn.cons rfl (fun K hK => ?_) ?_
                      · go_simp
                        refine hK _ _ ?_; clear hK K
                        refine wpAnyIn_ready (rs := [5]) (by kernel_rfl) (by simp) ?_
                        refine AllReadyIn.cons rfl (fun K hK => ?_) ?_
                        · go_simp
                          first | (refine HR8.out.mono ?_; skip) | skip
                          rintro e W3 hj
                          obtain ⟨r, rfl, HJ3⟩ : ∃ r : Bool, e = .returned (.bool r) ∧ Hid (Out8 J Jx ((pre ++ pre2) ++ [y]) M' lr w' r W3) := by
                            rcases hj with ⟨rfl, hj⟩ | ⟨rfl, hj⟩
                            · exact ⟨true, rfl, hj⟩
                            · exact ⟨false, rfl, hj⟩
                          clear hj
                          go_simp
                          refine hK _ _ ?_; clear hK K
                          refine wpAnyIn_ready (rs := [6]) (by kernel_rfl) (by simp) ?_
                          refine AllReadyIn.cons rfl (fun K hK => ?_) ?_
                          · go_simp
                            refine hK _ _ ?_; clear hK K
                            refine wpAnyIn_done (by kernel_rfl) ?_ _
                            exact Post8.mk HJ3 rfl
                          exact AllReadyIn.nil
                        exact AllReadyIn.nil
                      exact AllReadyIn.nil
                    exact AllReadyIn.nil
                  exact AllReadyIn.nil
                refine AllReadyIn.cons rfl (fun K hK => ?_) ?_
                · go_simp
                  refine hK _ _ ?_; clear hK K
                  refine wpAnyIn_ready (rs := [0, 2]) (by kernel_rfl) (by simp) ?_
                  refine AllReadyIn.cons rfl (fun K hK => ?_) ?_
                  · go_simp
                    refine hK _ _ ?_; clear hK K
                    refine wpAnyIn_ready (rs := [2]) (by kernel_rfl) (by simp) ?_
                    refine AllReadyIn.cons rfl (fun K hK => ?_) ?_
                    · go_simp
                      refine hK _ _ ?_; clear hK K
                      refine wpAnyIn_ready (rs := [4]) (by kernel_rfl) (by simp) ?_
                      refine AllReadyIn.cons rfl (fun K hK => ?_) ?_
                      · refine step_append_in rfl (.tmp 31) (.tmp 32) 22 rfl _ _ rfl rfl hr ?_
                        refine hK _ _ ?_; clear hK K
                        refine wpAnyIn_ready (rs := [5]) (by kernel_rfl) (by simp) ?_
                        refine AllReadyIn.cons rfl (fun K hK => ?_) ?_
                        · go_simp
                          first | (refine HR8.out.mono ?_; skip) | skip
                          rintro e W3 hj
                          obtain ⟨r, rfl, HJ3⟩ : ∃ r : Bool, e = .returned (.bool r) ∧ Hid (Out8 J Jx ((pre ++ pre2) ++ [y]) M' lr w' r W3) := by
                            rcases hj with ⟨rfl, hj⟩ | ⟨rfl, hj⟩
                            · exact ⟨true, rfl, hj⟩
                            · exact ⟨false, rfl, hj⟩
                          clear hj
                          go_simp
                          refine hK _ _ ?_; clear hK K
                          refine wpAnyIn_ready (rs := [6]) (by kernel_rfl) (by simp) ?_
                          refine AllReadyIn.cons rfl (fun K hK => ?_) ?_
                          · go_simp
                            refine hK _ _ ?_; clear hK K
                            refine wpAnyIn_done (by kernel_rfl) ?_ _
                            exact Post8.mk HJ3 rfl
                          exact AllReadyIn.nil
                        exact AllReadyIn.nil
                      exact AllReadyIn.nil
                    exact AllReadyIn.nil
                  refine AllReadyIn.cons rfl (fun K hK => ?_) ?_
                  · go_simp
                    refine hK _ _ ?_; clear hK K
                    refine wpAnyIn_ready (rs := [0, 4]) (by kernel_rfl) (by simp) ?_
                    refine AllReadyIn.cons rfl (fun K hK => ?_) ?_
                    · go_simp
                      refine hK _ _ ?_; clear hK K
                      refine wpAnyIn_ready (rs := [4]) (by kernel_rfl) (by simp) ?_
                      refine AllReadyIn.cons rfl (fun K hK => ?_) ?_
                      · refine step_append_in rfl (.tmp 31) (.tmp 32) 22 rfl _ _ rfl rfl hr ?_
                        refine hK _ _ ?_; clear hK K
                        refine wpAnyIn_ready (rs := [5]) (by kernel_rfl) (by simp) ?_
                        refine AllReadyIn.cons rfl (fun K hK => ?_) ?_
                        · go_simp
                          first | (refine HR8.out.mono ?_; skip) | skip
                          rintro e W3 hj
                          obtain ⟨r, rfl, HJ3⟩ : ∃ r : Bool, e = .returned (.bool r) ∧ Hid (Out8 J Jx ((pre ++ pre2) ++ [y]) M' lr w' r W3) := by
                            rcases hj with ⟨rfl, hj⟩ | ⟨rfl, hj⟩
                            · exact ⟨true, rfl, hj⟩
                            · exact ⟨false, rfl, hj⟩
                          clear hj
                          go_simp
                          refine hK _ _ ?_; clear hK K
                          refine wpAnyIn_ready (rs := [6]) (by kernel_rfl) (by simp) ?_
                          refine AllReadyIn.cons rfl (fun K hK => ?_) ?_
                          · go_simp
                            refine hK _ _ ?_; clear hK K
                            refine wpAnyIn_done (by kernel_rfl) ?_ _
                            exact Post8.mk HJ3 rfl
                          exact AllReadyIn.nil
                        exact AllReadyIn.nil
                      exact AllReadyIn.nil
                    refine AllReadyIn.cons rfl (fun K hK => ?_) ?_
                    · refine step_append_in rfl (.tmp 31) (.tmp 32) 22 rfl _ _ rfl rfl hr ?_
                      refine hK _ _ ?_; clear hK K
                      refine wpAnyIn_ready (rs := [0]) (by kernel_rfl) (by simp) ?_
                      refine AllReadyIn.cons rfl (fun K hK => ?_) ?_
                      · go_simp
                        refine hK _ _ ?_; clear hK K
                        refine wpAnyIn_ready (rs := [5]) (by kernel_rfl) (by simp) ?_
                        refine AllReadyIn.cons rfl (fun K hK => ?_) ?_
                        · go_simp
                          first | (refine HR8.out.mono ?_; skip) | skip
                          rintro e W3 hj
                          obtain ⟨r, rfl, HJ3⟩ : ∃ r : Bool, e = .returned (.bool r) ∧ Hid (Out8 J Jx ((pre ++ pre2) ++ [y]) M' lr w' r W3) := by
                            rcases hj with ⟨rfl, hj⟩ | ⟨rfl, hj⟩
                            · exact ⟨true, rfl, hj⟩
                            · exact ⟨false, rfl, hj⟩
                          clear hj
                          go_simp
                          refine hK _ _ ?_; clear hK K
                          refine wpAnyIn_ready (rs := [6]) (by kernel_rfl) (by simp) ?_
                          refine AllReadyIn.cons rfl (fun K hK => ?_) ?_
                          · go_simp
                            refine hK _ _ ?_; clear hK K
                            refine wpAnyIn_done (by kernel_rfl) ?_ _
                            exact Post8.mk HJ3 rfl
                          exact AllReadyIn.nil
                        exact AllReadyIn.nil
                      exact AllReadyIn.nil
                    exact AllReadyIn.nil
                  exact AllReadyIn.nil
                exact AllReadyIn.nil
              refine AllReadyIn.cons rfl (fun K hK => ?_) ?_
              · go_simp
                refine hK _ _ ?_; clear hK K
                refine wpAnyIn_ready (rs := [0, 1]) (by kernel_rfl) (by simp) ?_
                refine AllReadyIn.cons rfl (fun K hK => ?_) ?_
                · go_simp
                  refine hK _ _ ?_; clear hK K
                  refine wpAnyIn_ready (rs := [1]) (by kernel_rfl) (by simp) ?_
                  refine AllReadyIn.cons rfl (fun K hK => ?_) ?_
                  · go_simp
                    refine hK _ _ ?_; clear hK K
                    refine wpAnyIn_ready (rs := [2]) (by kernel_rfl) (by simp) ?_
                    refine AllReadyIn.cons rfl (fun K hK => ?_) ?_
                    · go_simp
                      refine hK _ _ ?_; clear hK K
                      refine wpAnyIn_ready (rs := [4]) (by kernel_rfl) (by simp) ?_
                      refine AllReadyIn.cons rfl (fun K hK => ?_) ?_
                      · refine step_append_in rfl (.tmp 31) (.tmp 32) 22 rfl _ _ rfl rfl hr ?_
                        refine hK _ _ ?_; clear hK K
                        refine wpAnyIn_ready (rs := [5]) (by kernel_rfl) (by simp) ?_
                        refine AllReadyIn.cons rfl (fun K hK => ?_) ?_
                        · go_simp
                          first | (refine HR8.out.mono ?_; skip) | skip
                          rintro e W3 hj
                          obtain ⟨r, rfl, HJ3⟩ : ∃ r : Bool, e = .returned (.bool r) ∧ Hid (Out8 J Jx ((pre ++ pre2) ++ [y]) M' lr w' r W3) := by
                            rcases hj with ⟨rfl, hj⟩ | ⟨rfl, hj⟩
                            · exact ⟨true, rfl, hj⟩
                            · exact ⟨false, rfl, hj⟩
                          clear hj
                          go_simp
                          refine hK _ _ ?_; clear hK K
                          refine wpAnyIn_ready (rs := [6]) (by kernel_rfl) (by simp) ?_
                          refine AllReadyIn.cons rfl (fun K hK => ?_) ?_
                          · go_simp
                            refine hK _ _ ?_; clear hK K
                            refine wpAnyIn_done (by kernel_rfl) ?_ _
                            exact Post8.mk HJ3 rfl
                          exact AllReadyIn.nil
                        exact AllReadyIn.nil
                      exact AllReadyIn.nil
                    exact AllReadyIn.nil
                  exact AllReadyIn.nil
                refine AllReadyIn.cons rfl (fun K hK => ?_) ?_
                · go_simp
                  refine hK _ _ ?_; clear hK K
                  refine wpAnyIn_ready (rs := [0, 2]) (by kernel_rfl) (by simp) ?_
                  refine AllReadyIn.cons rfl (fun K hK => ?_) ?_
                  · go_simp
                    refine hK _ _ ?_; clear hK K
                    refine wpAnyIn_ready (rs := [2]) (by kernel_rfl) (by simp) ?_
                    refine AllReadyIn.cons rfl (fun K hK => ?_) ?_
                    · go_simp
                      refine hK _ _ ?_; clear hK K
                      refine wpAnyIn_ready (rs := [4]) (by kernel_rfl) (by simp) ?_
                      refine AllReadyIn.cons rfl (fun K hK => ?_) ?_
                      · refine step_append_in rfl (.tmp 31) (.tmp 32) 22 rfl _ _ rfl rfl hr ?_
                        refine hK _ _ ?_; clear hK K
                        refine wpAnyIn_ready (rs := [5]) (by kernel_rfl) (by simp) ?_
                        refine AllReadyIn.cons rfl (fun K hK => ?_) ?_
                        · go_simp
                          first | (refine HR8.out.mono ?_; skip) | skip
                          rintro e W3 hj
                          obtain ⟨r, rfl, HJ3⟩ : ∃ r : Bool, e = .returned (.bool r) ∧ Hid (Out8 J Jx ((pre ++ pre2) ++ [y]) M' lr w' r W3) := by
                            rcases hj with ⟨rfl, hj⟩ | ⟨rfl, hj⟩
                            · exact ⟨true, rfl, hj⟩
                            · exact ⟨false, rfl, hj⟩
                          clear hj
                          go_simp
                          refine hK _ _ ?_; clear hK K
                          refine wpAnyIn_ready (rs := [6]) (by kernel_rfl) (by simp) ?_
                          refine AllReadyIn.cons rfl (fun K hK => ?_) ?_
                          · go_simp
                            refine hK _ _ ?_; clear hK K
                            refine wpAnyIn_done (by kernel_rfl) ?_ _
                            exact Post8.mk HJ3 rfl
                          exact AllReadyIn.nil
                        exact AllReadyIn.nil
                      exact AllReadyIn.nil
                    exact AllReadyIn.nil
                  refine AllReadyIn.cons rfl (fun K hK => ?_) ?_
                  · go_simp
                    refine hK _ _ ?_; clear hK K
                    refine wpAnyIn_ready (rs := [0, 4]) (by kernel_rfl) (by simp) ?_
                    refine AllReadyIn.cons rfl (fun K hK => ?_) ?_
                    · go_simp
                      refine hK _ _ ?_; clear hK K
                      refine wpAnyIn_ready (rs := [4]) (by kernel_rfl) (by simp) ?_
                      refine AllReadyIn.cons rfl (fun K hK => ?_) ?_
                      · refine step_append_in rfl (.tmp 31) (.tmp 32) 22 rfl _ _ rfl rfl hr ?_
                        refine hK _ _ ?_; clear hK K
                        refine wpAnyIn_ready (rs := [5]) (by kernel_rfl) (by simp) ?_
                        refine AllReadyIn.cons rfl (fun K hK => ?_) ?_
                        · go_simp
                          first | (refine HR8.out.mono ?_; skip) | skip
                          rintro e W3 hj
                          obtain ⟨r, rfl, HJ3⟩ : ∃ r : Bool, e = .returned (.bool r) ∧ Hid (Out8 J Jx ((pre ++ pre2) ++ [y]) M' lr w' r W3) := by
                            rcases hj with ⟨rfl, hj⟩ | ⟨rfl, hj⟩
                            · exact ⟨true, rfl, hj⟩
                            · exact ⟨false, rfl, hj⟩
                          clear hj
                          go_simp
                          refine hK _ _ ?_; clear hK K
                          refine wpAnyIn_ready (rs := [6]) (by kernel_rfl) (by simp) ?_
                          refine AllReadyIn.cons rfl (fun K hK => ?_) ?_
                          · go_simp
                            refine hK _ _ ?_; clear hK K
                            refine wpAnyIn_done (by kernel_rfl) ?_ _
                            exact Post8.mk HJ3 rfl
                          exact AllReadyIn.nil
                        exact AllReadyIn.nil
                      exact AllReadyIn.nil
                    refine AllReadyIn.cons rfl (fun K hK => ?_) ?_
                    · refine step_append_in rfl (.tmp 31) (.tmp 32) 22 rfl _ _ rfl rfl hr ?_
                      refine hK _ _ ?_; clear hK K
                      refine wpAnyIn_ready (rs := [0]) (by kernel_rfl) (by simp) ?_
                      refine AllReadyIn.cons rfl (fun K hK => ?_) ?_
                      · go_simp
                        refine hK _ _ ?_; clear hK K
                        refine wpAnyIn_ready (rs := [5]) (by kernel_rfl) (by simp) ?_
                        refine AllReadyIn.cons rfl (fun K hK => ?_) ?_
                        · go_simp
                          first | (refine HR8.out.mono ?_; skip) | skip
                          rintro e W3 hj
                          obtain ⟨r, rfl, HJ3⟩ : ∃ r : Bool, e = .returned (.bool r) ∧ Hid (Out8 J Jx ((pre ++ pre2) ++ [y]) M' lr w' r W3) := by
                            rcases hj with ⟨rfl, hj⟩ | ⟨rfl, hj⟩
                            · exact ⟨true, rfl, hj⟩
                            · exact ⟨false, rfl, hj⟩
                          clear hj
                          go_simp
                          refine hK _ _ ?_; clear hK K
                          refine wpAnyIn_ready (rs := [6]) (by kernel_rfl) (by simp) ?_
                          refine AllReadyIn.cons rfl (fun K hK => ?_) ?_
                          · go_simp
                            refine hK _ _ ?_; clear hK K
                            refine wpAnyIn_done (by kernel_rfl) ?_ _
                            exact Post8.mk HJ3 rfl
                          exact AllReadyIn.nil
                        exact AllReadyIn.nil
                      exact AllReadyIn.nil
                    exact AllReadyIn.nil
                  exact AllReadyIn.nil
                exact AllReadyIn.nil
              exact AllReadyIn.nil
            case cont8 =>
              rintro e a'' W3 hp
              cases e with
              | normal =>
                obtain ⟨r, HJ3, rfl⟩ := hp
                obtain ⟨h1, h3, h4, h5, hgr', hy0⟩ := HB.out
                cases r with
                | true =>
                  obtain ⟨M'', hj3, hst3⟩ : ∃ M'', J ((pre ++ pre2) ++ [y]) M'' W3 ∧ Step M' w' M'' W3 := HJ3.out
                  have hstep : Step M' X M'' W3 := (Step.trans ⟨Fr.mono hgr' (fun _ _ h => h.elim), fun k h => .inl h⟩ hst3)
                  have hsnd : (pre2 ++ [y]).map Prod.snd = (pre' ++ [x']).map (fun r => x :: r.2) := by rw [List.map_append, List.map_append, h1, hy0]; rfl
                  have h5' : ¬ M'' wr.heap.size := fun h => (hstep.sub _ h).elim h5 (fun q => by have := h4.lt; omega)
                  have HZ := Lib.hid (And.intro hstep (And.intro hsnd (And.intro (by rw [← List.append_assoc]; exact hj3 : J (pre ++ (pre2 ++ [y])) M'' W3) (And.intro (h3.step hstep) (And.intro (hstep.fr.at_ h4 h5 : Boxed W3 wr.heap.size 3 (.int .i64 x)) h5')))))
                  clear h1 h3 h4 h5 hgr' hy0 hj3 hst3 hstep hsnd h5' HJ3
                  gi_wp2
                  exact ⟨M'', HZ.out.1, pre2 ++ [y], HZ.out.2⟩
                | false =>
                  obtain ⟨hq3, hfr3⟩ : Jx ((pre ++ pre2) ++ [y]) W3 ∧ Fr (fun k => M' k ∨ k ≤ lr) w' W3 := HJ3.out
                  have hfr : Fr (fun k => M' k ∨ k ≤ lr) X W3 := (Fr.mono hgr' (fun _ _ h => h.elim)).trans hfr3
                  have hmk : Marks W.heap.size ds (fun _ => False) W3 := ⟨fun dd hd => by
                    obtain ⟨D, e, hb1, hb2, hb3⟩ := h3.marks.1 dd hd
                    exact ⟨D, e, hb1, fun h => h, hfr.at_ hb3 (fun h => h.elim hb2 (fun q => by omega))⟩, h3.marks.2⟩
                  have hfr2 : Fr (fun k => M' k ∨ k < wA.heap.size) X W3 := hfr.mono (fun k _ h => h.imp id (fun q => by omega))
                  have HZ := Lib.hid (And.intro hfr2 (And.intro hq3 hmk))
                  clear h1 h3 h4 h5 hgr' hy0 hq3 hfr3 hfr hmk hfr2 HJ3
                  gi_wp2
                  exact ⟨HZ.out.1, rfl, ⟨_, HZ.out.2.1⟩, HZ.out.2.2⟩
              | _ => exact hp.elim
          case done =>
            rintro D xs M' W' hD hS ⟨pre2, h1, h2, h3, h4, h5⟩ hMD hK
            have hm := Marks.cons h3.marks HA2.out.2.2.2.2.2.2.1 hD (by omega) hMD hK
            have hpre : (pre ++ pre2).map Prod.snd = ordsTo len2 l (i + 1) := by
              rw [List.map_append, HX.out.2.2, h1, ordsTo_succ, ← hS, List.map_map, List.getElem?_eq_getElem hil, Option.getD_some, ← Hx.out]
              rfl
            have HF : Hid (OrdSt W Bs (some ⟨b, off, none⟩) cap len2 l lr M' ({ target := .collected D, args := #[] } :: ds) W' ∧ J (pre ++ pre2) M' W' ∧ (pre ++ pre2).map Prod.snd = ordsTo len2 l (i + 1)) := ⟨⟨h3.box, h3.yb, h3.ints, h3.own, h3.nb, h3.lo, hm⟩, h2, hpre⟩
            clear h1 h2 h3 h4 h5 hm hpre hK hMD hS
            gi_wp2
            exact ⟨len2 + 1 - (i + 1), by omega, i + 1, pre ++ pre2, M', _, _, _, _, _, _, _, _, _, _, _, _, _, _, _, _, _, _, _, _, _, _, _, _, _, _, _, by omega, rfl, HF, rfl⟩
          case stop =>
            rintro D c pre' W' hD _ ⟨rfl, ⟨q, hq⟩, hm0⟩ hK
            have hm := Marks.cons hm0 HA2.out.2.2.2.2.2.2.1 hD (by omega) (fun h => h) hK
            have HF := Lib.hid (And.intro hq hm)
            clear hq hm0 hm hK
            gi_wp2
            exact leaves_marks (B := W.heap.size) (M := fun _ => False) (fun w => Jx q w) (fun w l o o' h hB hlo ho => HJ.out.2.1.putObj o' h hB hlo ho) (fun w hg => ⟨_, results_none rfl _ _ _, ⟨_, rfl⟩, .inr ⟨q, trivial, hg⟩⟩) _ W' HF.out.2 HF.out.1
        | _ => exact hR.elim
    · have hlti : ¬ (i : Int) < (n : Int) + 1 := by omega
      have hie : i = l.length := by rw [HL.out.1]; omega
      have HX1 := HX.out
      rw [hie, ordsTo_all] at HX1
      have HX2 := Lib.hid HX1
      clear HX HX1 hie
      gi_wp2
      refine leaves_marks (B := W.heap.size) (M := M) (fun w => ∃ M', J pre M' w) ?_ (fun w hg => ⟨_, results_none rfl _ _ _, ⟨_, rfl⟩, .inl ?_⟩) ds wr HX2.out.1.marks ⟨M, HX2.out.2.1⟩
      · rintro w l o o' ⟨M', hj⟩ hB hlo ho
        exact ⟨M', HJ.out.1.putObj o' hj hB hlo ho⟩
      · obtain ⟨M', hj⟩ := hg
        exact ⟨pre, M', HX2.out.2.2, hj⟩
end Go.Proofs.Ytacfchepacfjnaa
