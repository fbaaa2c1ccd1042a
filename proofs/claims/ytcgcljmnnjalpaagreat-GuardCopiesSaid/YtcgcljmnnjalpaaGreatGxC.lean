/- The managers of memory, plainly: one state for all kinds, as the document's answer has it; and what a manager's call leaves in memory. Rows of elements of several cells; slices.Index, Contains of ints. -/
import Derived.Test.YtcgcljmnnjalpaaGreatKxE
import Derived.Test.YtcgcljmnnjalpaaGreatGxA
import Derived.Shelf.Abstract
import Derived.Deep.CutBlock
import Derived.Deep.QuietTactic
set_option linter.unusedVariables false
set_option linter.unusedSimpArgs false
namespace Go.Proofs.YtcgcljmnnjalpaaGreat
open Go.RowKit Go.Kx
structure Itm where
  addr : Int
  thr : Int
  at_ : Int
  birth : Int
  for_ : Nat → Bool
structure RS where
  kind : Int
  n : Nat
  now : Int
  holds : Nat → Nat → Int
  ins : Nat → Bool
  lo : Nat → Int
  hi : Nat → Int
  items : List Itm
  born : Int → Int
/-- A state, what is given back, the error. -/
structure RO where
  st : RS
  back : List Int
  err : Int
def newS (k : Int) (n : Nat) : RS := ⟨k, n, 0, fun _ _ => 0, fun _ => false, fun _ => 0, fun _ => 0, [], fun _ => 0⟩
def okTh (s : RS) (t : Int) : Bool := decide (0 ≤ t) && decide (t < s.n)
def upd1 {α : Type} (f : Nat → α) (k : Nat) (v : α) : Nat → α := fun i => if i = k then v else f i
def heldB (s : RS) (a : Int) : Bool := (List.range 4).any fun t => (List.range 3).any fun k => s.holds t k == a
def spanB (s : RS) (x : Itm) (t : Nat) : Bool := s.ins t && ((decide (x.birth ≤ s.hi t) && decide (s.lo t ≤ x.at_)) || (List.range 3).any fun k => s.holds t k == x.addr)
def freeB (s : RS) (x : Itm) : Bool :=
  if s.kind = 1 ∨ s.kind = 4 then !(heldB s x.addr)
  else if s.kind = 2 then decide (x.at_ ≤ s.now - 2)
  else if s.kind = 3 then !((List.range 4).any (spanB s x))
  else if s.kind = 5 then !((List.range 4).any x.for_)
  else false
def sweepS (s : RS) (p : Itm → Bool) : RO :=
  let b := (s.items.filter fun x => p x && freeB s x).map (·.addr)
  ⟨{ s with items := s.items.filter (fun x => !(p x && freeB s x)), born := fun a => if a ∈ b then 0 else s.born a }, b, 0⟩
def behindB (s : RS) : Bool := (List.range 4).any fun t => s.ins t && !(s.lo t == s.now)
def tryS (s : RS) : RO := if behindB s then ⟨s, [], 0⟩ else sweepS { s with now := s.now + 1 } (fun _ => true)
def inS (s : RS) (t : Int) : RO :=
  if okTh s t then ⟨{ s with holds := if s.kind = 3 then upd1 s.holds t.toNat (fun _ => 0) else s.holds, ins := upd1 s.ins t.toNat true, lo := upd1 s.lo t.toNat s.now, hi := upd1 s.hi t.toNat s.now }, [], 0⟩ else ⟨s, [], 1⟩
def outS0 (s : RS) (t : Nat) : RS := { s with ins := upd1 s.ins t false, holds := upd1 s.holds t (fun _ => 0), items := s.items.map fun x => { x with for_ := upd1 x.for_ t false } }
def outS (s : RS) (t : Int) : RO :=
  if okTh s t then (if s.kind = 3 ∨ s.kind = 4 ∨ s.kind = 5 then sweepS (outS0 s t.toNat) (fun _ => true) else ⟨outS0 s t.toNat, [], 0⟩) else ⟨s, [], 1⟩
def holdOk (h a : Int) : Bool := decide (0 ≤ h) && decide (h < 3) && decide (0 ≤ a)
def holdS0 (s : RS) (t h : Nat) (a : Int) : RS := { s with holds := upd1 s.holds t (upd1 (s.holds t) h a), hi := if s.ins t then upd1 s.hi t s.now else s.hi }
def holdS (s : RS) (t h a : Int) : RO :=
  if okTh s t && holdOk h a then
    (if s.kind = 3 ∧ s.ins t.toNat = false then ⟨s, [], 0⟩
    else if s.kind = 4 then sweepS (holdS0 s t.toNat h.toNat a) (fun _ => true)
    else ⟨holdS0 s t.toNat h.toNat a, [], 0⟩)
  else ⟨s, [], 1⟩
def bornS (s : RS) (a : Int) : RO :=
  if 0 < a then (if s.kind = 3 then ⟨{ s with now := s.now + 1, born := fun b => if b = a then s.now + 1 else s.born b }, [], 0⟩ else ⟨s, [], 0⟩) else ⟨s, [], 1⟩
def waitsB (s : RS) (a : Int) : Bool := s.items.any fun x => x.addr == a
def mkItm (s : RS) (t a : Int) : Itm := ⟨a, t, s.now, s.born a, if s.kind = 5 then s.ins else fun _ => false⟩
def retS0 (s : RS) (t a : Int) : RS := { s with items := s.items ++ [mkItm s t a] }
def cntS (s : RS) (t : Int) : Nat := s.items.countP fun x => x.thr == t
def retS (s : RS) (t a : Int) : RO :=
  if okTh s t && decide (0 < a) then
    (if waitsB s a then ⟨s, [], 6⟩
    else if s.kind = 1 then (if 3 * s.n < cntS (retS0 s t a) t then sweepS (retS0 s t a) (fun x => x.thr == t) else ⟨retS0 s t a, [], 0⟩)
    else if s.kind = 2 then tryS (retS0 s t a)
    else sweepS (retS0 s t a) (fun _ => true))
  else ⟨s, [], 1⟩
/-- One after the other. -/
def seqS (s : RS) : List (RS → RO) → RO
  | [] => ⟨s, [], 0⟩
  | f :: l => ⟨(seqS (f s).st l).st, (f s).back ++ (seqS (f s).st l).back, 0⟩
def restS (s : RS) : RO :=
  if s.kind = 1 then seqS s ((List.range s.n).map fun (t : Nat) (s : RS) => sweepS s (fun x => x.thr == (t : Int)))
  else if s.kind = 2 then seqS s [tryS, tryS, tryS]
  else sweepS s (fun _ => true)
/-- What is always so. -/
structure Ok (s : RS) : Prop where
  n1 : 1 ≤ s.n
  n4 : s.n ≤ 4
  holds : ∀ t k, s.n ≤ t ∨ 3 ≤ k → s.holds t k = 0
  pos : ∀ t k, 0 ≤ s.holds t k
  ins : ∀ t, s.n ≤ t → s.ins t = false
  forI : ∀ x ∈ s.items, ∀ t, s.n ≤ t → x.for_ t = false
  addr : ∀ x ∈ s.items, 0 < x.addr
  now0 : 0 ≤ s.now
/-- Small enough for what comes. -/
def Small (s : RS) : Prop := s.items.length ≤ 100000 ∧ s.now ≤ 1000000
/-- The footprint of a manager. -/
abbrev FP := Nat → Prop
/-- What a call leaves: ints of its own, the manager in its new state. -/
def OpP (At : World → FP → RS → Prop) (w : World) (F : FP) (r : RO) (e : Ending) (w' : World) : Prop :=
  ∃ v F', e = .returned (.tuple #[v, .int .i64 r.err]) ∧ w'.ownsRow w.heap.size 3 1 v r.back.length (r.back.map (Value.int .i64)) ∧ At w' F' r.st ∧ Step F w F' w' ∧ ∀ k, v.ownBlock = some k → ¬ F' k
/-- .. ints alone. -/
def OpL (At : World → FP → RS → Prop) (w : World) (F : FP) (r : RO) (e : Ending) (w' : World) : Prop :=
  ∃ v F', e = .returned v ∧ w'.ownsRow w.heap.size 3 1 v r.back.length (r.back.map (Value.int .i64)) ∧ At w' F' r.st ∧ Step F w F' w' ∧ ∀ k, v.ownBlock = some k → ¬ F' k
/-- .. the error alone. -/
def OpE (At : World → FP → RS → Prop) (w : World) (F : FP) (r : RO) (e : Ending) (w' : World) : Prop :=
  ∃ F', e = .returned (.int .i64 r.err) ∧ At w' F' r.st ∧ Step F w F' w'
theorem OpP.none {At : World → FP → RS → Prop} {w w' : World} {F F' : FP} {s : RS} {z : Int} (h : At w' F' s) (hs : Step F w F' w') : OpP At w F ⟨s, [], z⟩ (.returned (.tuple #[.slice none 0 0, .int .i64 z])) w' :=
  ⟨_, F', rfl, World.ownsRow_nil _ _ _ _, h, hs, fun k hk => by simp [Value.ownBlock] at hk⟩
/-- A predicate on managers that lives in its footprint. -/
structure Local (At : World → FP → RS → Prop) : Prop where
  lt : ∀ {w F s}, At w F s → ∀ k, F k → k < w.heap.size
  fr : ∀ {w w' F s G}, At w F s → Fr G w w' → (∀ k, F k → ¬ G k) → At w' F s
theorem okTh_cases (s : RS) (t : Int) (h4 : s.n ≤ 4) : (t < 0 ∧ okTh s t = false) ∨ ((s.n : Int) ≤ t ∧ 0 ≤ t ∧ okTh s t = false) ∨ (0 ≤ t ∧ t < s.n ∧ okTh s t = true) := by
  unfold okTh
  by_cases h1 : t < 0
  · left; exact ⟨h1, by simp; omega⟩
  · by_cases h2 : (s.n : Int) ≤ t
    · right; left; exact ⟨h2, by omega, by simp; omega⟩
    · right; right; exact ⟨by omega, by omega, by simp; omega⟩
theorem Ok.sub {s s' : RS} (h : Ok s) (hn : s'.n = s.n) (hh : s'.holds = s.holds) (hi : s'.ins = s.ins) (hit : ∀ x ∈ s'.items, x ∈ s.items) (h0 : s.now ≤ s'.now) : Ok s' :=
  ⟨by rw [hn]; exact h.n1, by rw [hn]; exact h.n4, by rw [hn, hh]; exact h.holds, by rw [hh]; exact h.pos, by rw [hn, hi]; exact h.ins, by rw [hn]; exact fun x hx => h.forI x (hit x hx), fun x hx => h.addr x (hit x hx), Int.le_trans h.now0 h0⟩
theorem Ok.sweep {s : RS} (h : Ok s) (p : Itm → Bool) : Ok (sweepS s p).st :=
  h.sub rfl rfl rfl (fun x hx => (List.mem_filter.1 hx).1) (Int.le_refl _)
theorem Step.mono {F F' : FP} {w w1 w2 : World} (hg : Grow w w1) (hs : Fr F w1 w2) (hf : ∀ k, F' k → F k ∨ w.heap.size ≤ k) : Step F w F' w2 :=
  ⟨Fr.then (hg.mono fun i _ h => h.elim) hs (fun i _ h => h), hf⟩
end Go.Proofs.YtcgcljmnnjalpaaGreat
set_option linter.unusedVariables false
set_option linter.unusedSimpArgs false
namespace Go.Proofs.YtcgcljmnnjalpaaGreat
open Go.RowKit Go.Kx
open Go.ChangeMaps (setBlock)
section
variable {α : Type} {enc : α → List Value} {k : Nat}
theorem flat_len (hk : ∀ x, (enc x).length = k) : ∀ l : List α, (l.flatMap enc).length = l.length * k
  | [] => by simp
  | x :: l => by rw [List.flatMap_cons, List.length_append, hk, flat_len hk l, List.length_cons, Nat.add_mul, Nat.one_mul, Nat.add_comm]
theorem flat_get (hk : ∀ x, (enc x).length = k) : ∀ (l : List α) (j : Nat) (x : α) (o : Nat), l[j]? = some x → o < k → (l.flatMap enc)[j * k + o]? = (enc x)[o]?
  | [], _, _, _, h, _ => by simp at h
  | y :: l, 0, x, o, h, ho => by
    simp at h; subst h
    rw [List.flatMap_cons, Nat.zero_mul, Nat.zero_add, List.getElem?_append_left (by rw [hk]; exact ho)]
  | y :: l, j + 1, x, o, h, ho => by
    have ih := flat_get hk l j x o (by simpa using h) ho
    rw [List.flatMap_cons, List.getElem?_append_right (by rw [hk, Nat.add_mul, Nat.one_mul]; omega), hk, ← ih]
    congr 1
    rw [Nat.add_mul, Nat.one_mul]; omega
/-- The cells of element j of a row. -/
theorem own_at {w : World} {base g n cap : Nat} {e : TypeId} {l : List α} (hk : ∀ x, (enc x).length = k) (h : w.ownsRow base e k (.slice (some ⟨g, 0, none⟩) n cap) n (l.flatMap enc)) {j : Nat} {x : α} (hj : l[j]? = some x) {o : Nat} (ho : o < k) :
    w.cell? ⟨g, j * k + o, none⟩ = (enc x)[o]? := by
  rcases h.2 with ⟨e', _⟩ | ⟨g2, c3, cur, e', hb1, hb2, hb3, hb4, hb5, hb6⟩
  · cases e'
  · cases e'
    have hl := h.1
    rw [flat_len hk] at hl
    have hjl : j < l.length := (List.getElem?_eq_some_iff.1 hj).1
    have hlt : j * k + o < n * k := by
      rw [← hl]
      have : (j + 1) * k ≤ l.length * k := Nat.mul_le_mul_right k hjl
      rw [Nat.add_mul, Nat.one_mul] at this
      omega
    have hg := flat_get hk l j x o hj ho
    rw [← hb6, List.getElem?_take_of_lt hlt, Array.getElem?_toList] at hg
    rw [blk_cell hb2]; exact hg
theorem flat_set (hk : ∀ x, (enc x).length = k) : ∀ (l : List α) (j : Nat) (x x' : α) (o : Nat) (u : Value), l[j]? = some x → o < k → (enc x).set o u = enc x' → (l.flatMap enc).set (j * k + o) u = (l.set j x').flatMap enc
  | [], _, _, _, _, _, h, _, _ => by simp at h
  | y :: l, 0, x, x', o, u, h, ho, he => by
    simp at h; subst h
    rw [List.flatMap_cons, List.set_cons_zero, List.flatMap_cons, Nat.zero_mul, Nat.zero_add, List.set_append_left _ _ (by rw [hk]; exact ho), he]
  | y :: l, j + 1, x, x', o, u, h, ho, he => by
    have ih := flat_set hk l j x x' o u (by simpa using h) ho he
    rw [List.flatMap_cons, List.set_cons_succ, List.flatMap_cons, ← ih, List.set_append_right _ _ (by rw [hk, Nat.add_mul, Nat.one_mul]; omega), hk]
    congr 2
    rw [Nat.add_mul, Nat.one_mul]; omega
/-- A part of a list turned. -/
def mapK (f : α → α) (l : List α) (j : Nat) : List α := (l.take j).map f ++ l.drop j
theorem mapK_len (f : α → α) (l : List α) (j : Nat) : (mapK f l j).length = l.length := by simp [mapK]; omega
theorem mapK_at (f : α → α) {l : List α} {j : Nat} {x : α} (h : l[j]? = some x) : (mapK f l j)[j]? = some x := by
  have hj : j < l.length := (List.getElem?_eq_some_iff.1 h).1
  unfold mapK
  rw [List.getElem?_append_right (by simp; omega)]
  simp
  rw [show j - min j l.length = 0 by omega, Nat.add_zero]
  exact h
theorem mapK_set (f : α → α) {l : List α} {j : Nat} {x : α} (h : l[j]? = some x) : (mapK f l j).set j (f x) = mapK f l (j + 1) := by
  obtain ⟨hj, rfl⟩ := List.getElem?_eq_some_iff.1 h
  unfold mapK
  have hl : ((l.take j).map f).length = j := by simp; omega
  rw [List.drop_eq_getElem_cons hj, List.take_succ_eq_append_getElem hj, List.map_append, List.set_append_right _ _ (by omega), hl, Nat.sub_self, List.set_cons_zero]
  simp
theorem own_n {w : World} {base n : Nat} {e : TypeId} {v : Value} {l : List α} (hk : ∀ x, (enc x).length = k) (hk0 : 0 < k) (h : w.ownsRow base e k v n (l.flatMap enc)) : n = l.length := by
  have hl := h.1
  rw [flat_len hk] at hl
  exact (Nat.eq_of_mul_eq_mul_right hk0 hl).symm
/-- A row of the call's own, by its value: nil, or a block. -/
theorem own_val {w : World} {base n : Nat} {e : TypeId} {sz : Nat} {v : Value} {xs : List Value} (h : w.ownsRow base e sz v n xs) : (v = .slice none 0 0 ∧ n = 0) ∨ ∃ g cap, v = .slice (some ⟨g, 0, none⟩) n cap ∧ n ≤ cap := by
  rcases h.2 with h | ⟨g, cap, cur, rfl, _, _, h, _⟩
  · exact .inl h
  · exact .inr ⟨g, cap, rfl, h⟩
end
theorem own_sl {w : World} {base n : Nat} {e : TypeId} {sz : Nat} {v : Value} {xs : List Value} (h : w.ownsRow base e sz v n xs) : ∃ A m c, v = .slice A m c := by
  rcases own_val h with ⟨rfl, _⟩ | ⟨g, cap, rfl, _⟩
  · exact ⟨_, _, _, rfl⟩
  · exact ⟨_, _, _, rfl⟩
theorem own_ne {W : World} {b1 b2 n1 n2 s1 s2 : Nat} {e1 e2 : TypeId} {u x : Value} {xs ys : List Value} (h1 : W.ownsRow b1 e1 s1 u n1 xs) (h2 : W.ownsRow b2 e2 s2 x n2 ys) (he : e1 ≠ e2) (j : Nat) (hj : x.ownBlock = some j) : ¬ u.ownBlock = some j := by
  intro hu
  obtain ⟨c, hc⟩ := owns_blk h1 hu
  obtain ⟨d, hd⟩ := owns_blk h2 hj
  rw [hc] at hd
  simp at hd
  exact he hd.2
def IntsAt (w : World) (A : Option Addr) (l : List Int) : Prop := l = [] ∨ ∃ b off, A = some ⟨b, off, none⟩ ∧ ∀ j x, l[j]? = some x → w.cell? ⟨b, off + j, none⟩ = some (.int .i64 x)
theorem IntsAt.at_ {w : World} {A : Option Addr} {l : List Int} (h : IntsAt w A l) {k : Nat} (hk : k < l.length) : ∃ b off, A = some ⟨b, off, none⟩ ∧ w.cell? ⟨b, off + k, none⟩ = some (.int .i64 l[k]) := by
  obtain ⟨b, off, h1, h2⟩ := h.resolve_left (by rintro rfl; simp at hk)
  exact ⟨b, off, h1, h2 k _ (by simp [hk])⟩
theorem IntsAt.grow {w w' : World} {A : Option Addr} {l : List Int} (h : IntsAt w A l) (hg : Grow w w') : IntsAt w' A l :=
  h.imp (fun e => e) fun ⟨b, off, h1, h2⟩ => ⟨b, off, h1, fun j x hx => hg.cell (h2 j x hx)⟩
theorem flat_ints : ∀ l : List Int, (l.flatMap fun x => [Value.int .i64 x]) = l.map (Value.int .i64)
  | [] => rfl
  | a :: l => by rw [List.flatMap_cons, flat_ints l]; rfl
theorem ints_of_own {w : World} {base : Nat} {v : Value} {n : Nat} {l : List Int} (h : w.ownsRow base 3 1 v n (l.map (Value.int .i64))) : ∃ A cap, v = .slice A l.length cap ∧ IntsAt w A l ∧ (A = none → cap = 0) ∧ l.length ≤ cap := by
  have hl : l.length = n := by have := h.1; simpa using this
  rcases own_val h with ⟨rfl, h0⟩ | ⟨g, cap, rfl, hc⟩
  · have : l = [] := List.eq_nil_of_length_eq_zero (by omega)
    subst this
    exact ⟨none, 0, rfl, .inl rfl, fun _ => rfl, by simp⟩
  · refine ⟨some ⟨g, 0, none⟩, cap, by rw [hl], .inr ⟨g, 0, rfl, fun j x hx => ?_⟩, fun e => (by cases e), by omega⟩
    have h' : w.ownsRow base 3 1 (.slice (some ⟨g, 0, none⟩) n cap) n (l.flatMap fun x => [Value.int .i64 x]) := by
      rw [flat_ints]; exact h
    have := own_at (enc := fun x => [Value.int .i64 x]) (k := 1) (fun _ => rfl) h' hx (o := 0) (by omega)
    rw [Nat.mul_one, Nat.add_zero] at this
    rw [Nat.zero_add, this]; rfl
/-- The first place of a number, or -1. -/
def idxI (x : Int) : List Int → Int
  | [] => -1
  | y :: l => if y = x then 0 else if idxI x l < 0 then -1 else idxI x l + 1
theorem idxI_none {x : Int} {l : List Int} (h : ∀ y ∈ l, y ≠ x) : idxI x l = -1 := by
  induction l with
  | nil => rfl
  | cons y l ih =>
    unfold idxI
    rw [if_neg (h y (by simp)), ih fun z hz => h z (by simp [hz])]
    rfl
theorem idxI_stop {x : Int} {l : List Int} {k : Nat} (hk : k < l.length) (h : ∀ y ∈ l.take k, y ≠ x) (hx : l[k] = x) : idxI x l = k := by
  induction l generalizing k with
  | nil => simp at hk
  | cons y l ih =>
    cases k with
    | zero => simp at hx; simp [idxI, hx]
    | succ k =>
      have h0 : y ≠ x := h y (by simp)
      have := ih (k := k) (by simpa using hk) (fun z hz => h z (by simp [hz])) (by simpa using hx)
      unfold idxI
      rw [if_neg h0, this, if_neg (by omega)]
      simp
theorem idxI_mem (x : Int) (l : List Int) : 0 ≤ idxI x l ↔ x ∈ l := by
  induction l with
  | nil => simp [idxI]
  | cons y l ih =>
    unfold idxI
    by_cases h : y = x
    · simp [h]
    · rw [if_neg h, List.mem_cons, ← ih]
      have hx : x ≠ y := fun e => h e.symm
      by_cases h2 : idxI x l < 0
      · rw [if_pos h2]; exact ⟨fun h => by omega, fun h => h.elim (fun e => absurd e hx) (fun h => by omega)⟩
      · rw [if_neg h2]; exact ⟨fun _ => .inr (by omega), fun _ => by omega⟩
set_option maxHeartbeats 1000000 in
theorem indexI_any {w : World} {A : Option Addr} {cap : Nat} {l : List Int} (x : Int) (h : IntsAt w A l) (hl : l.length ≤ 1000000) :
    Calls Tryz.prog 135 #[.slice A l.length cap, .int .i64 x] w fun e w' => e = .returned (.int .i64 (idxI x l)) ∧ w = w' := by
  refine cph fun R HR => ?_
  have H := Lib.hid h
  clear h
  go_enter Tryz.func135, Tryz.ntmps135
  go_wp2_with fail
  go_loop [8] (fun i => ∃ k : Nat, k ≤ l.length ∧ i = .int .i64 k ∧ Hid (∀ y ∈ l.take k, y ≠ x)) (fun i => l.length - (intOf i).toNat)
  case atStart => exact ⟨0, Nat.zero_le _, rfl, fun x hx => by simp at hx⟩
  case round =>
    obtain ⟨k, hk, rfl, HK⟩ := hrel
    by_cases hlt : k < l.length
    · obtain ⟨b, off, rfl, hc⟩ := H.out.at_ hlt
      have hki : (k : Int) < (l.length : Int) := by omega
      obtain ⟨y, hy⟩ : ∃ y, y = l[k] := ⟨_, rfl⟩
      rw [← hy] at hc
      have HY := Lib.hid hy
      clear hy
      by_cases e : y = x
      · subst e
        have e := idxI_stop hlt HK.out HY.out.symm
        rw [e] at HR
        clear e
        go_wp2_with fail
        exact HR.out _ _ ⟨rfl, rfl⟩
      · have hne : (x == y) = false := beq_eq_false_iff_ne.2 (fun h => e h.symm)
        have HE := Lib.hid e
        clear e
        go_wp2_with fail
        go_round
        case rel => exact ⟨k + 1, by omega, by go_num, fun z hz => by
          rw [List.take_succ_eq_append_getElem hlt, List.mem_append, List.mem_singleton] at hz
          rcases hz with hz | rfl
          · exact HK.out z hz
          · rw [← HY.out]; exact HE.out⟩
        case measure => simp [intOf]; omega
    · have hki : ¬ (k : Int) < (l.length : Int) := by omega
      have e := idxI_none (x := x) (l := l) fun y hy => HK.out y (by rw [List.take_of_length_le (by omega)]; exact hy)
      rw [e] at HR
      clear e
      go_wp2_with fail
      exact HR.out _ _ ⟨rfl, rfl⟩
theorem containsI_any {w : World} {A : Option Addr} {cap : Nat} {l : List Int} (x : Int) (h : IntsAt w A l) (hl : l.length ≤ 1000000) :
    Calls Tryz.prog 106 #[.slice A l.length cap, .int .i64 x] w fun e w' => e = .returned (.bool (decide (x ∈ l))) ∧ w = w' := by
  refine cph fun R HR => ?_
  have HI := Lib.hid (indexI_any (cap := cap) x h hl)
  have hm := idxI_mem x l
  clear h
  generalize idxI x l = i at HI hm
  by_cases hx : x ∈ l
  · have h0 : 0 ≤ i := hm.2 hx
    rw [decide_eq_true hx] at HR
    clear hm hx
    go_enter Tryz.func106, Tryz.ntmps106
    go_wp2_with (go_at_call 135; refine HI.out.mono ?_; rintro e w' ⟨rfl, rfl⟩)
    exact HR.out _ _ ⟨rfl, rfl⟩
  · have h0 : ¬ 0 ≤ i := fun h => hx (hm.1 h)
    rw [decide_eq_false hx] at HR
    clear hm hx
    go_enter Tryz.func106, Tryz.ntmps106
    go_wp2_with (go_at_call 135; refine HI.out.mono ?_; rintro e w' ⟨rfl, rfl⟩)
    exact HR.out _ _ ⟨by simp [h0], rfl⟩
end Go.Proofs.YtcgcljmnnjalpaaGreat
