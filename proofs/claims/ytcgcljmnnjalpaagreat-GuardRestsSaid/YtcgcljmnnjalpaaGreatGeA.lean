/- The managers of memory, plainly: one state for all kinds, as the document's answer has it; and what a manager's call leaves in memory. -/
import Derived.Test.YtcgcljmnnjalpaaGreatKxE
import Derived.Test.YtcgcljmnnjalpaaGreatGdC
set_option linter.unusedVariables false
set_option linter.unusedSimpArgs false
namespace Go.Proofs.YtcgcljmnnjalpaaGreat
open Go.RowKit Go.Kx
structure Itm where
  addr : Int
  thr : Int
  at_ : Int
  birth : Int
  for_ : Nat → Bool
structure RS where
  kind : Int
  n : Nat
  now : Int
  holds : Nat → Nat → Int
  ins : Nat → Bool
  lo : Nat → Int
  hi : Nat → Int
  items : List Itm
  born : Int → Int
/-- A state, what is given back, the error. -/
structure RO where
  st : RS
  back : List Int
  err : Int
def newS (k : Int) (n : Nat) : RS := ⟨k, n, 0, fun _ _ => 0, fun _ => false, fun _ => 0, fun _ => 0, [], fun _ => 0⟩
def okTh (s : RS) (t : Int) : Bool := decide (0 ≤ t) && decide (t < s.n)
def upd1 {α : Type} (f : Nat → α) (k : Nat) (v : α) : Nat → α := fun i => if i = k then v else f i
def heldB (s : RS) (a : Int) : Bool := (List.range 4).any fun t => (List.range 3).any fun k => s.holds t k == a
def spanB (s : RS) (x : Itm) (t : Nat) : Bool := s.ins t && ((decide (x.birth ≤ s.hi t) && decide (s.lo t ≤ x.at_)) || (List.range 3).any fun k => s.holds t k == x.addr)
def freeB (s : RS) (x : Itm) : Bool :=
  if s.kind = 1 ∨ s.kind = 4 then !(heldB s x.addr)
  else if s.kind = 2 then decide (x.at_ ≤ s.now - 2)
  else if s.kind = 3 then !((List.range 4).any (spanB s x))
  else if s.kind = 5 then !((List.range 4).any x.for_)
  else false
def sweepS (s : RS) (p : Itm → Bool) : RO :=
  let b := (s.items.filter fun x => p x && freeB s x).map (·.addr)
  ⟨{ s with items := s.items.filter (fun x => !(p x && freeB s x)), born := fun a => if a ∈ b then 0 else s.born a }, b, 0⟩
def behindB (s : RS) : Bool := (List.range 4).any fun t => s.ins t && !(s.lo t == s.now)
def tryS (s : RS) : RO := if behindB s then ⟨s, [], 0⟩ else sweepS { s with now := s.now + 1 } (fun _ => true)
def inS (s : RS) (t : Int) : RO :=
  if okTh s t then ⟨{ s with holds := if s.kind = 3 then upd1 s.holds t.toNat (fun _ => 0) else s.holds, ins := upd1 s.ins t.toNat true, lo := upd1 s.lo t.toNat s.now, hi := upd1 s.hi t.toNat s.now }, [], 0⟩ else ⟨s, [], 1⟩
def outS0 (s : RS) (t : Nat) : RS := { s with ins := upd1 s.ins t false, holds := upd1 s.holds t (fun _ => 0), items := s.items.map fun x => { x with for_ := upd1 x.for_ t false } }
def outS (s : RS) (t : Int) : RO :=
  if okTh s t then (if s.kind = 3 ∨ s.kind = 4 ∨ s.kind = 5 then sweepS (outS0 s t.toNat) (fun _ => true) else ⟨outS0 s t.toNat, [], 0⟩) else ⟨s, [], 1⟩
def holdOk (h a : Int) : Bool := decide (0 ≤ h) && decide (h < 3) && decide (0 ≤ a)
def holdS0 (s : RS) (t h : Nat) (a : Int) : RS := { s with holds := upd1 s.holds t (upd1 (s.holds t) h a), hi := if s.ins t then upd1 s.hi t s.now else s.hi }
def holdS (s : RS) (t h a : Int) : RO :=
  if okTh s t && holdOk h a then
    (if s.kind = 3 ∧ s.ins t.toNat = false then ⟨s, [], 0⟩
    else if s.kind = 4 then sweepS (holdS0 s t.toNat h.toNat a) (fun _ => true)
    else ⟨holdS0 s t.toNat h.toNat a, [], 0⟩)
  else ⟨s, [], 1⟩
def bornS (s : RS) (a : Int) : RO :=
  if 0 < a then (if s.kind = 3 then ⟨{ s with now := s.now + 1, born := fun b => if b = a then s.now + 1 else s.born b }, [], 0⟩ else ⟨s, [], 0⟩) else ⟨s, [], 1⟩
def waitsB (s : RS) (a : Int) : Bool := s.items.any fun x => x.addr == a
def mkItm (s : RS) (t a : Int) : Itm := ⟨a, t, s.now, s.born a, if s.kind = 5 then s.ins else fun _ => false⟩
def retS0 (s : RS) (t a : Int) : RS := { s with items := s.items ++ [mkItm s t a] }
def cntS (s : RS) (t : Int) : Nat := s.items.countP fun x => x.thr == t
def retS (s : RS) (t a : Int) : RO :=
  if okTh s t && decide (0 < a) then
    (if waitsB s a then ⟨s, [], 6⟩
    else if s.kind = 1 then (if 3 * s.n < cntS (retS0 s t a) t then sweepS (retS0 s t a) (fun x => x.thr == t) else ⟨retS0 s t a, [], 0⟩)
    else if s.kind = 2 then tryS (retS0 s t a)
    else sweepS (retS0 s t a) (fun _ => true))
  else ⟨s, [], 1⟩
/-- One after the other. -/
def seqS (s : RS) : List (RS → RO) → RO
  | [] => ⟨s, [], 0⟩
  | f :: l => ⟨(seqS (f s).st l).st, (f s).back ++ (seqS (f s).st l).back, 0⟩
def restS (s : RS) : RO :=
  if s.kind = 1 then seqS s ((List.range s.n).map fun (t : Nat) (s : RS) => sweepS s (fun x => x.thr == (t : Int)))
  else if s.kind = 2 then seqS s [tryS, tryS, tryS]
  else sweepS s (fun _ => true)
/-- What is always so. -/
structure Ok (s : RS) : Prop where
  n1 : 1 ≤ s.n
  n4 : s.n ≤ 4
  holds : ∀ t k, s.n ≤ t ∨ 3 ≤ k → s.holds t k = 0
  pos : ∀ t k, 0 ≤ s.holds t k
  ins : ∀ t, s.n ≤ t → s.ins t = false
  forI : ∀ x ∈ s.items, ∀ t, s.n ≤ t → x.for_ t = false
  addr : ∀ x ∈ s.items, 0 < x.addr
  now0 : 0 ≤ s.now
/-- Small enough for what comes. -/
def Small (s : RS) : Prop := s.items.length ≤ 100000 ∧ s.now ≤ 1000000
/-- The footprint of a manager. -/
abbrev FP := Nat → Prop
/-- What a call leaves: ints of its own, the manager in its new state. -/
def OpP (At : World → FP → RS → Prop) (w : World) (F : FP) (r : RO) (e : Ending) (w' : World) : Prop :=
  ∃ v F', e = .returned (.tuple #[v, .int .i64 r.err]) ∧ w'.ownsRow w.heap.size 3 1 v r.back.length (r.back.map (Value.int .i64)) ∧ At w' F' r.st ∧ Step F w F' w' ∧ ∀ k, v.ownBlock = some k → ¬ F' k
/-- .. ints alone. -/
def OpL (At : World → FP → RS → Prop) (w : World) (F : FP) (r : RO) (e : Ending) (w' : World) : Prop :=
  ∃ v F', e = .returned v ∧ w'.ownsRow w.heap.size 3 1 v r.back.length (r.back.map (Value.int .i64)) ∧ At w' F' r.st ∧ Step F w F' w' ∧ ∀ k, v.ownBlock = some k → ¬ F' k
/-- .. the error alone. -/
def OpE (At : World → FP → RS → Prop) (w : World) (F : FP) (r : RO) (e : Ending) (w' : World) : Prop :=
  ∃ F', e = .returned (.int .i64 r.err) ∧ At w' F' r.st ∧ Step F w F' w'
theorem OpP.none {At : World → FP → RS → Prop} {w w' : World} {F F' : FP} {s : RS} {z : Int} (h : At w' F' s) (hs : Step F w F' w') : OpP At w F ⟨s, [], z⟩ (.returned (.tuple #[.slice none 0 0, .int .i64 z])) w' :=
  ⟨_, F', rfl, World.ownsRow_nil _ _ _ _, h, hs, fun k hk => by simp [Value.ownBlock] at hk⟩
/-- A predicate on managers that lives in its footprint. -/
structure Local (At : World → FP → RS → Prop) : Prop where
  lt : ∀ {w F s}, At w F s → ∀ k, F k → k < w.heap.size
  fr : ∀ {w w' F s G}, At w F s → Fr G w w' → (∀ k, F k → ¬ G k) → At w' F s
theorem okTh_cases (s : RS) (t : Int) (h4 : s.n ≤ 4) : (t < 0 ∧ okTh s t = false) ∨ ((s.n : Int) ≤ t ∧ 0 ≤ t ∧ okTh s t = false) ∨ (0 ≤ t ∧ t < s.n ∧ okTh s t = true) := by
  unfold okTh
  by_cases h1 : t < 0
  · left; exact ⟨h1, by simp; omega⟩
  · by_cases h2 : (s.n : Int) ≤ t
    · right; left; exact ⟨h2, by omega, by simp; omega⟩
    · right; right; exact ⟨by omega, by omega, by simp; omega⟩
theorem Ok.sub {s s' : RS} (h : Ok s) (hn : s'.n = s.n) (hh : s'.holds = s.holds) (hi : s'.ins = s.ins) (hit : ∀ x ∈ s'.items, x ∈ s.items) (h0 : s.now ≤ s'.now) : Ok s' :=
  ⟨by rw [hn]; exact h.n1, by rw [hn]; exact h.n4, by rw [hn, hh]; exact h.holds, by rw [hh]; exact h.pos, by rw [hn, hi]; exact h.ins, by rw [hn]; exact fun x hx => h.forI x (hit x hx), fun x hx => h.addr x (hit x hx), Int.le_trans h.now0 h0⟩
theorem Ok.sweep {s : RS} (h : Ok s) (p : Itm → Bool) : Ok (sweepS s p).st :=
  h.sub rfl rfl rfl (fun x hx => (List.mem_filter.1 hx).1) (Int.le_refl _)
theorem Step.mono {F F' : FP} {w w1 w2 : World} (hg : Grow w w1) (hs : Fr F w1 w2) (hf : ∀ k, F' k → F k ∨ w.heap.size ≤ k) : Step F w F' w2 :=
  ⟨Fr.then (hg.mono fun i _ h => h.elim) hs (fun i _ h => h), hf⟩
end Go.Proofs.YtcgcljmnnjalpaaGreat
