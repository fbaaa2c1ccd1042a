/- The heap of the simulated machine: what its functions do, over plain lists; how it lies in memory. -/
import Derived.Test.YthkcihkeklojcaaProg
import Derived.Test.YthkcihkeklojcaaKxD
import Derived.Deep.DeepCutAuto
import Derived.Deep.CutBlock
import Derived.Deep.QuietTactic
import Derived.BigQuiet
set_option linter.unusedVariables false
set_option linter.unusedSimpArgs false
namespace Go.Proofs.Ythkcihkeklojcaa
open Go.RowKit Go.Kx
open Go.ChangeMaps (setBlock)
/-- A heap. -/
structure HS where
  words : List Int
  vers : List Int
  cells : Int
  nodes : List (Int × Int)
  free : List (Int × Int)
  top : Int
def rnd (s : Int) : Int := s + s % 2
def nget (l : List (Int × Int)) (k : Int) : Option Int := (l.find? fun p => p.1 == k).map Prod.snd
def nput (l : List (Int × Int)) (k s : Int) : List (Int × Int) := if (nget l k).isSome then l.map fun p => if p.1 == k then (p.1, s) else p else l ++ [(k, s)]
def ndel (l : List (Int × Int)) (k : Int) : List (Int × Int) := l.filter fun p => !(p.1 == k)
def kvOf (l : List (Int × Int)) : List (Int × Value) := l.map fun p => (p.1, .int .i64 p.2)
theorem mget_kvOf (l : List (Int × Int)) (k : Int) : mget (kvOf l) k = (nget l k).map (.int .i64) := by
  induction l with
  | nil => rfl
  | cons a l ih =>
    unfold mget nget kvOf at *
    by_cases h : a.1 == k
    · simp [h]
    · simp [h] at ih ⊢
      exact ih
theorem mput_kvOf (l : List (Int × Int)) (k s : Int) : mput (kvOf l) k (.int .i64 s) = kvOf (nput l k s) := by
  unfold mput nput
  rw [mget_kvOf, Option.isSome_map]
  split
  · simp only [kvOf, List.map_map]
    refine List.map_congr_left fun p _ => ?_
    simp only [Function.comp]
    split <;> rfl
  · simp [kvOf]
theorem mdel_kvOf (l : List (Int × Int)) (k : Int) : mdel (kvOf l) k = kvOf (ndel l k) := by
  unfold mdel ndel kvOf
  rw [List.filter_map]
  rfl
def nodeScan (l : List (Int × Int)) (cell : Int) : Nat → Int → Int × Bool
  | 0, _ => (0, false)
  | f + 1, at_ => if 100 ≤ at_ ∧ cell - 19 < at_ then (match nget l at_ with
    | some s => (at_, decide (cell < at_ + rnd s))
    | none => nodeScan l cell f (at_ - 2)) else (0, false)
def nodeOf (l : List (Int × Int)) (cell : Int) : Int × Bool := nodeScan l cell 11 (cell - cell.tmod 2)
def HS.alive (s : HS) (cell : Int) : Bool := decide (0 ≤ cell) && (decide (cell < s.cells) || (nodeOf s.nodes cell).2)
def HS.asked (s : HS) (cell : Int) : Int := if s.alive cell then 0 else 3
/-- What holds of each heap that New made. -/
structure Good (s : HS) : Prop where
  wl : s.words.length = 1100
  vl : s.vers.length = 1100
  c0 : 0 ≤ s.cells
  c1 : s.cells ≤ 16
  t0 : 100 ≤ s.top
  t1 : s.top ≤ 1100
  nodes : ∀ p ∈ s.nodes, 100 ≤ p.1 ∧ p.1 + rnd p.2 ≤ 1100 ∧ 1 ≤ p.2 ∧ p.2 ≤ 18
  free : ∀ p ∈ s.free, 100 ≤ p.1 ∧ p.1 + p.2 ≤ 1100 ∧ 2 ≤ p.2 ∧ p.2 ≤ 18
theorem nget_mem {l : List (Int × Int)} {k s : Int} (h : nget l k = some s) : (k, s) ∈ l := by
  unfold nget at h
  obtain ⟨p, hp, rfl⟩ := Option.map_eq_some_iff.1 h
  have := List.find?_some hp
  have h1 : p.1 = k := by simpa using this
  rw [← h1]
  exact List.mem_of_find?_eq_some hp
theorem nodeScan_true {l : List (Int × Int)} {cell : Int} : ∀ f a, (nodeScan l cell f a).2 = true → a ≤ cell → ∃ s, (nodeScan l cell f a).1 ≤ cell ∧ nget l (nodeScan l cell f a).1 = some s ∧ cell < (nodeScan l cell f a).1 + rnd s := by
  intro f
  induction f with
  | zero => intro a h; simp [nodeScan] at h
  | succ f ih =>
    intro a h hle
    unfold nodeScan at h ⊢
    split at h
    · next hc =>
      rw [if_pos hc]
      split at h
      · next s hs =>
        rw [hs]
        exact ⟨s, hle, by first | rfl | exact hs, by simpa using h⟩
      · next hs =>
        exact ih _ h (by omega)
    · cases h
theorem nodeOf_true {l : List (Int × Int)} {cell : Int} (h : (nodeOf l cell).2 = true) (h0 : 0 ≤ cell) : ∃ s, (nodeOf l cell).1 ≤ cell ∧ nget l (nodeOf l cell).1 = some s ∧ cell < (nodeOf l cell).1 + rnd s :=
  nodeScan_true 11 _ h (by rw [Int.tmod_eq_emod_of_nonneg h0]; omega)
theorem alive_lt {s : HS} (hg : Good s) {cell : Int} (h : s.alive cell = true) : 0 ≤ cell ∧ cell < 1100 := by
  simp only [HS.alive, Bool.and_eq_true, Bool.or_eq_true, decide_eq_true_eq] at h
  refine ⟨h.1, ?_⟩
  rcases h.2 with h2 | h2
  · have := hg.c1; omega
  · obtain ⟨z, _, hz, hlt⟩ := nodeOf_true h2 h.1
    have := (hg.nodes _ (nget_mem hz)).2.1
    dsimp only at this
    omega
/-- Where a heap lies. -/
structure HB where
  b : Nat
  W : Nat
  V : Nat
  M : Nat
  fv : Value
def ints (l : List Int) : Array Value := (l.map (Value.int .i64)).toArray
def placeCells (l : List (Int × Int)) : List Value := l.flatMap fun p => [.int .i64 p.1, .int .i64 p.2]
def HB.set (q : HB) (i : Nat) : Prop := i = q.b ∨ i = q.W ∨ i = q.V ∨ i = q.M ∨ q.fv.ownBlock = some i
def hcells (q : HB) (s : HS) : Array Value := #[.slice (some ⟨q.W, 0, none⟩) 1100 1100, .slice (some ⟨q.V, 0, none⟩) 1100 1100, .int .i64 s.cells, .map (some q.M), q.fv, .int .i64 s.top]
structure HeapAt (w : World) (base : Nat) (q : HB) (s : HS) : Prop where
  blk : w.heap[q.b]? = some (.cells (hcells q s) 46 (0, 0))
  words : w.heap[q.W]? = some (.cells (ints s.words) 3 (0, 0))
  vers : w.heap[q.V]? = some (.cells (ints s.vers) 3 (0, 0))
  map : IMap w q.M (kvOf s.nodes)
  free : w.ownsRow base 55 2 q.fv s.free.length (placeCells s.free)
  ne : q.W ≠ q.V
  lo : base ≤ q.b ∧ base ≤ q.W ∧ base ≤ q.V ∧ base ≤ q.M
  good : Good s
theorem HeapAt.fr {w w' : World} {base : Nat} {q : HB} {s : HS} (h : HeapAt w base q s) {S : Nat → Prop} (hf : Fr S w w') (hn : ∀ i, q.set i → ¬ S i) : HeapAt w' base q s :=
  ⟨hf.at_ h.blk (hn _ (.inl rfl)), hf.at_ h.words (hn _ (.inr (.inl rfl))), hf.at_ h.vers (hn _ (.inr (.inr (.inl rfl)))), h.map.fr hf (hn _ (.inr (.inr (.inr (.inl rfl))))), owns_fr h.free hf (fun k hk => hn _ (.inr (.inr (.inr (.inr hk))))), h.ne, h.lo, h.good⟩
theorem HeapAt.grow {w w' : World} {base : Nat} {q : HB} {s : HS} (h : HeapAt w base q s) (hg : Grow w w') : HeapAt w' base q s := h.fr hg (fun _ _ h => h)
theorem ints_get {l : List Int} {i : Nat} (h : i < l.length) : (ints l)[i]? = some (.int .i64 l[i]) := by simp [ints, h]
theorem HeapAt.cell {w : World} {base : Nat} {q : HB} {s : HS} (h : HeapAt w base q s) :
    w.cell? ⟨q.b, 0, none⟩ = some (.slice (some ⟨q.W, 0, none⟩) 1100 1100) ∧ w.cell? ⟨q.b, 1, none⟩ = some (.slice (some ⟨q.V, 0, none⟩) 1100 1100) ∧ w.cell? ⟨q.b, 2, none⟩ = some (.int .i64 s.cells) ∧
    w.cell? ⟨q.b, 3, none⟩ = some (.map (some q.M)) ∧ w.cell? ⟨q.b, 4, none⟩ = some q.fv ∧ w.cell? ⟨q.b, 5, none⟩ = some (.int .i64 s.top) := by
  refine ⟨?_, ?_, ?_, ?_, ?_, ?_⟩ <;> rw [blk_cell h.blk] <;> rfl
def HS.at_ (l : List Int) (i : Int) : Int := (l[i.toNat]?).getD 0
theorem HeapAt.word {w : World} {base : Nat} {q : HB} {s : HS} (h : HeapAt w base q s) {i : Nat} (hi : i < 1100) : w.cell? ⟨q.W, i, none⟩ = some (.int .i64 (HS.at_ s.words i)) := by
  rw [blk_cell h.words, ints_get (by rw [h.good.wl]; exact hi)]
  simp [HS.at_, h.good.wl, hi]
theorem HeapAt.ver {w : World} {base : Nat} {q : HB} {s : HS} (h : HeapAt w base q s) {i : Nat} (hi : i < 1100) : w.cell? ⟨q.V, i, none⟩ = some (.int .i64 (HS.at_ s.vers i)) := by
  rw [blk_cell h.vers, ints_get (by rw [h.good.vl]; exact hi)]
  simp [HS.at_, h.good.vl, hi]
/-- The heap's blocks are five, and no two are one. -/
theorem HeapAt.apart {w : World} {base : Nat} {q : HB} {s : HS} (h : HeapAt w base q s) : q.b ≠ q.W ∧ q.b ≠ q.V ∧ q.M ≠ q.b ∧ q.M ≠ q.W ∧ q.M ≠ q.V ∧ (∀ k, q.fv.ownBlock = some k → k ≠ q.b ∧ k ≠ q.W ∧ k ≠ q.V ∧ k ≠ q.M) := by
  refine ⟨fun e => ?_, fun e => ?_, h.map.ne h.blk, h.map.ne h.words, h.map.ne h.vers, fun k hk => ?_⟩
  · have h1 := h.blk; rw [e, h.words] at h1; simp at h1
  · have h1 := h.blk; rw [e, h.vers] at h1; simp at h1
  · obtain ⟨c, hc⟩ := owns_blk h.free hk
    refine ⟨fun e => ?_, fun e => ?_, fun e => ?_, fun e => (h.map.ne hc) e.symm⟩
    · rw [e, h.blk] at hc; simp at hc
    · rw [e, h.words] at hc; simp at hc
    · rw [e, h.vers] at hc; simp at hc
end Go.Proofs.Ythkcihkeklojcaa
