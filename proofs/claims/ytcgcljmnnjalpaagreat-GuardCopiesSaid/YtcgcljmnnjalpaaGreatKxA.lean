/- Block facts, frames over a set of blocks, and maps whose keys are ints: program-independent lemmas. -/
import Derived.WalkKit
import Derived.WalkLawsBesides
import Derived.WalkSpells
import Derived.KernelRfl
import Derived.Maps.RangeRun
import Derived.Lib.Hide
set_option linter.unusedVariables false
set_option linter.unusedSimpArgs false
namespace Go.Kx
open Go.RowKit Go.MapKept
open Go.ChangeMaps (setBlock)

/-! ### contracts in passing style -/
theorem cps {P : Program} {f : FuncId} {args : Array Value} {w : World} {Post : Ending → World → Prop}
    (h : ∀ R : Ending → World → Prop, (∀ e w', Post e w' → R e w') → Calls P f args w R) : Calls P f args w Post :=
  h Post fun _ _ h => h

/-- The same, the post kept from the walk: at the end 'exact HR.out _ _ ⟨..⟩'. -/
theorem cph {P : Program} {f : FuncId} {args : Array Value} {w : World} {Post : Ending → World → Prop}
    (h : ∀ R : Ending → World → Prop, Hid (∀ e w', Post e w' → R e w') → Calls P f args w R) : Calls P f args w Post :=
  h Post (show Hid _ from fun _ _ h => h)

/-! ### blocks -/
theorem blk_lt {w : World} {b : Nat} {o : Obj} (h : w.heap[b]? = some o) : b < w.heap.size := by
  rcases Nat.lt_or_ge b w.heap.size with h' | h'
  · exact h'
  · simp [Array.getElem?_eq_none h'] at h
theorem blk_cell {w : World} {b : Nat} {c : Array Value} {t : TypeId} {fz : Nat × Nat} (h : w.heap[b]? = some (.cells c t fz)) (o : Nat) : w.cell? ⟨b, o, none⟩ = c[o]? := by
  simp [World.cell?, h]
theorem blk_free {w : World} {b : Nat} {c : Array Value} {t : TypeId} (h : w.heap[b]? = some (.cells c t (0, 0))) (o : Nat) : w.frozen? ⟨b, o, none⟩ = false := by
  simp [World.frozen?, h]
theorem blk_set {w : World} {b : Nat} {c : Array Value} {t : TypeId} {fz : Nat × Nat} (h : w.heap[b]? = some (.cells c t fz)) (o : Nat) (v : Value) :
    (w.setCell ⟨b, o, none⟩ v).heap[b]? = some (.cells (c.setIfInBounds o v) t fz) := by
  simp [World.setCell, Array.getElem?_modify, h]
theorem blk_set_other {w : World} {a : Addr} {k : Nat} (h : k ≠ a.block) (v : Value) : (w.setCell a v).heap[k]? = w.heap[k]? := by
  simp only [World.setCell, Array.getElem?_modify]
  rw [if_neg (by omega)]
theorem size_set (w : World) (a : Addr) (v : Value) : (w.setCell a v).heap.size = w.heap.size := by simp [World.setCell]
theorem blk_alloc {w : World} (o : Obj) {k : Nat} (h : k < w.heap.size) : (w.alloc o).heap[k]? = w.heap[k]? := by
  show (w.heap.push o)[k]? = _
  rw [Array.getElem?_push, if_neg (by omega)]
theorem blk_alloc' {w : World} (o : Obj) {k : Nat} {x : Obj} (h : w.heap[k]? = some x) : (w.alloc o).heap[k]? = some x := by
  rw [blk_alloc o (blk_lt h)]; exact h
theorem blk_new (w : World) (o : Obj) : (w.alloc o).heap[w.heap.size]? = some o := by
  show (w.heap.push o)[w.heap.size]? = _
  simp
theorem size_alloc (w : World) (o : Obj) : (w.alloc o).heap.size = w.heap.size + 1 := by
  show (w.heap.push o).size = _
  simp
theorem blk_block {w : World} {b : Nat} {o o' : Obj} (h : w.heap[b]? = some o) : (setBlock w b o').heap[b]? = some o' := by
  have hlt := blk_lt h
  simp [setBlock, hlt]
theorem blk_block_other {w : World} {b k : Nat} {o' : Obj} (h : k ≠ b) : (setBlock w b o').heap[k]? = w.heap[k]? := by
  simp [setBlock, Array.getElem?_setIfInBounds, Ne.symm h]
theorem size_block (w : World) (b : Nat) (o : Obj) : (setBlock w b o).heap.size = w.heap.size := by simp [setBlock]

/-! ### frames: but for the blocks of S, and new ones, the world is as it was -/
structure Fr (S : Nat → Prop) (w w' : World) : Prop where
  os : w'.os = w.os
  tape : w'.tape = w.tape
  output : w'.output = w.output
  size : w.heap.size ≤ w'.heap.size
  blk : ∀ k, k < w.heap.size → ¬ S k → w'.heap[k]? = w.heap[k]?
theorem Fr.refl (S : Nat → Prop) (w : World) : Fr S w w := ⟨rfl, rfl, rfl, Nat.le_refl _, fun _ _ _ => rfl⟩
theorem Fr.trans {S : Nat → Prop} {a b c : World} (h : Fr S a b) (k : Fr S b c) : Fr S a c :=
  ⟨k.os.trans h.os, k.tape.trans h.tape, k.output.trans h.output, Nat.le_trans h.size k.size, fun i hi hs => (k.blk i (Nat.lt_of_lt_of_le hi h.size) hs).trans (h.blk i hi hs)⟩
/-- The second step may touch what is new since the first world. -/
theorem Fr.then {S S' : Nat → Prop} {a b c : World} (h : Fr S a b) (k : Fr S' b c) (hs : ∀ i, i < a.heap.size → S' i → S i) : Fr S a c :=
  ⟨k.os.trans h.os, k.tape.trans h.tape, k.output.trans h.output, Nat.le_trans h.size k.size, fun i hi hn => (k.blk i (Nat.lt_of_lt_of_le hi h.size) (fun q => hn (hs i hi q))).trans (h.blk i hi hn)⟩
theorem Fr.mono {S S' : Nat → Prop} {a b : World} (h : Fr S a b) (hs : ∀ i, i < a.heap.size → S i → S' i) : Fr S' a b :=
  ⟨h.os, h.tape, h.output, h.size, fun i hi hn => h.blk i hi (fun q => hn (hs i hi q))⟩
theorem Fr.drew {S : Nat → Prop} {a b : World} (h : Fr S a b) : Fr S a b.drew := ⟨h.os, h.tape, h.output, h.size, h.blk⟩
theorem Fr.drewN {S : Nat → Prop} {a b : World} (h : Fr S a b) (n : Nat) : Fr S a (b.drewN n) := ⟨h.os, h.tape, h.output, h.size, h.blk⟩
theorem Fr.alloc {S : Nat → Prop} {a b : World} (h : Fr S a b) (o : Obj) : Fr S a (b.alloc o) :=
  h.trans ⟨rfl, rfl, rfl, by rw [size_alloc]; omega, fun k hk _ => blk_alloc o hk⟩
theorem Fr.setCell {S : Nat → Prop} {a b : World} (h : Fr S a b) (p : Addr) (v : Value) (hp : a.heap.size ≤ p.block ∨ S p.block) : Fr S a (b.setCell p v) :=
  ⟨h.os, h.tape, h.output, by rw [size_set]; exact h.size, fun k hk hn => by
    rw [blk_set_other (a := p) (k := k) (fun e => hp.elim (fun q => by omega) (fun q => hn (by rw [e]; exact q)))]; exact h.blk k hk hn⟩
theorem Fr.block {S : Nat → Prop} {a b : World} (h : Fr S a b) (p : Nat) (o : Obj) (hp : a.heap.size ≤ p ∨ S p) : Fr S a (setBlock b p o) :=
  ⟨h.os, h.tape, h.output, by rw [size_block]; exact h.size, fun k hk hn => by
    rw [blk_block_other (b := p) (k := k) (fun e => hp.elim (fun q => by omega) (fun q => hn (by rw [e]; exact q)))]; exact h.blk k hk hn⟩
theorem Fr.below {a b : World} (h : Below a.heap.size a b) (S : Nat → Prop) : Fr S a b := ⟨h.os, h.tape, h.output, h.size, fun k hk _ => h.block k hk⟩
theorem Fr.toBelow {S : Nat → Prop} {a b : World} (h : Fr S a b) (B : Nat) (hB : B ≤ a.heap.size) (hs : ∀ i, i < B → ¬ S i) : Below B a b :=
  ⟨h.os, h.tape, h.output, h.size, fun k hk => h.blk k (by omega) (hs k hk)⟩
theorem Fr.grown {S : Nat → Prop} {a b c : World} (h : Fr S a b) {row : Option Nat} (hg : b.grownBy c row) (hr : ∀ k, row = some k → a.heap.size ≤ k ∨ S k) : Fr S a c :=
  ⟨hg.os.trans h.os, hg.tape.trans h.tape, hg.output.trans h.output, Nat.le_trans h.size hg.size, fun k hk hn => by
    rw [hg.block k (Nat.lt_of_lt_of_le hk h.size) (fun e => (hr k e.symm).elim (fun q => by omega) (fun q => hn q))]; exact h.blk k hk hn⟩
theorem Fr.at_ {S : Nat → Prop} {a b : World} (h : Fr S a b) {k : Nat} {o : Obj} (hk : a.heap[k]? = some o) (hn : ¬ S k) : b.heap[k]? = some o := by
  rw [h.blk k (blk_lt hk) hn]; exact hk

/-- Nothing that was there has turned. -/
def Grow (w w' : World) : Prop := Fr (fun _ => False) w w'
theorem Grow.refl (w : World) : Grow w w := Fr.refl _ w
theorem Grow.trans {a b c : World} (h : Grow a b) (k : Grow b c) : Grow a c := Fr.trans h k
theorem Grow.alloc {a b : World} (h : Grow a b) (o : Obj) : Grow a (b.alloc o) := Fr.alloc h o
theorem Grow.drew {a b : World} (h : Grow a b) : Grow a b.drew := Fr.drew h
theorem Grow.drewN {a b : World} (h : Grow a b) (n : Nat) : Grow a (b.drewN n) := Fr.drewN h n
theorem Grow.setCell {a b : World} (h : Grow a b) (p : Addr) (v : Value) (hp : a.heap.size ≤ p.block) : Grow a (b.setCell p v) := Fr.setCell h p v (.inl hp)
theorem Grow.block {a b : World} (h : Grow a b) (p : Nat) (o : Obj) (hp : a.heap.size ≤ p) : Grow a (setBlock b p o) := Fr.block h p o (.inl hp)
theorem Grow.cell {a b : World} (h : Grow a b) {p : Addr} {v : Value} (hc : a.cell? p = some v) : b.cell? p = some v :=
  (World.cell?_of_block (w := a) (h.blk p.block (World.block_lt_of_cell? a p hc) (fun h => h))).trans hc
theorem Grow.at_ {a b : World} (h : Grow a b) {k : Nat} {o : Obj} (hk : a.heap[k]? = some o) : b.heap[k]? = some o := Fr.at_ h hk (fun h => h)
theorem Grow.below {a b : World} (h : Grow a b) : Below a.heap.size a b := ⟨h.os, h.tape, h.output, h.size, fun k hk => h.blk k hk (fun h => h)⟩
theorem Grow.of_below {a b : World} (h : Below a.heap.size a b) : Grow a b := Fr.below h _
theorem Grow.grown {a b c : World} (h : Grow a b) {row : Option Nat} (hg : b.grownBy c row) (hr : ∀ k, row = some k → a.heap.size ≤ k) : Grow a c := Fr.grown h hg (fun k e => .inl (hr k e))

/-! ### a map whose keys are ints: its entries, the oldest first -/
def IMap (w : World) (b : Nat) (kv : List (Int × Value)) : Prop :=
  ∃ es clock, w.heap[b]? = some (.map es clock) ∧ es.toList.map (fun e => (e.key, e.val)) = kv.map (fun p => (Value.int .i64 p.1, p.2)) ∧ Stamped es clock

theorem IMap.of_blk {w w' : World} {b : Nat} {kv : List (Int × Value)} (h : IMap w b kv) (hb : w'.heap[b]? = w.heap[b]?) : IMap w' b kv := by
  obtain ⟨es, clock, h1, h2, h3⟩ := h
  exact ⟨es, clock, hb.trans h1, h2, h3⟩
theorem IMap.lt {w : World} {b : Nat} {kv : List (Int × Value)} (h : IMap w b kv) : b < w.heap.size := by
  obtain ⟨es, clock, h1, _⟩ := h
  exact blk_lt h1
theorem IMap.fr {S : Nat → Prop} {w w' : World} {b : Nat} {kv : List (Int × Value)} (h : IMap w b kv) (hf : Fr S w w') (hn : ¬ S b) : IMap w' b kv :=
  h.of_blk (hf.blk b h.lt hn)
theorem IMap.alloc {w : World} {b : Nat} {kv : List (Int × Value)} (h : IMap w b kv) (o : Obj) : IMap (w.alloc o) b kv := h.of_blk (blk_alloc o h.lt)
theorem IMap.drew {w : World} {b : Nat} {kv : List (Int × Value)} (h : IMap w b kv) : IMap w.drew b kv := h
theorem IMap.new (w : World) : IMap (w.alloc (.map #[] 0)) w.heap.size [] := ⟨#[], 0, blk_new w _, rfl, by simp [Stamped]⟩

/-- What is stored at a key. -/
def mget (kv : List (Int × Value)) (k : Int) : Option Value := (kv.find? fun p => p.1 == k).map Prod.snd
/-- A store. -/
def mput (kv : List (Int × Value)) (k : Int) (v : Value) : List (Int × Value) :=
  if (mget kv k).isSome then kv.map fun p => if p.1 == k then (p.1, v) else p else kv ++ [(k, v)]
def mdel (kv : List (Int × Value)) (k : Int) : List (Int × Value) := kv.filter fun p => !(p.1 == k)

theorem IMap.nodup {w : World} {b : Nat} {kv : List (Int × Value)} (h : IMap w b kv) : (kv.map Prod.fst).Nodup := by
  obtain ⟨es, clock, _, h2, h3⟩ := h
  have h4 : es.toList.map (·.key) = kv.map (fun p => Value.int .i64 p.1) := by
    have := congrArg (List.map Prod.fst) h2
    simpa [List.map_map, Function.comp_def] using this
  have h5 := h3.2.2
  rw [h4] at h5
  have h6 : ((kv.map Prod.fst).map (Value.int .i64)).Nodup := by simpa [List.map_map, Function.comp_def] using h5
  unfold List.Nodup at h6 ⊢
  rw [List.pairwise_map] at h6
  exact h6.imp (fun {a b} h e => h (by rw [e]))

theorem IMap.keys {es : Array MapEntry} {kv : List (Int × Value)} (h2 : es.toList.map (fun e => (e.key, e.val)) = kv.map (fun p => (Value.int .i64 p.1, p.2))) : ∀ x ∈ es.toList, IsKey (.int .i64) x.key := by
  intro x hx
  have : (x.key, x.val) ∈ es.toList.map (fun e => (e.key, e.val)) := List.mem_map.2 ⟨x, hx, rfl⟩
  rw [h2] at this
  obtain ⟨p, _, e⟩ := List.mem_map.1 this
  have : x.key = .int .i64 p.1 := (congrArg Prod.fst e).symm
  rw [this]
  rfl

/-- The search in the entries finds what the list has. -/
theorem findNow_mget {es : List MapEntry} {kv : List (Int × Value)} (h2 : es.map (fun e => (e.key, e.val)) = kv.map (fun p => (Value.int .i64 p.1, p.2))) (k : Int) : ∀ i,
    (mget kv k = none ∧ Instr.findNow (.int .i64) (.int .i64 k) es i = some none) ∨
    (∃ j v, mget kv k = some v ∧ Instr.findNow (.int .i64) (.int .i64 k) es i = some (some (i + j, v)) ∧ kv[j]? = some (k, v) ∧ ∀ j', j' < j → (kv[j']?.map Prod.fst) ≠ some k) := by
  induction kv generalizing es with
  | nil =>
    intro i
    have : es = [] := by simpa using h2
    subst this
    exact .inl ⟨rfl, rfl⟩
  | cons p kv ih =>
    intro i
    cases es with
    | nil => simp at h2
    | cons e es =>
      simp only [List.map_cons, List.cons.injEq, Prod.mk.injEq] at h2
      obtain ⟨⟨hk, hv⟩, h3⟩ := h2
      by_cases hp : p.1 = k
      · refine .inr ⟨0, p.2, by simp [mget, hp], by simp [Instr.findNow, hk, Instr.sameNow, hp, hv], by simp [← hp], by simp⟩
      · have hn : (p.1 == k) = false := by simpa using hp
        have hn' : (k == p.1) = false := by simpa using Ne.symm hp
        have hl : mget (p :: kv) k = mget kv k := by simp [mget, List.find?_cons, hn]
        have hf : Instr.findNow (.int .i64) (.int .i64 k) (e :: es) i = Instr.findNow (.int .i64) (.int .i64 k) es (i + 1) := by
          simp [Instr.findNow, hk, Instr.sameNow, hn', Ne.symm hp]
        rw [hl, hf]
        rcases ih h3 (i + 1) with h | ⟨j, v, h4, h5, h6, h7⟩
        · exact .inl h
        · refine .inr ⟨j + 1, v, h4, by rw [h5]; congr 3; omega, by simpa using h6, ?_⟩
          intro j' hj'
          cases j' with
          | zero => simpa using hp
          | succ j' => simpa using h7 j' (by omega)

section
variable {P : Program} {t k e : TypeId} {w : World} {b : Nat} {kv : List (Int × Value)}

/-- m[x], and 'm[x], ok'. -/
theorem IMap.lookup (h : IMap w b kv) (ht : P.underlying t = some (.map k e)) (hk : P.underlying k = some (.int .i64)) {z : Value} (hz : (zeroValue e).run P w = .ok z w) (x : Int) (ok : Bool) :
    (Instr.lookup t (.map (some b)) (.int .i64 x) ok).run P w = .ok (if ok then .tuple #[(mget kv x).getD z, .bool (mget kv x).isSome] else (mget kv x).getD z) w := by
  obtain ⟨es, clock, h1, h2, h3⟩ := h
  have hkey : IsKey (.int .i64) (.int .i64 x) := rfl
  rcases findNow_mget h2 x 0 with ⟨h4, h5⟩ | ⟨j, v, h4, h5, _⟩
  · simp only [Instr.lookup, Sem.run_bind, run_underlying ht, Result.andThen, Sem.run_pure, MapKept.run_getObj_map h1, MapKept.run_checkKey hk hkey, MapKept.run_findKey hk h5, hz, h4]
    cases ok <;> rfl
  · simp only [Instr.lookup, Sem.run_bind, run_underlying ht, Result.andThen, Sem.run_pure, MapKept.run_getObj_map h1, MapKept.run_checkKey hk hkey, MapKept.run_findKey hk h5, h4]
    cases ok <;> rfl

/-- m[x] = v. -/
theorem IMap.store (h : IMap w b kv) (ht : P.underlying t = some (.map k e)) (hk : P.underlying k = some (.int .i64)) (x : Int) (v : Value) :
    ∃ o, (Instr.mapUpdate t (.map (some b)) (.int .i64 x) v).run P w = .ok () (setBlock w b o) ∧ IMap (setBlock w b o) b (mput kv x v) := by
  have hnd := h.nodup
  obtain ⟨es, clock, h1, h2, h3⟩ := h
  have hkey : IsKey (.int .i64) (.int .i64 x) := rfl
  rcases findNow_mget h2 x 0 with ⟨h4, h5⟩ | ⟨j, u, h4, h5, h6, h7⟩
  · refine ⟨.map (es.push { key := .int .i64 x, val := v, born := clock }) (clock + 1), ?_, ⟨_, _, blk_block h1, ?_, ?_⟩⟩
    · simp only [Instr.mapUpdate, Sem.run_bind, run_underlying ht, Result.andThen, Sem.run_pure, MapKept.run_getObj_map h1, MapKept.run_checkKey hk hkey, MapKept.run_findKey hk h5, MapKept.run_setObj_map _ h1]
      rfl
    · simp [mput, h4, h2]
    · refine stamped_push h3 fun y hy e => ?_
      have hm : (y.key, y.val) ∈ es.toList.map (fun e => (e.key, e.val)) := List.mem_map.2 ⟨y, hy, rfl⟩
      rw [h2] at hm
      obtain ⟨p, hp, e'⟩ := List.mem_map.1 hm
      have h8 : p.1 = x := by
        have := (congrArg Prod.fst e').trans e
        simpa using this
      unfold mget at h4
      have h9 : (kv.find? fun p => p.1 == x) = none := by simpa using h4
      have := List.find?_eq_none.1 h9 p hp
      simp [h8] at this
  · have hj : j < es.size := by
      have := congrArg List.length h2
      simp at this
      have := (List.getElem?_eq_some_iff.1 h6).1
      omega
    have hje : es[j].key = .int .i64 x := by
      have := congrArg (fun l => l[j]?) h2
      simp only [List.getElem?_map, h6, Option.map_some, Array.getElem?_toList, Array.getElem?_eq_getElem hj, Option.some.injEq, Prod.mk.injEq] at this
      exact this.1
    refine ⟨.map (es.modify j fun e => { e with key := .int .i64 x, val := v }) clock, ?_, ⟨_, _, blk_block h1, ?_, ?_⟩⟩
    · simp only [Instr.mapUpdate, Sem.run_bind, run_underlying ht, Result.andThen, Sem.run_pure, MapKept.run_getObj_map h1, MapKept.run_checkKey hk hkey, MapKept.run_findKey hk h5, Nat.zero_add, Array.getElem?_eq_getElem hj, Option.map_some, Option.getD_some, hje, MapKept.run_keyThatStays hkey, MapKept.run_setObj_map _ h1]
      rfl
    · have hput : mput kv x v = kv.map fun p => if p.1 == x then (p.1, v) else p := by simp [mput, h4]
      rw [hput]
      apply List.ext_getElem?
      intro i
      have hi := congrArg (fun l => l[i]?) h2
      simp only [List.getElem?_map, Array.getElem?_toList] at hi
      simp only [List.getElem?_map, Array.getElem?_toList, Array.getElem?_modify]
      by_cases hij : j = i
      · subst hij
        simp [Array.getElem?_eq_getElem hj, h6]
      · rw [if_neg hij, hi]
        cases hkv : kv[i]? with
        | none => simp
        | some p =>
          have : p.1 ≠ x := by
            intro e
            have hi' := (List.getElem?_eq_some_iff.1 hkv)
            have hj' := (List.getElem?_eq_some_iff.1 h6)
            obtain ⟨hil, hie⟩ := hi'
            obtain ⟨hjl, hje'⟩ := hj'
            have hpw := List.pairwise_iff_getElem.1 hnd
            rcases Nat.lt_or_gt_of_ne hij with hlt | hgt
            · exact hpw j i (by simpa using hjl) (by simpa using hil) hlt (by simp [hie, hje', e])
            · exact hpw i j (by simpa using hil) (by simpa using hjl) hgt (by simp [hie, hje', e])
          simp [this]
    · exact stamped_modify h3 j _ (fun _ _ => rfl) (fun e _ he => by
        rw [Array.getElem?_eq_getElem hj] at he
        cases he
        exact hje.symm)

/-- delete(m, x). -/
theorem IMap.delete (h : IMap w b kv) (ht : P.underlying t = some (.map k e)) (hk : P.underlying k = some (.int .i64)) (x : Int) (ty : TypeId) :
    ∃ o, (Builtin.delete_ #[t, k] ty #[.map (some b), .int .i64 x]).run P w = .ok (.tuple #[]) (setBlock w b o) ∧ IMap (setBlock w b o) b (mdel kv x) := by
  have hnd := h.nodup
  obtain ⟨es, clock, h1, h2, h3⟩ := h
  have hkey : IsKey (.int .i64) (.int .i64 x) := rfl
  rcases findNow_mget h2 x 0 with ⟨h4, h5⟩ | ⟨j, u, h4, h5, h6, h7⟩
  · refine ⟨.map es clock, ?_, ⟨_, _, blk_block h1, ?_, h3⟩⟩
    · simp only [Builtin.delete_, Sem.run_bind, List.getElem?_toArray, List.getElem?_cons_zero, List.getElem?_cons_succ, run_underlying ht, Result.andThen, Sem.run_pure, MapKept.run_getObj_map h1, MapKept.run_checkKey hk hkey, MapKept.run_findKey hk h5, MapKept.run_setObj_map _ h1]
      rfl
    · rw [h2]
      congr 1
      unfold mdel
      symm
      rw [List.filter_eq_self]
      intro p hp
      unfold mget at h4
      have h9 : (kv.find? fun p => p.1 == x) = none := by simpa using h4
      have := List.find?_eq_none.1 h9 p hp
      simpa using this
  · have hj : j < es.size := by
      have := congrArg List.length h2
      simp at this
      have := (List.getElem?_eq_some_iff.1 h6).1
      omega
    refine ⟨.map (es.eraseIdxIfInBounds j) clock, ?_, ⟨_, _, blk_block h1, ?_, stamped_erase h3 j⟩⟩
    · simp only [Builtin.delete_, Sem.run_bind, List.getElem?_toArray, List.getElem?_cons_zero, List.getElem?_cons_succ, run_underlying ht, Result.andThen, Sem.run_pure, MapKept.run_getObj_map h1, MapKept.run_checkKey hk hkey, MapKept.run_findKey hk h5, MapKept.run_setObj_map _ h1, Nat.zero_add]
      rfl
    · have hdel : mdel kv x = kv.eraseIdx j := by
        unfold mdel
        clear h2 h5 hj
        induction kv generalizing j with
        | nil => simp
        | cons p kv ih =>
          simp only [List.map_cons, List.nodup_cons] at hnd
          cases j with
          | zero =>
            simp only [List.getElem?_cons_zero, Option.some.injEq] at h6
            subst h6
            simp only [List.filter_cons, beq_self_eq_true, Bool.not_true, Bool.false_eq_true, if_false, List.eraseIdx_cons_zero]
            rw [List.filter_eq_self]
            intro q hq
            have : q.1 ≠ x := fun e => hnd.1 (List.mem_map.2 ⟨q, hq, e⟩)
            simpa using this
          | succ j =>
            have h0 : p.1 ≠ x := by simpa using h7 0 (by omega)
            have h0' : (p.1 == x) = false := by simpa using h0
            simp only [List.filter_cons, h0', Bool.not_false, if_true, List.eraseIdx_cons_succ, List.cons.injEq, true_and]
            refine ih hnd.2 j ?_ (by simpa using h6) (fun j' hj' => by simpa using h7 (j' + 1) (by omega))
            simpa [mget, List.find?_cons, h0'] using h4
      rw [hdel]
      unfold Array.eraseIdxIfInBounds
      rw [dif_pos hj, Array.toList_eraseIdx, Go.ChangeMaps.map_eraseIdx, h2, Go.ChangeMaps.map_eraseIdx]

theorem IMap.len (h : IMap w b kv) (ht : P.underlying t = some (.map k e)) (ty : TypeId) : (Builtin.len_ #[t] ty #[.map (some b)]).run P w = .ok (.int .i64 kv.length) w := by
  obtain ⟨es, clock, h1, h2, h3⟩ := h
  have : es.size = kv.length := by simpa using congrArg List.length h2
  simp [Builtin.len_, run_underlying ht, Result.andThen, MapKept.run_getObj_map h1, this]
  rfl
end
end Go.Kx
namespace Go.Kx
open Go.RowKit Go.MapKept
open Go.ChangeMaps (setBlock)
theorem IMap.setCell {w : World} {b : Nat} {kv : List (Int × Value)} (h : IMap w b kv) {a : Addr} (hne : b ≠ a.block) (v : Value) : IMap (w.setCell a v) b kv := h.of_blk (blk_set_other hne v)
theorem IMap.block {w : World} {b m : Nat} {kv : List (Int × Value)} (h : IMap w b kv) (o : Obj) (hne : b ≠ m) : IMap (setBlock w m o) b kv := h.of_blk (blk_block_other hne)
theorem IMap.ne {w : World} {m b : Nat} {kv : List (Int × Value)} {c : Array Value} {t : TypeId} {fz : Nat × Nat} (h : IMap w m kv) (hb : w.heap[b]? = some (.cells c t fz)) : m ≠ b := by
  rintro rfl
  obtain ⟨es, clock, h1, _⟩ := h
  rw [h1] at hb
  cases hb
theorem arr_set (c : Array Value) (i j : Nat) (v : Value) (hi : i < c.size) : (c.setIfInBounds i v)[j]? = if i = j then some v else c[j]? := by
  rw [Array.getElem?_setIfInBounds]
  by_cases h : i = j
  · subst h; simp [hi]
  · simp [h]
end Go.Kx
