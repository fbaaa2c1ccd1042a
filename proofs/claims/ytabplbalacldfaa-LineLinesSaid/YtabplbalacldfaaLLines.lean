/- The map of lines in memory: that it stays, that a line comes in, that a line is accessed. No condition on any program. -/
import Derived.Test.YtabplbalacldfaaLAccess
import Derived.Test.YtabplbalacldfaaLValid
set_option linter.unusedVariables false
set_option linter.unusedSimpArgs false
namespace Go.Proofs.Ytabplbalacldfaa
open Go.RowKit Go.Kx
open Go.ChangeMaps (setBlock)
def freshCopy : Copy := ⟨false, false, false, false, false, []⟩
def ptrTo (b : Nat) : Value := .pointer (some ⟨b, 0, none⟩)
theorem mget_map (f : Int → Value) (ks : List Int) (k : Int) : mget (ks.map fun n => (n, f n)) k = if k ∈ ks then some (f k) else none := by
  induction ks with
  | nil => simp [mget]
  | cons a l ih =>
    by_cases h : a = k
    · subst h; simp [mget]
    · have h' : (a == k) = false := by simpa using h
      have : mget ((a :: l).map fun n => (n, f n)) k = mget (l.map fun n => (n, f n)) k := by simp [mget, h']
      rw [this, ih]
      simp [Ne.symm h]
theorem mput_map_new (f g : Int → Value) (ks : List Int) (k : Int) (v : Value) (h : k ∉ ks) (hg : ∀ n ∈ ks, g n = f n) (hk : g k = v) : mput (ks.map fun n => (n, f n)) k v = (ks ++ [k]).map fun n => (n, g n) := by
  unfold mput
  rw [mget_map, if_neg h]
  simp only [Option.isSome_none, Bool.false_eq_true, if_false, List.map_append, List.map_cons, List.map_nil, hk]
  congr 1
  exact List.map_congr_left fun n hn => by rw [hg n hn]
/-- The lines that were accessed: a map of pointers to four copies each. -/
structure Lines (w : World) (base ML : Nat) (st : Int → Nat → Copy) (ks : List Int) (B : Int → Nat) (O : Int → Nat → Option Nat) : Prop where
  map : IMap w ML (ks.map fun n => (n, ptrTo (B n)))
  four : ∀ n, n ∈ ks → Four w (B n) 91 (st n) (O n)
  low : base ≤ ML ∧ ∀ n, n ∈ ks → base ≤ B n ∧ ∀ i m, i < 4 → O n i = some m → base ≤ m
  ml : ∀ n, n ∈ ks → ∀ i m, i < 4 → O n i = some m → m ≠ ML
  injB : ∀ n n', n ∈ ks → n' ∈ ks → B n = B n' → n = n'
  injO : ∀ n n', n ∈ ks → n' ∈ ks → ∀ i i' m, i < 4 → i' < 4 → O n i = some m → O n' i' = some m → n = n'
  new : ∀ n, n ∉ ks → st n = fun _ => freshCopy
theorem Four.fr {w w' : World} {b : Nat} {T : TypeId} {Y : Nat → Copy} {o : Nat → Option Nat} {S : Nat → Prop} (h : Four w b T Y o) (hf : Fr S w w') (hb : ¬ S b) (ho : ∀ i m, i < 4 → o i = some m → ¬ S m) : Four w' b T Y o := by
  obtain ⟨⟨c, h1, h2⟩, h3, h4⟩ := h
  refine ⟨⟨c, hf.at_ h1 hb, h2⟩, fun i hi => ?_, h4⟩
  have := h3 i hi
  refine this.blk fun k hk => ?_
  rw [hk] at this
  exact hf.blk k this.lt (ho i k hi hk)
theorem Lines.fr {w w' : World} {base ML : Nat} {st : Int → Nat → Copy} {ks : List Int} {B : Int → Nat} {O : Int → Nat → Option Nat} {S : Nat → Prop} (h : Lines w base ML st ks B O) (hf : Fr S w w') (hS : ∀ k, S k → ∃ c, w.heap[k]? = some (.cells c 4 (0, 0))) : Lines w' base ML st ks B O := by
  have hm : ∀ k kv, IMap w k kv → ¬ S k := fun k kv hi hs => by
    obtain ⟨c, hc⟩ := hS k hs
    exact IMap.ne hi hc rfl
  refine ⟨h.map.fr hf (hm _ _ h.map), fun n hn => ?_, h.low, h.ml, h.injB, h.injO, h.new⟩
  refine (h.four n hn).fr hf ?_ fun i m hi hm' => ?_
  · obtain ⟨c, hc, _⟩ := (h.four n hn).ex
    intro hs
    obtain ⟨c', hc'⟩ := hS _ hs
    rw [hc] at hc'
    simp at hc'
  · have := (h.four n hn).oth i hi
    rw [hm'] at this
    exact hm _ _ this
theorem Lines.grow {w w' : World} {base ML : Nat} {st : Int → Nat → Copy} {ks : List Int} {B : Int → Nat} {O : Int → Nat → Option Nat} (h : Lines w base ML st ks B O) (hf : Grow w w') : Lines w' base ML st ks B O := h.fr hf (fun _ hk => hk.elim)
theorem Four.fresh {w : World} {b : Nat} {c : Array Value} (hb : w.heap[b]? = some (.cells c 91 (0, 0))) (hc : c = #[Value.bool false, .bool false, .bool false, .bool false, .bool false, .map none, .bool false, .bool false, .bool false, .bool false, .bool false, .map none,
    .bool false, .bool false, .bool false, .bool false, .bool false, .map none, .bool false, .bool false, .bool false, .bool false, .bool false, .map none]) : Four w b 91 (fun _ => freshCopy) (fun _ => none) := by
  subst hc
  refine ⟨⟨_, hb, fun i hi => ?_⟩, fun i _ => ⟨rfl, rfl⟩, fun i j m _ _ h => by cases h⟩
  match i, hi with
  | 0, _ => constructor <;> rfl
  | 1, _ => constructor <;> rfl
  | 2, _ => constructor <;> rfl
  | 3, _ => constructor <;> rfl
/-- A line comes in. -/
theorem Lines.add {w w' : World} {base ML : Nat} {st : Int → Nat → Copy} {ks : List Int} {B : Int → Nat} {O : Int → Nat → Option Nat} (h : Lines w base ML st ks B O) (q : Int) (hq : q ∉ ks) (nb : Nat) (hb : w.heap.size ≤ nb) (hbase : base ≤ w.heap.size)
    (hf : Fr (· = ML) w w') (hm : IMap w' ML (mput (ks.map fun n => (n, ptrTo (B n))) q (ptrTo nb))) (hF : Four w' nb 91 (fun _ => freshCopy) (fun _ => none)) :
    Lines w' base ML st (ks ++ [q]) (fun n => if n = q then nb else B n) (fun n => if n = q then fun _ => none else O n) := by
  have hne : ∀ n, n ∈ ks → n ≠ q := fun n hn e => hq (e ▸ hn)
  have mem : ∀ n, n ∈ ks ++ [q] → n = q ∨ n ∈ ks := fun n hn => by
    rcases List.mem_append.1 hn with hn | hn
    · exact .inr hn
    · exact .inl (by simpa using hn)
  have lt : ∀ n, n ∈ ks → B n < w.heap.size := fun n hn => by
    obtain ⟨c, hc, _⟩ := (h.four n hn).ex
    exact blk_lt hc
  refine ⟨?_, fun n hn => ?_, ⟨h.low.1, fun n hn => ?_⟩, fun n hn i m hi hm' => ?_, fun n n' hn hn' e => ?_, fun n n' hn hn' i i' m hi hi' e e' => ?_, fun n hn => ?_⟩
  · rw [mput_map_new (fun n => ptrTo (B n)) (fun n => ptrTo (if n = q then nb else B n)) ks q (ptrTo nb) hq (fun n hn => by simp only [if_neg (hne n hn)]) (by simp)] at hm
    exact hm
  · rcases mem n hn with rfl | hn
    · simp only [if_true]
      rw [h.new n hq]
      exact hF
    · simp only [if_neg (hne n hn)]
      refine (h.four n hn).fr hf ?_ (fun i m hi hm' => h.ml n hn i m hi hm')
      obtain ⟨c, hc, _⟩ := (h.four n hn).ex
      exact (h.map.ne hc).symm
  · rcases mem n hn with rfl | hn
    · simp only [if_true]
      exact ⟨by omega, fun i m _ e => by cases e⟩
    · simp only [if_neg (hne n hn)]
      exact h.low.2 n hn
  · rcases mem n hn with rfl | hn
    · simp at hm'
    · simp only [if_neg (hne n hn)] at hm'
      exact h.ml n hn i m hi hm'
  · rcases mem n hn with rfl | hn
    · rcases mem n' hn' with rfl | hn'
      · rfl
      · simp only [if_true, if_neg (hne n' hn')] at e
        have := lt n' hn'
        omega
    · have hn1 := hn
      rcases mem n' hn' with e2 | hn'
      · rw [if_pos e2, if_neg (hne n hn1)] at e
        have := lt n hn1
        omega
      · simp only [if_neg (hne n hn1), if_neg (hne n' hn')] at e
        exact h.injB n n' hn1 hn' e
  · rcases mem n hn with rfl | hn
    · simp at e
    · rcases mem n' hn' with rfl | hn'
      · simp at e'
      · simp only [if_neg (hne n hn)] at e
        simp only [if_neg (hne n' hn')] at e'
        exact h.injO n n' hn hn' i i' m hi hi' e e'
  · exact h.new n (fun hk => hn (List.mem_append.2 (.inl hk)))
/-- A line is accessed. -/
theorem Lines.acc {w w' : World} {base ML : Nat} {st : Int → Nat → Copy} {ks : List Int} {B : Int → Nat} {O : Int → Nat → Option Nat} (h : Lines w base ML st ks B O) (q : Int) (hq : q ∈ ks) (hbase : base ≤ w.heap.size) {Y : Nat → Copy}
    (h4 : Four4 w w' (B q) 91 Y (O q)) : ∃ O', Lines w' base ML (fun n => if n = q then Y else st n) ks B O' := by
  obtain ⟨⟨o', hF, hn⟩, hf⟩ := h4
  have lt : ∀ n, n ∈ ks → ∀ i m, i < 4 → O n i = some m → m < w.heap.size := fun n hn i m hi hm => by
    have := (h.four n hn).oth i hi
    rw [hm] at this
    exact this.lt
  have hkeep : ∀ n, n ∈ ks → n ≠ q → Four w' (B n) 91 (st n) (O n) := fun n hn hne => by
    refine (h.four n hn).fr hf ?_ fun i m hi hm => ?_
    · rintro (e | ⟨i, hi, e⟩)
      · exact hne (h.injB n q hn hq e)
      · obtain ⟨c, hc, _⟩ := (h.four n hn).ex
        have := (h.four q hq).oth i hi
        rw [← e] at this
        exact IMap.ne this hc rfl
    · rintro (e | ⟨i', hi', e⟩)
      · obtain ⟨c, hc, _⟩ := (h.four q hq).ex
        have := (h.four n hn).oth i hi
        rw [hm] at this
        exact IMap.ne this hc e
      · exact hne (h.injO n q hn hq i i' m hi hi' hm e.symm)
  refine ⟨fun n => if n = q then o' else O n, ⟨?_, fun n hn' => ?_, ⟨h.low.1, fun n hn' => ?_⟩, fun n hn' i m hi hm => ?_, h.injB, fun n n' hn1 hn2 i i' m hi hi' e e' => ?_, fun n hn' => ?_⟩⟩
  · refine h.map.fr hf ?_
    rintro (e | ⟨i, hi, e⟩)
    · obtain ⟨c, hc, _⟩ := (h.four q hq).ex
      exact h.map.ne hc e
    · exact h.ml q hq i ML hi e.symm rfl
  · by_cases e : n = q
    · subst e; simp only [if_true]; exact hF
    · simp only [if_neg e]; exact hkeep n hn' e
  · by_cases e : n = q
    · subst e
      simp only [if_true]
      refine ⟨(h.low.2 n hn').1, fun i m hi hm => ?_⟩
      rcases hn i hi with h1 | ⟨m', h1, h2⟩
      · rw [h1] at hm; exact (h.low.2 n hn').2 i m hi hm
      · rw [h1] at hm; cases hm; omega
    · simp only [if_neg e]; exact h.low.2 n hn'
  · by_cases e : n = q
    · subst e
      simp only [if_true] at hm
      rcases hn i hi with h1 | ⟨m', h1, h2⟩
      · rw [h1] at hm; exact h.ml n hn' i m hi hm
      · rw [h1] at hm; cases hm
        have := h.map.lt
        omega
    · simp only [if_neg e] at hm; exact h.ml n hn' i m hi hm
  · by_cases e1 : n = q
    · by_cases e2 : n' = q
      · omega
      · rw [if_pos e1] at e
        rw [if_neg e2] at e'
        rcases hn i hi with h1 | ⟨m', h1, h2⟩
        · rw [h1] at e
          rw [e1]
          exact h.injO q n' hq hn2 i i' m hi hi' e e'
        · rw [h1] at e; cases e
          have := lt n' hn2 i' _ hi' e'
          omega
    · by_cases e2 : n' = q
      · rw [if_neg e1] at e
        rw [if_pos e2] at e'
        rcases hn i' hi' with h1 | ⟨m', h1, h2⟩
        · rw [h1] at e'
          rw [e2]
          exact h.injO n q hn1 hq i i' m hi hi' e e'
        · rw [h1] at e'; cases e'
          have := lt n hn1 i _ hi e
          omega
      · rw [if_neg e1] at e
        rw [if_neg e2] at e'
        exact h.injO n n' hn1 hn2 i i' m hi hi' e e'
  · have e : n ≠ q := fun e => hn' (e ▸ hq)
    simp only [if_neg e]
    exact h.new n hn'
end Go.Proofs.Ytabplbalacldfaa
