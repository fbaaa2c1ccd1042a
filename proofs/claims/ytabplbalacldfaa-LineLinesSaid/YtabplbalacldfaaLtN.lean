/- The transfers of lines, plainly: each line that is accessed has one, and all together are the transfers of the threads. -/
import Derived.Test.YtabplbalacldfaaLtH
import Derived.Test.YtabplbalacldfaaLCountsLaw
import Derived.Test.YtabplbalacldfaaLAloneLaw
set_option linter.unusedVariables false
set_option linter.unusedSimpArgs false
namespace Go.Proofs.Ytabplbalacldfaa
open Go.RowKit Go.Kx
def hitQ (size : Int) (l : List A3) (q : Int) (k : Nat) : Bool := match l[k]?, (mvs size l)[k]? with
  | some a, some m => m && a.2.1 / size == q
  | _, _ => false
/-- The transfers of the line q among the first k accesses. -/
def trK (size : Int) (l : List A3) (q : Int) : Nat → Int
  | 0 => 0
  | k + 1 => trK size l q k + if hitQ size l q k then 1 else 0
theorem trK_succ {size : Int} {l : List A3} {k : Nat} {a : A3} {m : Bool} (ha : l[k]? = some a) (hm : (mvs size l)[k]? = some m) (q : Int) : trK size l q (k + 1) = trK size l q k + if (m && a.2.1 / size == q) then 1 else 0 := by
  show _ + (if hitQ size l q k then (1 : Int) else 0) = _
  unfold hitQ
  rw [ha, hm]
theorem trK_bound (size : Int) (l : List A3) (q : Int) : ∀ k, 0 ≤ trK size l q k ∧ trK size l q k ≤ k
  | 0 => by simp [trK]
  | k + 1 => by
    have := trK_bound size l q k
    simp only [trK]
    split <;> omega
def trn (size : Int) (l : List A3) (q : Int) : Int := trK size l q l.length
/-- What Lines answers. -/
def lnP (size : Int) (l : List A3) : List (Int × Int) := (dist (lnsL size l)).map fun q => (q, trn size l q)
theorem mvs_at {size : Int} {l : List A3} {k : Nat} {a : A3} (ha : l[k]? = some a) : (mvs size l)[k]? = some (mvOf size ((l.take k).foldl (stepSt size) st0) a) := by
  have hk : k < l.length := (List.getElem?_eq_some_iff.1 ha).1
  have h1 : (outs size l st0)[k]? = ((outs size l st0).take (k + 1))[k]? := by rw [List.getElem?_take, if_pos (by omega)]
  rw [outs_take, take_snoc ha, outs_snoc, List.getElem?_append_right (by rw [outs_length, List.length_take]; omega)] at h1
  rw [outs_length, List.length_take, show k - min k l.length = 0 by omega] at h1
  unfold mvs
  rw [List.getElem?_map, h1]
  rfl
theorem first_hit {size : Int} {l : List A3} : ∀ k, k ≤ l.length → (∀ q, q ∉ lnsL size (l.take k) → ∀ t, ((l.take k).foldl (stepSt size) st0) q t = freshCopy) ∧ ∀ q ∈ lnsL size (l.take k), 0 < trK size l q k := by
  intro k
  induction k with
  | zero => intro _; exact ⟨fun q _ t => rfl, fun q h => by simp [lnsL] at h⟩
  | succ k ih =>
    intro hk
    obtain ⟨i1, i2⟩ := ih (by omega)
    obtain ⟨a, ha⟩ : ∃ a, l[k]? = some a := ⟨l[k]'(by omega), by simp⟩
    have hm := mvs_at (size := size) ha
    have e : lnsL size (l.take (k + 1)) = lnsL size (l.take k) ++ [a.2.1 / size] := by rw [take_snoc ha]; simp [lnsL]
    rw [e]
    refine ⟨fun q hq t => ?_, fun q hq => ?_⟩
    · rw [List.mem_append, List.mem_singleton, not_or] at hq
      rw [take_snoc ha, List.foldl_append]
      simp only [List.foldl_cons, List.foldl_nil]
      unfold stepSt
      rw [if_neg hq.2]
      exact i1 q hq.1 t
    · rw [trK_succ ha hm]
      have hb := trK_bound size l q k
      by_cases h1 : q ∈ lnsL size (l.take k)
      · have := i2 q h1
        split <;> omega
      · have hqa : q = a.2.1 / size := by
          rw [List.mem_append, List.mem_singleton] at hq
          exact hq.resolve_left h1
        have hmv : mvOf size ((l.take k).foldl (stepSt size) st0) a = true := by
          unfold mvOf
          rw [← hqa, i1 q h1]
          rfl
        rw [hmv, hqa]
        simp
        have := trK_bound size l (a.2.1 / size) k
        omega
theorem trn_pos {size : Int} {l : List A3} {q : Int} : 0 < trn size l q ↔ q ∈ lnsL size l := by
  constructor
  · intro h
    have : ∀ k, k ≤ l.length → 0 < trK size l q k → q ∈ lnsL size l := by
      intro k
      induction k with
      | zero => intro _ h; simp [trK] at h
      | succ k ih =>
        intro hk h
        obtain ⟨a, ha⟩ : ∃ a, l[k]? = some a := ⟨l[k]'(by omega), by simp⟩
        rw [trK_succ ha (mvs_at ha)] at h
        by_cases h2 : a.2.1 / size = q
        · exact List.mem_map.2 ⟨a, List.mem_of_getElem? ha, h2⟩
        · have : (a.2.1 / size == q) = false := by simp [h2]
          rw [this, Bool.and_false] at h
          exact ih (by omega) (by simpa using h)
    exact this _ (Nat.le_refl _) h
  · intro h
    have := (first_hit (size := size) (l := l) l.length (Nat.le_refl _)).2 q
    rw [List.take_length] at this
    exact this h
theorem sum_bump {f : Int → Int} {q0 : Int} : ∀ {D : List Int}, D.Nodup → q0 ∈ D → (D.map fun q => f q + if q0 == q then 1 else 0).sum = (D.map f).sum + 1
  | [], _, h => by simp at h
  | d :: D, hn, h => by
    rw [List.nodup_cons] at hn
    simp only [List.map_cons, List.sum_cons]
    by_cases e : q0 = d
    · subst e
      have : (D.map fun q => f q + if q0 == q then 1 else 0) = D.map f := List.map_congr_left fun q hq => by
        have : (q0 == q) = false := by simp; rintro rfl; exact hn.1 hq
        simp [this]
      rw [this]
      simp
      omega
    · have := sum_bump (f := f) hn.2 ((List.mem_cons.1 h).resolve_left e)
      rw [this]
      have : (q0 == d) = false := by simp [e]
      simp [this]
      omega
theorem lines_total {size : Int} {l : List A3} {D : List Int} (hn : D.Nodup) (hD : ∀ a ∈ l, a.2.1 / size ∈ D) : ∀ k, k ≤ l.length → (D.map fun q => trK size l q k).sum = trues ((mvs size l).take k) := by
  intro k
  induction k with
  | zero =>
    intro _
    have : (D.map fun q => trK size l q 0) = D.map fun _ => 0 := rfl
    rw [this]
    have : ∀ D : List Int, (D.map fun _ => (0 : Int)).sum = 0 := fun D => by induction D with
      | nil => rfl
      | cons d D ih => simp [ih]
    rw [this]; rfl
  | succ k ih =>
    intro hk
    obtain ⟨a, ha⟩ : ∃ a, l[k]? = some a := ⟨l[k]'(by omega), by simp⟩
    have hm := mvs_at (size := size) ha
    generalize mvOf size ((l.take k).foldl (stepSt size) st0) a = m at hm
    rw [take_snoc hm, trues_snoc, ← ih (by omega)]
    have e : (D.map fun q => trK size l q (k + 1)) = D.map fun q => trK size l q k + if (m && a.2.1 / size == q) then 1 else 0 := List.map_congr_left fun q _ => trK_succ ha hm q
    rw [e]
    cases m
    · simp
    · simp only [Bool.true_and, if_true]
      exact sum_bump hn (hD a (List.mem_of_getElem? ha))
theorem mput_map_old (f g : Int → Value) (ks : List Int) (k : Int) (v : Value) (h : k ∈ ks) (hg : ∀ n ∈ ks, n ≠ k → g n = f n) (hk : g k = v) : mput (ks.map fun n => (n, f n)) k v = ks.map fun n => (n, g n) := by
  unfold mput
  rw [mget_map, if_pos h]
  simp only [Option.isSome_some, if_true, List.map_map]
  refine List.map_congr_left fun n hn => ?_
  by_cases e : n = k
  · subst e; simp [hk]
  · simp [e, hg n hn e]
/-- The map of counts behind k accesses. -/
def CntS (w : World) (M : Nat) (size : Int) (l : List A3) (k : Nat) : Prop := ∃ ks : List Int, IMap w M (ks.map fun n => (n, Value.int .i64 (trK size l n k))) ∧ ∀ q, q ∈ ks ↔ 0 < trK size l q k
theorem cnt_get {ks : List Int} {size : Int} {l : List A3} {k : Nat} (h : ∀ q, q ∈ ks ↔ 0 < trK size l q k) (q : Int) : (mget (ks.map fun n => (n, Value.int .i64 (trK size l n k))) q).getD (.int .i64 0) = .int .i64 (trK size l q k) := by
  rw [mget_map (fun n => Value.int .i64 (trK size l n k))]
  by_cases hq : q ∈ ks
  · rw [if_pos hq]; rfl
  · rw [if_neg hq]
    have := trK_bound size l q k
    have h2 := fun h' => hq ((h q).2 h')
    have : trK size l q k = 0 := by
      rcases Int.lt_or_le 0 (trK size l q k) with h3 | h3
      · exact absurd h3 h2
      · omega
    rw [this]; rfl
theorem cnt_put {ks : List Int} {size : Int} {l : List A3} {k : Nat} {a : A3} (h : ∀ q, q ∈ ks ↔ 0 < trK size l q k) (ha : l[k]? = some a) (hm : (mvs size l)[k]? = some true) :
    ∃ ks' : List Int, mput (ks.map fun n => (n, Value.int .i64 (trK size l n k))) (a.2.1 / size) (.int .i64 (trK size l (a.2.1 / size) k + 1)) = (ks'.map fun n => (n, Value.int .i64 (trK size l n (k + 1)))) ∧ ∀ q, q ∈ ks' ↔ 0 < trK size l q (k + 1) := by
  have hs := fun q => trK_succ (size := size) ha hm q
  have h1 : trK size l (a.2.1 / size) (k + 1) = trK size l (a.2.1 / size) k + 1 := by rw [hs]; simp
  have h2 : ∀ n, n ≠ a.2.1 / size → trK size l n (k + 1) = trK size l n k := fun n hn => by
    rw [hs]
    have : (a.2.1 / size == n) = false := by simp; exact fun e => hn e.symm
    simp [this]
  have hb := trK_bound size l (a.2.1 / size) k
  by_cases hq : a.2.1 / size ∈ ks
  · refine ⟨ks, mput_map_old (fun n => .int .i64 (trK size l n k)) (fun n => .int .i64 (trK size l n (k + 1))) ks _ _ hq (fun n _ hn => by rw [h2 n hn]) (by rw [h1]), fun q => ?_⟩
    rw [h]
    by_cases e : q = a.2.1 / size
    · subst e; rw [h1]; have := (h _).1 hq; omega
    · rw [h2 q e]
  · refine ⟨ks ++ [a.2.1 / size], mput_map_new (fun n => .int .i64 (trK size l n k)) (fun n => .int .i64 (trK size l n (k + 1))) ks _ _ hq (fun n hn => by rw [h2 n (fun e => hq (e ▸ hn))]) (by rw [h1]), fun q => ?_⟩
    rw [List.mem_append, List.mem_singleton, h]
    by_cases e : q = a.2.1 / size
    · subst e; rw [h1]; constructor
      · intro _; omega
      · intro _; exact .inr rfl
    · rw [h2 q e]
      exact ⟨fun h => h.elim id (fun h => absurd h e), .inl⟩
theorem cnt_same {size : Int} {l : List A3} {k : Nat} {a : A3} (ha : l[k]? = some a) (hm : (mvs size l)[k]? = some false) (q : Int) : trK size l q (k + 1) = trK size l q k := by
  rw [trK_succ ha hm]; simp
end Go.Proofs.Ytabplbalacldfaa
