/- One thread alone: its transfers are the accesses that the statement wants, and none is false. Plain lists, no program. -/
import Derived.Test.YtabplbalacldfaaLLarger
set_option linter.unusedVariables false
set_option linter.unusedSimpArgs false
namespace Go.Proofs.Ytabplbalacldfaa
open Go.RowKit Go.Kx
def aloneOf (t : Int) (l : List A3) : List A3 := l.map fun a => (t, a.2.1, a.2.2)
structure Sc where
  first : Bool
  read : Bool
  wrote : Bool
def scStep (size q : Int) (s : Sc) (a : A3) : Sc := if a.2.1 / size == q then ⟨false, s.read || a.2.2 == 0 && !s.wrote, s.wrote || a.2.2 == 1⟩ else s
def scan (size q : Int) (l : List A3) : Sc := l.foldl (scStep size q) ⟨true, false, false⟩
def hit (s : Sc) (a : A3) : Bool := s.first || a.2.2 == 1 && !s.wrote && s.read
/-- How many of the first k accesses are wanted. -/
def wantN (size : Int) (l : List A3) : Nat → Nat
  | 0 => 0
  | k + 1 => wantN size l k + match l[k]? with
    | some a => if hit (scan size (a.2.1 / size) (l.take k)) a then 1 else 0
    | none => 0
theorem wantN_le (size : Int) (l : List A3) : ∀ k, wantN size l k ≤ k
  | 0 => Nat.le_refl _
  | k + 1 => by
    have := wantN_le size l k
    unfold wantN
    split
    · split <;> omega
    · omega
/-- One thread alone: the copy of each line is what the scan says. -/
structure Solo (x : Copy) (s : Sc) : Prop where
  here : x.here = !s.first
  was : x.wasHere = !s.first
  own : x.own = s.wrote
  wasOwn : x.wasOwn = s.wrote
  first : s.wrote = true → s.first = false
  some_ : s.first = true ∨ s.read = true ∨ s.wrote = true
theorem Solo.mine {x : Copy} {s : Sc} (h : Solo x s) {a : A3} (hz : a.2.2 = 0 ∨ a.2.2 = 1) : Solo (x.mine (a.2.2 == 1)) ⟨false, s.read || a.2.2 == 0 && !s.wrote, s.wrote || a.2.2 == 1⟩ := by
  obtain ⟨h1, h2, h3, h4, h5, h6⟩ := h
  obtain ⟨f, r, w⟩ := s
  obtain ⟨he, ow, wh, wo, li, os⟩ := x
  simp only at h1 h2 h3 h4 h5 h6
  subst h1 h2 h3 h4
  rcases hz with hz | hz <;> constructor <;> simp [Copy.mine, hz] <;> revert h5 h6 <;> cases f <;> cases r <;> cases wo <;> simp
theorem solo_hit {x : Copy} {s : Sc} (h : Solo x s) (a : A3) : x.moves (a.2.2 == 1) = hit s a := by
  obtain ⟨h1, h2, h3, h4, h5, h6⟩ := h
  obtain ⟨f, r, w⟩ := s
  simp only at h1 h2 h3 h4 h5 h6
  unfold Copy.moves hit
  rw [h1, h3]
  revert h5 h6
  cases f <;> cases r <;> cases w <;> simp
theorem solo_wrong {x : Copy} {s : Sc} (h : Solo x s) (cell : Int) (b : Bool) : x.wrong cell b = false := by
  obtain ⟨h1, h2, h3, h4, h5, h6⟩ := h
  unfold Copy.wrong
  rw [h1, h2, h3, h4]
  cases s.first <;> cases s.wrote <;> simp
theorem solo_fold (size : Int) (th : Nat) (l : List A3) (hl : ∀ a ∈ l, a.1 = (th : Int) ∧ (a.2.2 = 0 ∨ a.2.2 = 1)) : ∀ (st : St) (sc : Int → Sc), (∀ q, Solo (st q th) (sc q)) → ∀ q, Solo (l.foldl (stepSt size) st q th) (l.foldl (scStep size q) (sc q)) := by
  induction l with
  | nil => intro st sc h q; exact h q
  | cons a l ih =>
    intro st sc h q
    simp only [List.foldl_cons]
    obtain ⟨h1, h2⟩ := hl a (by simp)
    refine ih (fun b hb => hl b (by simp [hb])) (stepSt size st a) (fun q => scStep size q (sc q) a) (fun q => ?_) q
    unfold stepSt scStep
    by_cases e : q = a.2.1 / size
    · subst e
      simp only [if_true, beq_self_eq_true]
      have : accessed (st (a.2.1 / size)) a.1.toNat a.2.1 (a.2.2 == 1) th = (st (a.2.1 / size) th).mine (a.2.2 == 1) := by
        unfold accessed
        rw [h1]
        simp
      rw [this]
      exact (h _).mine h2
    · have e' : (a.2.1 / size == q) = false := by simpa using Ne.symm e
      simp only [if_neg e, e', Bool.false_eq_true, if_false]
      exact h q
theorem solo_at (size : Int) (th : Nat) (l : List A3) (hl : ∀ a ∈ l, a.1 = (th : Int) ∧ (a.2.2 = 0 ∨ a.2.2 = 1)) (q : Int) : Solo (l.foldl (stepSt size) st0 q th) (scan size q l) :=
  solo_fold size th l hl st0 (fun _ => ⟨true, false, false⟩) (fun q => ⟨rfl, rfl, rfl, rfl, by simp, .inl rfl⟩) q
theorem outs_take (size : Int) (l : List A3) (k : Nat) (st : St) : (outs size l st).take k = outs size (l.take k) st := by
  induction l generalizing k st with
  | nil => simp [outs]
  | cons a l ih =>
    cases k with
    | zero => rfl
    | succ k => simp [outs, ih]
theorem tg_take (size : Int) (l : List A3) (k : Nat) : (tg size l).take k = tg size (l.take k) := by
  unfold tg
  rw [← outs_take]
  simp only [List.zip]
  rw [List.take_zipWith]
theorem tg_snoc (size : Int) (l : List A3) (a : A3) : tg size (l ++ [a]) = tg size l ++ [(a, mvOf size (l.foldl (stepSt size) st0) a, wgOf size (l.foldl (stepSt size) st0) a)] := by
  unfold tg
  rw [outs_snoc, List.zip_append (by simp [outs_length])]
  rfl
/-- The counts of one thread alone. -/
theorem cnt_alone (size : Int) (th : Nat) (l : List A3) (hl : ∀ a ∈ l, a.1 = (th : Int) ∧ (a.2.2 = 0 ∨ a.2.2 = 1)) : ∀ k, k ≤ l.length → cnt (tg size (l.take k)) th 2 = wantN size l k ∧ (∀ t, cnt (tg size (l.take k)) t 3 = 0) ∧ ∀ t, t ≠ th → cnt (tg size (l.take k)) t 2 = 0 := by
  intro k
  induction k with
  | zero => intro _; exact ⟨rfl, fun _ => rfl, fun _ _ => rfl⟩
  | succ k ih =>
    intro hk
    obtain ⟨i1, i2, i3⟩ := ih (by omega)
    obtain ⟨a, ha⟩ : ∃ a, l[k]? = some a := ⟨l[k]'(by omega), by simp⟩
    obtain ⟨h1, h2⟩ := hl a (List.mem_of_getElem? ha)
    have hs := solo_at size th (l.take k) (fun b hb => hl b (List.mem_of_mem_take hb)) (a.2.1 / size)
    have hmv : mvOf size ((l.take k).foldl (stepSt size) st0) a = hit (scan size (a.2.1 / size) (l.take k)) a := by
      unfold mvOf
      rw [h1]
      exact solo_hit hs a
    have hwg : wgOf size ((l.take k).foldl (stepSt size) st0) a = false := by
      unfold wgOf
      rw [h1]
      exact solo_wrong hs _ _
    rw [take_snoc ha, tg_snoc]
    refine ⟨?_, fun t => ?_, fun t ht => ?_⟩
    · rw [cnt_snoc, i1, hmv]
      simp only [inc, h1, beq_self_eq_true, Bool.true_and]
      rw [show wantN size l (k + 1) = wantN size l k + (match l[k]? with | some a => if hit (scan size (a.2.1 / size) (l.take k)) a then 1 else 0 | none => 0) from rfl, ha]
      by_cases hh : hit (scan size (a.2.1 / size) (l.take k)) a = true <;> simp [hh]
    · rw [cnt_snoc, i2, hwg]
      simp [inc]
    · rw [cnt_snoc, i3 t ht]
      have : (a.1 == (t : Int)) = false := by rw [h1]; simp; omega
      simp [this]
theorem wantN_succ {size : Int} {l : List A3} {k : Nat} {a : A3} (h : l[k]? = some a) : wantN size l (k + 1) = wantN size l k + if hit (scan size (a.2.1 / size) (l.take k)) a then 1 else 0 := by
  rw [show wantN size l (k + 1) = wantN size l k + (match l[k]? with | some a => if hit (scan size (a.2.1 / size) (l.take k)) a then 1 else 0 | none => 0) from rfl, h]
theorem scan_snoc {size q : Int} {l : List A3} {k : Nat} {a : A3} (h : l[k]? = some a) : scan size q (l.take (k + 1)) = scStep size q (scan size q (l.take k)) a := by
  rw [take_snoc h]; simp [scan]
end Go.Proofs.Ytabplbalacldfaa
