/- The contract of the reference's Sort: it hands back a sorted copy, for every list that memory holds. -/
import Derived.Test.YtabplbalacldfaaLpB
set_option linter.unusedVariables false
set_option linter.unusedSimpArgs false
namespace Go.Proofs.Ytabplbalacldfaa
open Go.RowKit Go.Kx Go.Maps Go.Sort Go.Shelf
theorem srt_eq {a b : List Int} (h : a.Perm b) (hb : b.Pairwise (· ≤ ·)) : srt a = b :=
  (List.Perm.eq_of_pairwise (le := fun x y : Int => x ≤ y) (fun x y _ _ h1 h2 => by omega) (srt_le a) hb ((srt_perm a).trans h))
def gD (m : List Int) (a : Nat) : Int := m[a]?.getD 0
theorem gD_at {m : List Int} {a : Nat} (h : a < m.length) : gD m a = m[a] := by simp [gD, h]
theorem gD_set {m : List Int} {a : Nat} (h : a < m.length) (x : Int) (b : Nat) : gD (m.set a x) b = if b = a then x else gD m b := by
  unfold gD
  rw [List.getElem?_set]
  by_cases e : b = a
  · subst e; simp [h]
  · rw [if_neg e, if_neg (fun h => e h.symm)]
/-- The first k are in order. -/
def SrtK (m : List Int) (k : Nat) : Prop := ∀ a b, a < b → b < k → gD m a ≤ gD m b
/-- The first k + 1 are in order but for the one at q, which is no larger than those behind it. -/
def InsI (m : List Int) (k q : Nat) : Prop := (∀ a b, a < b → b ≤ k → a ≠ q → b ≠ q → gD m a ≤ gD m b) ∧ ∀ b, q < b → b ≤ k → gD m q ≤ gD m b
theorem InsI.start {m : List Int} {k : Nat} (h : SrtK m k) : InsI m k k := ⟨fun a b h1 h2 h3 h4 => h a b h1 (by omega), fun b h1 h2 => by omega⟩
theorem InsI.stop0 {m : List Int} {k : Nat} (h : InsI m k 0) : SrtK m (k + 1) := fun a b h1 h2 => by
  by_cases e : a = 0
  · subst e; exact h.2 b h1 (by omega)
  · exact h.1 a b h1 (by omega) e (by omega)
theorem InsI.stop {m : List Int} {k q : Nat} (h : InsI m k (q + 1)) (hq : gD m q ≤ gD m (q + 1)) : SrtK m (k + 1) := fun a b h1 h2 => by
  by_cases e : a = q + 1
  · subst e; exact h.2 b h1 (by omega)
  · by_cases e2 : b = q + 1
    · subst e2
      by_cases e3 : a = q
      · subst e3; exact hq
      · have := h.1 a q (by omega) (by omega) (by omega) (by omega)
        omega
    · exact h.1 a b h1 (by omega) e e2
def swp (m : List Int) (q : Nat) : List Int := (m.set (q + 1) (gD m q)).set q (gD m (q + 1))
theorem swp_gD {m : List Int} {q : Nat} (h : q + 1 < m.length) (b : Nat) : gD (swp m q) b = if b = q then gD m (q + 1) else if b = q + 1 then gD m q else gD m b := by
  unfold swp
  rw [gD_set (by simp; omega), gD_set h]
theorem swp_perm {m : List Int} {q : Nat} (h : q + 1 < m.length) : (swp m q).Perm m := by
  unfold swp
  rw [gD_at h, gD_at (show q < m.length by omega)]
  exact List.set_set_perm h (by omega)
theorem swp_len (m : List Int) (q : Nat) : (swp m q).length = m.length := by simp [swp]
theorem InsI.next {m : List Int} {k q : Nat} (h : InsI m k (q + 1)) (hk : k < m.length) (hqk : q + 1 ≤ k) (hq : gD m (q + 1) < gD m q) : InsI (swp m q) k q := by
  have hg := fun b => swp_gD (m := m) (q := q) (by omega) b
  refine ⟨fun a b h1 h2 h3 h4 => ?_, fun b h1 h2 => ?_⟩
  · rw [hg a, hg b, if_neg h3, if_neg h4]
    by_cases e : a = q + 1
    · subst e
      rw [if_pos rfl, if_neg (by omega)]
      exact h.1 q b (by omega) h2 (by omega) (by omega)
    · rw [if_neg e]
      by_cases e2 : b = q + 1
      · subst e2
        rw [if_pos rfl]
        exact h.1 a q (by omega) (by omega) e (by omega)
      · rw [if_neg e2]
        exact h.1 a b h1 h2 e e2
  · rw [hg q, hg b, if_pos rfl, if_neg (by omega)]
    by_cases e2 : b = q + 1
    · subst e2; rw [if_pos rfl]; omega
    · rw [if_neg e2]; exact h.2 b (by omega) h2
theorem SrtK.all {m l : List Int} {k : Nat} (h : SrtK m k) (hk : m.length ≤ k) (hp : m.Perm l) : m = srt l := by
  refine (srt_eq hp.symm ?_).symm
  rw [List.pairwise_iff_getElem]
  intro i j hi hj hij
  have := h i j hij (by omega)
  rwa [gD_at hi, gD_at hj] at this
/-- Where the copy lies while it is sorted. -/
def SrtS (w wr : World) (g n cap : Nat) (l m : List Int) : Prop := wr.ownsRow w.heap.size 3 1 (.slice (some ⟨g, 0, none⟩) n cap) n (m.map (Value.int .i64)) ∧ Grow w wr ∧ m.Perm l
theorem SrtS.drewN {w wr : World} {g n cap : Nat} {l m : List Int} (h : SrtS w wr g n cap l m) (q : Nat) : SrtS w (wr.drewN q) g n cap l m := ⟨h.1, h.2.1.drewN q, h.2.2⟩
theorem SrtS.len {w wr : World} {g n cap : Nat} {l m : List Int} (h : SrtS w wr g n cap l m) : m.length = n := by have := h.1.1; simpa using this
theorem SrtS.cell {w wr : World} {g n cap : Nat} {l m : List Int} (h : SrtS w wr g n cap l m) {j : Nat} (hj : j < n) : wr.cell? ⟨g, j, none⟩ = some (.int .i64 (gD m j)) := by
  rw [gD_at (by rw [h.len]; exact hj)]
  exact own_cell h.1 _
theorem SrtS.swp {w wr : World} {g n cap : Nat} {l m : List Int} (h : SrtS w wr g n cap l m) {q : Nat} (hq : q + 1 < n) : SrtS w ((wr.setCell ⟨g, q + 1, none⟩ (.int .i64 (gD m q))).setCell ⟨g, q, none⟩ (.int .i64 (gD m (q + 1)))) g n cap l (swp m q) := by
  have hlo := (h.1.lt g (by simp [Value.ownBlock])).1
  refine ⟨?_, (h.2.1.setCell _ _ hlo).setCell _ _ hlo, (swp_perm (by rw [h.len]; exact hq)).trans h.2.2⟩
  have h1 := (h.1.stored (q + 1) (.int .i64 (gD m q))).1
  have h2 := (h1.stored q (.int .i64 (gD m (q + 1)))).1
  unfold Proofs.Ytabplbalacldfaa.swp
  rw [List.map_set, List.map_set]
  exact h2
set_option maxRecDepth 100000 in
set_option maxHeartbeats 4000000 in
theorem refSort_any {w : World} {A : Option Addr} {cap : Nat} {l : List Int} (h : IntsAt w A l) (hA : A = none → cap = 0) (hl : l.length ≤ 1000) :
    Calls Try.prog 58 #[.slice A l.length cap] w (Made w (srt l)) := by
  refine cph fun R HR => ?_
  have HC := Lib.hid (copy_any h hA (by omega))
  clear h hA
  go_enter Try.func58, Try.ntmps58
  go_wp2_with (go_at_call 79; refine HC.out.mono ?_)
  rintro e w1 ⟨v, rfl, hown, hg⟩
  rcases hown.2 with ⟨rfl, hz⟩ | ⟨g, cap2, cur, rfl, _⟩
  · have h0 : l = [] := List.eq_nil_of_length_eq_zero hz
    subst h0
    have HG := Lib.hid (And.intro hown hg)
    clear hown hg HC
    simp only [List.length_nil]
    go_wp2_with fail
    refine wp_loop_once ?_
    go_wp2_with fail
    exact HR.out _ _ ⟨_, rfl, by simpa [srt] using HG.out.1, HG.out.2⟩
  · have hs0 : SrtS w w1 g l.length cap2 l l := ⟨hown, hg, List.Perm.refl _⟩
    have HS := Lib.hid hs0
    clear hs0 hown hg HC
    go_wp2_with fail
    go_loopw [4] (fun i wr => ∃ k : Nat, 1 ≤ k ∧ k ≤ l.length + 1 ∧ i = .int .i64 k ∧ Hid (∃ m, SrtS w wr g l.length cap2 l m ∧ SrtK m k)) (fun i _ => l.length + 1 - (intOf i).toNat)
    case atStart => exact ⟨1, by omega, by omega, rfl, l, HS.out, fun a b h1 h2 => by omega⟩
    case round =>
      obtain ⟨k, hk1, hk, rfl, HO⟩ := hrel
      by_cases hlt : k < l.length
      · have hki : (k : Int) < (l.length : Int) := by omega
        go_wp2_with fail
        go_loopw [5] (fun j wr => ∃ q : Nat, q ≤ k ∧ j = .int .i64 q ∧ Hid (∃ m, SrtS w wr g l.length cap2 l m ∧ InsI m k q)) (fun j _ => (intOf j).toNat)
        case atStart =>
          obtain ⟨m, h1, h2⟩ := HO.out
          exact ⟨k, by omega, rfl, m, h1, InsI.start h2⟩
        case round =>
          obtain ⟨q, hqk, rfl, HQ⟩ := hrel
          obtain ⟨m, hm1, hm2⟩ := HQ.out
          clear HQ
          cases q with
          | zero =>
            have H9 := Lib.hid (And.intro hm1 hm2.stop0)
            clear hm1 hm2
            have d0 : decide ((0 : Int) < ((0 : Nat) : Int)) = false := by simp
            go_wp2_with fail
            go_quiet (fail)
            go_wp2_with fail
            go_roundw
            case rel => exact ⟨k + 1, by omega, by omega, by go_num, m, H9.out.1.drewN _, H9.out.2⟩
            case measure => simp [intOf] <;> omega
          | succ q =>
            have e1 := hm1.cell (j := q + 1) (by omega)
            have e2 := hm1.cell (j := q) (by omega)
            have f1 := hm1.1.frozenAt (q + 1)
            have f2 := hm1.1.frozenAt q
            have hlen := hm1.len
            have HM := Lib.hid (And.intro hm1 hm2)
            have HN : Hid (gD m (q + 1) < gD m q → InsI (swp m q) k q) := fun hq => hm2.next (by omega) (by omega) hq
            have HT : Hid (gD m q ≤ gD m (q + 1) → SrtK m (k + 1)) := fun hq => hm2.stop hq
            have HW : Hid (∀ t : Nat, SrtS w (((wr.drewN t).setCell ⟨g, q + 1, none⟩ (.int .i64 (gD m q))).setCell ⟨g, q, none⟩ (.int .i64 (gD m (q + 1)))) g l.length cap2 l (swp m q)) := fun t => (hm1.drewN t).swp (by omega)
            clear hm1 hm2 hlen
            generalize gD m q = y at e2 HN HT HW
            generalize gD m (q + 1) = x at e1 HN HT HW
            have hq1 : ((q : Int) + 1) < (l.length : Int) := by omega
            have d1 : decide ((0 : Int) < (q : Int) + 1) = true := decide_eq_true (by omega)
            by_cases hxy : x < y
            · have d2 : decide (x < y) = true := decide_eq_true hxy
              go_wp2_with fail
              go_quiet (fail)
              go_wp2_with fail
              go_roundw
              case rel => exact ⟨q, by omega, by go_num, swp m q, HW.out _, HN.out hxy⟩
              case measure => simp [intOf] <;> omega
            · have d2 : decide (x < y) = false := decide_eq_false hxy
              go_wp2_with fail
              go_quiet (fail)
              go_wp2_with fail
              go_roundw
              case rel => exact ⟨k + 1, by omega, by omega, by go_num, m, HM.out.1.drewN _, HT.out (by omega)⟩
              case measure => simp [intOf] <;> omega
      · have hki : ¬ (k : Int) < (l.length : Int) := by omega
        obtain ⟨m, hm1, hm2⟩ := HO.out
        have e : m = srt l := hm2.all (by rw [hm1.len]; omega) hm1.2.2
        have HE := Lib.hid (And.intro hm1 e)
        clear hm1 hm2 e
        go_wp2_with fail
        exact HR.out _ _ ⟨_, rfl, by rw [srt_len, ← HE.out.2]; exact HE.out.1.1, HE.out.1.2.1⟩
end Go.Proofs.Ytabplbalacldfaa
