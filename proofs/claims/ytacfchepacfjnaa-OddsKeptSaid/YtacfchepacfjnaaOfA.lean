/- Finds: place, Steps, finds, the reference's Finds. -/
import Derived.Test.YtacfchepacfjnaaOdZ
import Derived.Test.YtacfchepacfjnaaKxB
import Derived.Lib.SliceRun
set_option linter.unusedVariables false
set_option linter.unusedSimpArgs false
namespace Go.Proofs.Ytacfchepacfjnaa
open Go.RowKit Go.Kx Go.Maps Go.Sort Go.Shelf
open Go.ChangeMaps (setBlock)
set_option maxHeartbeats 1000000 in
theorem place_any {w : World} {A : Option Addr} {ca : Nat} {l : List Int} (h : IntsAt w A l) (t s : Int) (hl : l.length ≤ 1000000) :
    Calls Try.prog 48 #[.slice A l.length ca, .int .i64 t, .int .i64 s] w fun e w' => e = .returned (.int .i64 (plc l t s)) ∧ w = w' := by
  refine cph fun R HR => ?_
  have H := Lib.hid h
  clear h
  go_enter Try.func48, Try.ntmps48
  go_wp2
  go_loop [7, 8] (fun n i => ∃ k : Nat, k ≤ l.length ∧ i = .int .i64 k ∧ n = .int .i64 ((l.take k).count t : Nat) ∧ Hid (∀ j, j < k → isPl l t s j = false)) (fun _ i => l.length - (intOf i).toNat)
  case atStart => exact ⟨0, Nat.zero_le _, rfl, by simp, fun j hj => by omega⟩
  case round =>
    obtain ⟨k, hk, rfl, rfl, HJ⟩ := hrel
    by_cases hlt : k < l.length
    · have hki : (k : Int) < (l.length : Int) := by omega
      obtain ⟨b, off, rfl, hc⟩ := H.out.at_ hlt
      have hcs := cnt_succ l t k
      rw [List.getElem?_eq_getElem hlt] at hcs
      have hpl : isPl l t s k = decide (l[k] = t ∧ ((l.take k).count t : Int) = s) := by unfold isPl; rw [List.getElem?_eq_getElem hlt]; simp
      have hcl : (l.take k).count t ≤ k := Nat.le_trans List.count_le_length (List.length_take_le _ _)
      have HX := Lib.hid (And.intro hcs hpl)
      clear hcs hpl
      generalize l[k] = x at hc HX
      generalize hn : (l.take k).count t = n at hcl HX ⊢
      by_cases e : x = t
      · subst e
        by_cases es : (n : Int) = s
        · have hp : plc l x s = k := plc_eq (by rw [HX.out.2]; simp [es])
          rw [hp] at HR
          have es' : ((n : Int) == s) = true := by simp [es]
          clear hp hn
          go_wp2
          exact HR.out _ _ ⟨rfl, rfl⟩
        · have es' : ((n : Int) == s) = false := by simp [es]
          clear hn
          go_wp2
          go_round
          case rel => exact ⟨k + 1, by omega, by go_num, by rw [HX.out.1, if_pos rfl]; go_num, fun j hj => by
            by_cases ej : j = k
            · subst ej; rw [HX.out.2]; simp [es]
            · exact HJ.out j (by omega)⟩
          case measure => simp [intOf]; omega
      · have e' : (x == t) = false := by simp [e]
        clear hn
        go_wp2
        go_round
        case rel => exact ⟨k + 1, by omega, by go_num, by rw [HX.out.1, if_neg (fun h => e (by cases h; rfl))]; simp, fun j hj => by
          by_cases ej : j = k
          · subst ej; rw [HX.out.2]; simp [e]
          · exact HJ.out j (by omega)⟩
        case measure => simp [intOf]; omega
    · have hki : ¬ (k : Int) < (l.length : Int) := by omega
      have hp : plc l t s = l.length := by
        rcases plc_spec l t s with ⟨h1, h2⟩ | ⟨h1, _⟩
        · rw [HJ.out _ (by omega)] at h2; cases h2
        · exact h1
      rw [hp] at HR
      clear hp
      go_wp2
      exact HR.out _ _ ⟨rfl, rfl⟩
theorem mget_mput (kv : List (Int × Value)) (x k : Int) (v : Value) : mget (mput kv x v) k = if k = x then some v else mget kv k := by
  unfold mput
  split
  · next h =>
    unfold mget at h ⊢
    induction kv with
    | nil => simp at h
    | cons p kv ih =>
      simp only [List.map_cons, List.find?_cons]
      by_cases hp : p.1 = x
      · have e : (p.1 == x) = true := by simp [hp]
        simp only [e, if_true]
        by_cases hk : k = x
        · subst hk; simp [hp]
        · have e2 : (p.1 == k) = false := by simp [hp]; exact fun h => hk h.symm
          simp only [e2, if_neg hk]
          clear ih h
          induction kv with
          | nil => rfl
          | cons q kv ih =>
            simp only [List.map_cons, List.find?_cons]
            by_cases hq : q.1 = x
            · have e3 : (q.1 == x) = true := by simp [hq]
              have e4 : (q.1 == k) = false := by simp [hq]; exact fun h => hk h.symm
              simp only [e3, if_true, e4]
              exact ih
            · have e3 : (q.1 == x) = false := by simp [hq]
              simp only [e3, Bool.false_eq_true, if_false]
              cases hqk : q.1 == k
              · exact ih
              · rfl
      · have e : (p.1 == x) = false := by simp [hp]
        simp only [e, Bool.false_eq_true, if_false]
        simp only [List.find?_cons, e] at h
        cases hpk : p.1 == k
        · exact ih h
        · have : k ≠ x := fun e => hp (by rw [← e]; simpa using hpk)
          simp [this]
  · next h =>
    unfold mget at h ⊢
    rw [List.find?_append]
    by_cases hk : k = x
    · subst hk
      have : (kv.find? fun p => p.1 == k) = none := by
        cases e : kv.find? fun p => p.1 == k with
        | none => rfl
        | some y => rw [e] at h; exact absurd rfl h
      simp [this]
    · rw [if_neg hk]
      have : ([(x, v)].find? fun p => p.1 == k) = none := by simp; exact fun h => hk h.symm
      rw [this]
      simp
/-- How often each number came: a map from ints to ints. -/
def CntMap (w : World) (b : Nat) (l : List Int) : Prop := ∃ kv, IMap w b kv ∧ ∀ x, (mget kv x).getD (.int .i64 0) = .int .i64 ((l.count x : Nat) : Int)
theorem CntMap.lookup {w : World} {b : Nat} {l : List Int} (h : CntMap w b l) (x : Int) : (Instr.lookup 79 (.map (some b)) (.int .i64 x) false).run Try.prog w = .ok (.int .i64 ((l.count x : Nat) : Int)) w := by
  obtain ⟨kv, h1, h2⟩ := h
  have := h1.lookup Try.underlying79 Try.underlying3 (Try.zeroValue3 w) x false
  simp only [Bool.false_eq_true, if_false] at this
  rw [h2 x] at this
  exact this
theorem CntMap.put {w : World} {b : Nat} {l : List Int} {kv : List (Int × Value)} {ob : Obj} {x : Int} (h2 : ∀ x, (mget kv x).getD (.int .i64 0) = .int .i64 ((l.count x : Nat) : Int)) (h : IMap (setBlock w b ob) b (mput kv x (.int .i64 ((l.count x : Nat) + 1 : Int)))) : CntMap (setBlock w b ob) b (l ++ [x]) := by
  refine ⟨_, h, fun y => ?_⟩
  rw [mget_mput, List.count_append]
  by_cases e : y = x
  · subst e; simp
  · rw [if_neg e, h2 y]
    have : [x].count y = 0 := by rw [List.count_singleton]; simp; exact fun h => e h.symm
    rw [this]; simp
theorem CntMap.grow {w w' : World} {b : Nat} {l : List Int} (h : CntMap w b l) (hb : w'.heap[b]? = w.heap[b]?) : CntMap w' b l := by
  obtain ⟨kv, h1, h2⟩ := h
  exact ⟨kv, h1.of_blk hb, h2⟩
theorem CntMap.new (w : World) : CntMap (w.alloc (.map #[] 0)) w.heap.size [] := ⟨[], IMap.new w, fun x => rfl⟩
def FndS (w wr : World) (l : List Int) (i s j u : Int) (k : Nat) : Prop :=
  CntMap wr (w.heap.size + 1) (l.take k) ∧ wr.heap[w.heap.size]? = some (.cells #[.int .i64 i, .int .i64 s, .int .i64 j, .int .i64 u] 35 (0, 0)) ∧ Grow w wr ∧ ∀ q, q < k → isPl l j u q = false
theorem FndS.next {w wr : World} {l : List Int} {i s j u : Int} {k : Nat} {kv : List (Int × Value)} {ob : Obj} (h : FndS w wr l i s j u k) (hk : k < l.length) (hn : isPl l j u k = false)
    (h2 : ∀ x, (mget kv x).getD (.int .i64 0) = .int .i64 (((l.take k).count x : Nat) : Int)) (him : IMap (setBlock wr (w.heap.size + 1) ob) (w.heap.size + 1) (mput kv l[k] (.int .i64 (((l.take k).count l[k] : Nat) + 1 : Int)))) : FndS w (setBlock wr (w.heap.size + 1) ob) l i s j u (k + 1) := by
  refine ⟨?_, ?_, h.2.2.1.block _ _ (by omega), fun q hq => ?_⟩
  · rw [List.take_succ_eq_append_getElem hk]
    exact CntMap.put h2 him
  · rw [blk_block_other (by omega)]; exact h.2.1
  · by_cases e : q = k
    · subst e; exact hn
    · exact h.2.2.2 q (by omega)
set_option maxRecDepth 100000 in
set_option maxHeartbeats 2000000 in
theorem finds_any {w : World} {A : Option Addr} {ca : Nat} {l : List Int} (h : IntsAt w A l) (hl : l.length ≤ 1000) (i s j u : Int) : Calls Try.prog 47 #[.slice A l.length ca, bugV i s j u] w (BoolG w (fnd l i s j u)) := by
  refine cph fun R HR => ?_
  have H := Lib.hid h
  clear h
  unfold bugV
  have hmm := @run_makeMap Try.prog
  go_enter Try.func47, Try.ntmps47
  go_wp2_with fail
  clear hmm
  go_loopw [11] (fun n wr => ∃ k : Nat, k ≤ l.length ∧ n = .int .i64 k ∧ Hid (FndS w wr l i s j u k)) (fun n _ => l.length - (intOf n).toNat)
  case atStart =>
    refine ⟨0, Nat.zero_le _, rfl, ?_, ?_, ((Grow.refl w).alloc _).alloc _, fun q hq => by omega⟩
    · have := CntMap.new (w.alloc (.cells #[.int .i64 i, .int .i64 s, .int .i64 j, .int .i64 u] 35))
      rw [World.size_alloc] at this
      exact this
    · exact blk_alloc' _ (blk_new w _)
  case round =>
    obtain ⟨k, hk, rfl, HS⟩ := hrel
    by_cases hlt : k < l.length
    · have hki : (k : Int) < (l.length : Int) := by omega
      obtain ⟨b, off, rfl, hc⟩ := (H.out.grow HS.out.2.2.1).at_ hlt
      have c0 : wr.cell? ⟨w.heap.size, 0, none⟩ = some (.int .i64 i) := by rw [blk_cell HS.out.2.1]; rfl
      have c1 : wr.cell? ⟨w.heap.size, 1, none⟩ = some (.int .i64 s) := by rw [blk_cell HS.out.2.1]; rfl
      have c2 : wr.cell? ⟨w.heap.size, 2, none⟩ = some (.int .i64 j) := by rw [blk_cell HS.out.2.1]; rfl
      have c3 : wr.cell? ⟨w.heap.size, 3, none⟩ = some (.int .i64 u) := by rw [blk_cell HS.out.2.1]; rfl
      obtain ⟨kv, hI, hkv⟩ := HS.out.1
      have hlk := HS.out.1.lookup
      have hpl : isPl l j u k = decide (l[k] = j ∧ ((l.take k).count j : Int) = u) := by unfold isPl; rw [List.getElem?_eq_getElem hlt]; simp
      have hcl : ∀ x, (l.take k).count x ≤ 1000 := fun x => Nat.le_trans (Nat.le_trans List.count_le_length (List.length_take_le _ _)) (by omega)
      have HX := Lib.hid (And.intro hI (And.intro hkv hpl))
      have HN : Hid (∀ ob, isPl l j u k = false → IMap (setBlock wr (w.heap.size + 1) ob) (w.heap.size + 1) (mput kv l[k] (.int .i64 (((l.take k).count l[k] : Nat) + 1 : Int))) → FndS w (setBlock wr (w.heap.size + 1) ob) l i s j u (k + 1)) := fun ob hn him => HS.out.next hlt hn hkv him
      clear hI hkv hpl
      generalize l[k] = x at hc HX HN
      by_cases e : x = j
      · subst e
        by_cases es : (((l.take k).count x : Nat) : Int) = u
        · have hp : plc l x u = k := plc_eq (by rw [HX.out.2.2]; simp [es])
          have hf : fnd l i s x u = decide ((((l.take k).count i : Nat) : Int) = s) := by
            unfold fnd; rw [hp]; simp [hlt]
          rw [hf] at HR
          have es' : ((((l.take k).count x : Nat) : Int) == u) = true := by simp [es]
          have hl1 := hlk x
          have hl2 := hlk i
          have hG := Lib.hid HS.out.2.2.1
          clear hp hf hlk hcl
          generalize (l.take k).count x = nx at hl1 es' es HX HN
          generalize (l.take k).count i = ni at hl2 HR
          clear es HX HN
          go_wp2_with fail
          refine HR.out _ _ ⟨by simp [BEq.beq], hG.out⟩
        · have es' : ((((l.take k).count x : Nat) : Int) == u) = false := by simp [es]
          have hl1 := hlk x
          have hnn : isPl l x u k = false := by rw [HX.out.2.2]; simp [es]
          have hcx := hcl x
          have HY := Lib.hid hnn
          clear hlk hcl es hnn
          generalize (l.take k).count x = nx at hl1 es' HX HN hcx
          go_wp2_with (at_mapUpdate; refine wpList_mput rfl _ _ _ rfl HX.out.1 Try.underlying79 Try.underlying3 _ _ rfl rfl rfl ?_; intro ob him)
          go_roundw
          case rel => exact ⟨k + 1, by omega, by go_num, HN.out ob HY.out him⟩
          case measure => simp [intOf]; omega
      · have e' : (x == j) = false := by simp [e]
        have hl1 := hlk x
        have hnn : isPl l j u k = false := by rw [HX.out.2.2]; simp [e]
        have hcx := hcl x
        have HY := Lib.hid hnn
        clear hlk hcl hnn e
        generalize (l.take k).count x = nx at hl1 HX HN hcx
        go_wp2_with (at_mapUpdate; refine wpList_mput rfl _ _ _ rfl HX.out.1 Try.underlying79 Try.underlying3 _ _ rfl rfl rfl ?_; intro ob him)
        go_roundw
        case rel => exact ⟨k + 1, by omega, by go_num, HN.out ob HY.out him⟩
        case measure => simp [intOf]; omega
    · have hki : ¬ (k : Int) < (l.length : Int) := by omega
      have hf : fnd l i s j u = false := by
        unfold fnd
        rcases plc_spec l j u with ⟨h1, h2⟩ | ⟨h1, _⟩
        · rw [HS.out.2.2.2 _ (by omega)] at h2; cases h2
        · rw [h1]; simp
      rw [hf] at HR
      have hG := Lib.hid HS.out.2.2.1
      clear hf
      go_wp2_with fail
      exact HR.out _ _ ⟨rfl, hG.out⟩
end Go.Proofs.Ytacfchepacfjnaa
