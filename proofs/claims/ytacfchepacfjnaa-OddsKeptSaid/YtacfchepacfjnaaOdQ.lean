/- All priorities: Orders, Lists, the reference's Orders. -/
import Derived.Test.YtacfchepacfjnaaOdP
set_option linter.unusedVariables false
set_option linter.unusedSimpArgs false
namespace Go.Proofs.Ytacfchepacfjnaa
open Go.RowKit Go.Kx Go.Maps Go.Sort Go.Shelf
theorem ordersAt0 : OrdersAt 0 := by
  intro l hl d hd Bs A cap W hB hI hc1 hc2 hA
  obtain rfl : l = [] := List.eq_nil_of_length_eq_zero hl
  exact orders0_seq d hd Bs A cap W hB
theorem ordersAt (n : Nat) (hn : n ≤ 4) : OrdersAt n := by
  induction n with
  | zero => exact ordersAt0
  | succ n ih => exact orders_step n hn (ih (by omega))
theorem ords_len24 (m : Nat) (h : m ≤ 4) : (ords m (numL m)).length ≤ 24 := by
  match m, h with
  | 0, _ => decide +kernel
  | 1, _ => decide +kernel
  | 2, _ => decide +kernel
  | 3, _ => decide +kernel
  | 4, _ => decide +kernel
/-- A list of lists in memory. -/
def ListsAt (w : World) (A : Option Addr) (ls : List (List Int)) : Prop := ls = [] ∨ ∃ b off, A = some ⟨b, off, none⟩ ∧ ∀ (j : Nat) (l : List Int), ls[j]? = some l → ∃ A' cap, w.cell? ⟨b, off + j, none⟩ = some (.slice A' l.length cap) ∧ IntsAt w A' l ∧ (A' = none → cap = 0)
theorem ListsAt.grow {w w' : World} {A : Option Addr} {ls : List (List Int)} (h : ListsAt w A ls) (hg : Grow w w') : ListsAt w' A ls :=
  h.imp id fun ⟨b, off, h1, h2⟩ => ⟨b, off, h1, fun j l hl => by obtain ⟨A', c, h3, h4, h5⟩ := h2 j l hl; exact ⟨A', c, hg.cell h3, h4.grow hg, h5⟩⟩
theorem ListsAt.at_ {w : World} {A : Option Addr} {ls : List (List Int)} (h : ListsAt w A ls) {j : Nat} (hj : j < ls.length) : ∃ b off, A = some ⟨b, off, none⟩ ∧ ∃ A' cap, w.cell? ⟨b, off + j, none⟩ = some (.slice A' ls[j].length cap) ∧ IntsAt w A' ls[j] ∧ (A' = none → cap = 0) := by
  rcases h with rfl | ⟨b, off, h1, h2⟩
  · simp at hj
  · exact ⟨b, off, h1, h2 j _ (List.getElem?_eq_getElem hj)⟩
theorem rdP_ints {x : Elt} {w : World} (h : RdP x w) : IntsAt w x.1.1 x.2 ∧ x.1.2.1 = x.2.length ∧ (x.1.1 = none → x.1.2.2 = 0) ∧ ∀ k, bk x k → k < w.heap.size := by
  obtain ⟨A, cap, e, hi, _⟩ := ints_of_own h
  have h2 : x.1.1 = A ∧ x.1.2.1 = x.2.length ∧ x.1.2.2 = cap := by
    have := e; unfold encV at this; injection this with a b c; exact ⟨a, b, c⟩
  refine ⟨by rw [h2.1]; exact hi, h2.2.1, fun e0 => ?_, fun k hk => (h.lt k hk).2⟩
  rcases h.2 with ⟨e1, _⟩ | ⟨g, c, cur, e1, _⟩
  · unfold encV at e1; injection e1
  · unfold encV at e1; injection e1 with a; rw [e0] at a; cases a
/-- A made list of lists. -/
def Lst (w : World) (base : Nat) (v : Value) (xs : List Elt) : Prop := w.ownsRow base 22 1 v xs.length (xs.map encV) ∧ ∀ x ∈ xs, RdP x w
theorem lists_of_lst {w : World} {base : Nat} {v : Value} {xs : List Elt} (h : Lst w base v xs) : ∃ A cap, v = .slice A (xs.map Prod.snd).length cap ∧ ListsAt w A (xs.map Prod.snd) ∧ (A = none → cap = 0) := by
  obtain ⟨h, hx⟩ := h
  rcases h.2 with ⟨rfl, h0⟩ | ⟨g, cap, cur, rfl, hb, hg, h1, h2, h3, h4⟩
  · have : xs = [] := List.eq_nil_of_length_eq_zero (by omega)
    subst this
    exact ⟨none, 0, rfl, .inl rfl, fun _ => rfl⟩
  · refine ⟨some ⟨g, 0, none⟩, cap, by simp, .inr ⟨g, 0, rfl, fun j l hl => ?_⟩, fun e => by cases e⟩
    rw [List.getElem?_map, Option.map_eq_some_iff] at hl
    obtain ⟨x, hxj, rfl⟩ := hl
    have := h.cells (g := g) (by simp [Value.ownBlock]) j (encV x) (by simp [hxj])
    rw [Addr.add_lit] at this
    obtain ⟨h5, h6, h7, _⟩ := rdP_ints (hx x (List.mem_of_getElem? hxj))
    refine ⟨x.1.1, x.1.2.2, ?_, h5, h7⟩
    rw [this, encV, h6]
/-- What Orders leaves. -/
def OrdP (w : World) (ok : Bool) (ls : List (List Int)) (e : Ending) (w' : World) : Prop :=
  ∃ v xs, e = .returned (.tuple #[v, .int .i64 (if ok then 0 else 1)]) ∧ xs.map Prod.snd = (if ok then ls else []) ∧ Lst w' w.heap.size v xs ∧ Grow w w'
set_option maxHeartbeats 1000000 in
theorem orders_no (w : World) (m : Int) (h : m < 1 ∨ 4 < m) : Calls Try.prog 26 #[.int .i64 m] w (OrdP w false []) := by
  refine cph fun R HR => ?_
  rcases h with h | h
  · go_enter Try.func26, Try.ntmps26
    go_wp2_with fail
    exact HR.out _ _ ⟨_, [], rfl, rfl, ⟨World.ownsRow_nil _ _ _ _, by simp⟩, Grow.refl _⟩
  · have h1 : ¬ m < 1 := by omega
    go_enter Try.func26, Try.ntmps26
    go_wp2_with fail
    exact HR.out _ _ ⟨_, [], rfl, rfl, ⟨World.ownsRow_nil _ _ _ _, by simp⟩, Grow.refl _⟩
set_option maxHeartbeats 2000000 in
theorem orders_yes (w : World) (m : Nat) (h1 : 1 ≤ m) (h4 : m ≤ 4) : Calls Try.prog 26 #[.int .i64 m] w (OrdP w true (ords m (numL m))) := by
  refine cph fun R HR => ?_
  have HN := Lib.hid (numbers_any w m h4)
  have hm1 : ¬ (m : Int) < 1 := by omega
  have hm4 : ¬ (4 : Int) < (m : Int) := by omega
  go_enter Try.func26, Try.ntmps26
  go_wp2_with (go_at_call 51; refine HN.out.mono ?_)
  rintro e w1 ⟨v, rfl, hrow, hg⟩
  have hrow0 := hrow
  obtain ⟨A, cap, rfl, hi, hb⟩ := ints_of_own hrow
  rw [numL_len] at hrow0 hb
  rw [numL_len]
  have hcap : m ≤ cap ∧ cap ≤ maxLen ∧ (numL m = [] ∨ A ≠ none) := by
    rcases hrow0.2 with ⟨e, h0⟩ | ⟨g, c3, cur, e, hb1, hb2, hb3, hb4, _⟩
    · omega
    · cases e
      exact ⟨hb3, hb4, .inr (by simp)⟩
  have HO := Lib.hid (callsIn_wide.1 (orders_in 1 A m cap w1))
  have hB : Boxed (w1.alloc (.cells #[.slice A m cap] 22)) w1.heap.size 22 (.slice A m cap) := Boxed.new w1 22 _
  have hI2 : IntsAt (w1.alloc (.cells #[.slice A m cap] 22)) A (numL m) := hi.grow ((Grow.refl w1).alloc _)
  have hown : ∀ k, ownO w1.heap.size A (numL m) k → k < (w1.alloc (.cells #[.slice A m cap] 22)).heap.size := by
    rintro k (rfl | ⟨_, hk⟩)
    · exact hB.lt
    · have := (hrow0.lt k (hb k hk)).2
      rw [World.size_alloc]; omega
  have HC := Lib.hid ((callsIn_wide (n := 4)).1 (collectL_in 4 (by omega) (gf := 60) (lb := #[.pointer (some ⟨w1.heap.size, 0, none⟩)]) (enters_of Try.func60 (by kernel_rfl) rfl) (w1.alloc (.cells #[.slice A m cap] 22)) (Prod.fst : Elt → Option Addr × Nat × Nat) (RdL m) bk (fun x => rdL_own m x) (fun x M W W' => rdL_fr m x M W W') (S := fun ys => ys.map Prod.snd = ords m (numL m)) (N := (ords m (numL m)).length) (by have := ords_len24 m h4; omega) hown
    (fun W n hn hg => ordersAt m h4 (numL m) (numL_len m) n hn w1.heap.size A cap W (hg.at_ hB) (hI2.grow hg) hcap.1 hcap.2.1 hcap.2.2)))
  have HG := Lib.hid hg
  clear hg hrow hrow0 hi hb hcap hB hI2 hown HN
  go_wp2_with (first | (go_at_call 50; refine HO.out.mono ?_; rintro e w' ⟨rfl, rfl⟩) | (go_at_call 49; refine HC.out.mono ?_; rintro e w2 ⟨v2, xs, hS, rfl, hrow2, hx2, hg2⟩; have H2 := Lib.hid (And.intro hS (And.intro hrow2 (And.intro hx2 hg2))); clear hS hrow2 hx2 hg2))
  obtain ⟨hS, hrow2, hx2, hg2⟩ := H2.out
  exact HR.out _ _ ⟨_, xs, rfl, hS, ⟨own_base_le hrow2 (by rw [World.size_alloc]; have := HG.out.size; omega), fun x hx => (hx2 x hx).1⟩, (HG.out.alloc _).trans hg2⟩
/-! ### the reference's Orders -/
def adds (l : List Int) (k : Nat) : List (List Int) := (List.range k).filterMap fun j : Nat => if (l.any fun x => decide (x = (j : Int) + 1)) = true then none else some (l ++ [(j : Int) + 1])
theorem adds_succ_yes {l : List Int} {k : Nat} (h : (l.any fun x => decide (x = (k : Int) + 1)) = true) : adds l (k + 1) = adds l k := by
  unfold adds; rw [List.range_succ, List.filterMap_append]; simp only [List.filterMap_cons, h, if_true, List.filterMap_nil, List.append_nil]
theorem adds_succ_no {l : List Int} {k : Nat} (h : (l.any fun x => decide (x = (k : Int) + 1)) = false) : adds l (k + 1) = adds l k ++ [l ++ [(k : Int) + 1]] := by
  unfold adds; rw [List.range_succ, List.filterMap_append]; simp only [List.filterMap_cons, h, Bool.false_eq_true, if_false, List.filterMap_nil]
theorem adds_len (l : List Int) (k : Nat) : (adds l k).length ≤ k := by
  unfold adds; exact Nat.le_trans (List.length_filterMap_le _ _) (by simp)
def nexts (m : Nat) (out : List (List Int)) : List (List Int) := out.flatMap fun l => adds l m
theorem nexts_take {m : Nat} {out : List (List Int)} {i : Nat} (h : i < out.length) : nexts m (out.take (i + 1)) = nexts m (out.take i) ++ adds out[i] m := by
  unfold nexts; rw [List.take_succ_eq_append_getElem h, List.flatMap_append]; simp
theorem nexts_len (m : Nat) (out : List (List Int)) : (nexts m out).length ≤ out.length * m := by
  unfold nexts
  induction out with
  | nil => simp
  | cons l out ih => rw [List.flatMap_cons, List.length_append, List.length_cons, Nat.add_mul, Nat.one_mul]; have := adds_len l m; omega
def outs (m : Nat) : Nat → List (List Int)
  | 0 => [[]]
  | n + 1 => nexts m (outs m n)
theorem outs_ok (m : Nat) (hm : m ≤ 4) (n : Nat) (hn : n ≤ m) : (outs m n).length ≤ 24 ∧ ∀ l ∈ outs m n, l.length ≤ 4 := by
  have : ∀ m ∈ List.range 5, ∀ n ∈ List.range (m + 1), (outs m n).length ≤ 24 ∧ ∀ l ∈ outs m n, l.length ≤ 4 := by decide +kernel
  exact this m (by simp; omega) n (by simp; omega)
theorem outs_ords (m : Nat) (hm : m ≤ 4) : outs m m = ords m (numL m) := by
  have : ∀ m ∈ List.range 5, outs m m = ords m (numL m) := by decide +kernel
  exact this m (by simp; omega)
/-- The list that grows within a round: its elements lie elsewhere. -/
def NextSt (w : World) (B : Nat) (v : Value) (ys : List Elt) : Prop := w.ownsRow B 22 1 v ys.length (ys.map encV) ∧ ∀ y ∈ ys, RdP y w ∧ ∀ k, bk y k → v.ownBlock ≠ some k
theorem app2 {w w1 w2 : World} {c v : Value} {l : List Int} {x : Int} {o : Obj} (h1 : w1.ownsRow w.heap.size 3 1 c l.length (l.map (Value.int .i64))) (hg : Grow w w1) (h2 : w2.ownsRow w.heap.size 3 1 v (l.length + 1) (l.map (Value.int .i64) ++ [.int .i64 x])) (hgr : (w1.alloc o).grownBy w2 c.ownBlock) :
    w2.ownsRow w.heap.size 3 1 v (l.length + 1) ((l ++ [x]).map (Value.int .i64)) ∧ Grow w w2 ∧ ∀ k, v.ownBlock = some k → w.heap.size ≤ k :=
  ⟨by simpa using h2, (hg.alloc o).grown hgr (fun k e => (h1.lt k e).1), fun k e => (h2.lt k e).1⟩
theorem next_step {w w2 w3 : World} {B : Nat} {v v' : Value} {ys : List Elt} {x : Elt} {tmp : Obj} (h : NextSt w B v ys) (hg : Grow w w2) (hx : RdP x w2) (hxb : ∀ k, bk x k → w.heap.size ≤ k)
    (hown : w3.ownsRow B 22 1 v' (ys.length + 1) (ys.map encV ++ [encV x])) (hgrow : (w2.alloc tmp).grownBy w3 v.ownBlock) (hat : v'.ownBlock = v.ownBlock ∨ v'.ownBlock = some (w2.alloc tmp).heap.size) : NextSt w3 B v' (ys ++ [x]) := by
  have hk : ∀ y : Elt, RdP y w2 → (∀ k, bk y k → v.ownBlock ≠ some k) → RdP y w3 ∧ ∀ k, bk y k → v'.ownBlock ≠ some k := fun y hy hb => by
    refine ⟨?_, fun k hk e => ?_⟩
    · have : RdP y (w2.alloc tmp) := rdP_fr y (fun _ => False) _ _ hy (fun k hk => ⟨(rdP_ints hy).2.2.2 k hk, fun h => h⟩) ((Grow.refl w2).alloc _)
      refine World.ownsRow.kept this hgrow ?_
      by_cases h0 : (encV y).ownBlock = none
      · exact .inl h0
      · obtain ⟨k, hk⟩ := Option.ne_none_iff_exists'.1 h0
        exact .inr (fun e => hb k hk (by rw [← e, hk]))
    · rcases hat with e2 | e2
      · exact hb k hk (e2 ▸ e)
      · rw [e2] at e; cases e
        have := (rdP_ints hy).2.2.2 _ hk
        rw [World.size_alloc] at this; omega
  refine ⟨by simpa using hown, fun y hy => ?_⟩
  rcases List.mem_append.1 hy with hy | hy
  · obtain ⟨h1, h2⟩ := h.2 y hy
    exact hk y (rdP_fr y (fun _ => False) _ _ h1 (fun k hk => ⟨(rdP_ints h1).2.2.2 k hk, fun h => h⟩) hg) h2
  · rw [List.mem_singleton.1 hy]
    refine hk x hx fun k hk e => ?_
    have := (h.1.lt k e).2
    have := hxb k hk
    omega
set_option maxHeartbeats 1000000 in
theorem lists_any {w : World} {A B : Option Addr} {c d : Nat} {l k : List (List Int)} (h1 : ListsAt w A l) (h2 : ListsAt w B k) (hl : l.length ≤ 1000000) (hi : ∀ x ∈ l, x.length ≤ 1000000) :
    Calls Try.prog 27 #[.slice A l.length c, .slice B k.length d] w (EqP w (l == k)) := by
  refine cph fun R HR => ?_
  by_cases hlen : l.length = k.length
  · have H1 := Lib.hid h1
    have H2 := Lib.hid h2
    have HL := Lib.hid (And.intro hlen hi)
    clear h1 h2 hi
    rw [← hlen]
    clear hlen
    go_enter Try.func27, Try.ntmps27
    go_wp2_with fail
    go_loopw [5] (fun i wr => ∃ n : Nat, n ≤ l.length ∧ i = .int .i64 n ∧ Hid (l.take n = k.take n) ∧ Grow w wr) (fun i _ => l.length - (intOf i).toNat)
    case atStart => exact ⟨0, Nat.zero_le _, rfl, by show _ = _; simp, Grow.refl _⟩
    case round =>
      obtain ⟨n, hn, rfl, HE, hg⟩ := hrel
      by_cases hlt : n < l.length
      · have hltk : n < k.length := by rw [← HL.out.1]; exact hlt
        obtain ⟨b1, o1, rfl, A1, c1, hc1, hi1, _⟩ := (H1.out.grow hg).at_ hlt
        obtain ⟨b2, o2, rfl, A2, c2, hc2, hi2, _⟩ := (H2.out.grow hg).at_ hltk
        have HI := Lib.hid (fun (w' : World) (h : Grow wr w') => ints_any (c := c1) (d := c2) (hi1.grow h) (hi2.grow h) (by have := HL.out.2 _ (List.getElem_mem hlt); omega))
        have HG := Lib.hid hg
        have hki : (n : Int) < (l.length : Int) := by omega
        clear hi1 hi2 hg
        by_cases he : l[n] = k[n]
        · have HT := Lib.hid (show l.take (n + 1) = k.take (n + 1) by rw [List.take_succ_eq_append_getElem hlt, List.take_succ_eq_append_getElem hltk, HE.out, he])
          have e2 : (l[n] == k[n]) = true := by simp [he]
          rw [e2] at HI
          clear he e2
          generalize l[n] = x at hc1 HI
          generalize k[n] = y at hc2 HI
          go_wp2_with fail
          go_region_with (go_at_call 19; refine (HI.out _ (by first | exact Grow.refl _ | exact (Grow.refl _).drew | exact (Grow.refl _).drewN _)).mono ?_; rintro e w' ⟨rfl, hg2⟩; have H5 := Lib.hid (HG.out.trans (Grow.trans (by first | exact Grow.refl _ | exact (Grow.refl _).drew | exact (Grow.refl _).drewN _) hg2)); clear hg2)
          all_goals
            go_wp2_with fail
            go_roundw
            case rel => exact ⟨n + 1, by omega, by go_num, HT, H5.out⟩
            case measure => simp [intOf]; omega
        · have e2 : (l[n] == k[n]) = false := by simp [he]
          have e3 : (l == k) = false := by
            rw [beq_eq_false_iff_ne]
            intro h
            refine he ?_
            subst h
            rfl
          rw [e2] at HI
          rw [e3] at HR
          clear he e2 e3
          generalize l[n] = x at hc1 HI
          generalize k[n] = y at hc2 HI
          go_wp2_with fail
          go_region_with (go_at_call 19; refine (HI.out _ (by first | exact Grow.refl _ | exact (Grow.refl _).drew | exact (Grow.refl _).drewN _)).mono ?_; rintro e w' ⟨rfl, hg2⟩; have H5 := Lib.hid (HG.out.trans (Grow.trans (by first | exact Grow.refl _ | exact (Grow.refl _).drew | exact (Grow.refl _).drewN _) hg2)); clear hg2)
          all_goals
            go_wp2_with fail
            exact HR.out _ _ ⟨rfl, H5.out⟩
      · have e : (l == k) = true := by
          have := HE.out
          rw [List.take_of_length_le (by omega), List.take_of_length_le (by have := HL.out.1; omega)] at this
          simp [this]
        rw [e] at HR
        have HG := Lib.hid hg
        have hki : ¬ (n : Int) < (l.length : Int) := by omega
        clear e hg
        go_wp2_with fail
        exact HR.out _ _ ⟨rfl, HG.out⟩
  · have e : (l == k) = false := by
      simp only [beq_eq_false_iff_ne]
      rintro rfl
      exact hlen rfl
    rw [e] at HR
    clear e h1 h2
    have hn : ((l.length : Int) == (k.length : Int)) = false := by simp; omega
    go_enter Try.func27, Try.ntmps27
    go_wp2_with fail
    exact HR.out _ _ ⟨rfl, Grow.refl _⟩
/-- What the reference's Orders leaves. -/
def RefOrdP (w : World) (ls : List (List Int)) (e : Ending) (w' : World) : Prop := ∃ v xs, e = .returned v ∧ xs.map Prod.snd = ls ∧ Lst w' w.heap.size v xs ∧ Grow w w'
theorem app3 {w0 w w2 w3 : World} {v v' : Value} {ys : List Elt} {g c n : Nat} {l : List Int} {o : Obj} (h : NextSt w w0.heap.size v ys) (h0 : Grow w0 w) (h2 : w2.ownsRow w.heap.size 3 1 (.slice (some ⟨g, 0, none⟩) n c) n (l.map (Value.int .i64)) ∧ Grow w w2 ∧ ∀ k, (Value.slice (some ⟨g, 0, none⟩) n c).ownBlock = some k → w.heap.size ≤ k)
    (hown : w3.ownsRow w0.heap.size 22 1 v' (ys.length + 1) (ys.map encV ++ [.slice (some ⟨g, 0, none⟩) n c])) (hgrow : (w2.alloc o).grownBy w3 v.ownBlock) (hat : v'.ownBlock = v.ownBlock ∨ v'.ownBlock = some (w2.alloc o).heap.size) : NextSt w3 w0.heap.size v' (ys ++ [((some ⟨g, 0, none⟩, n, c), l)]) ∧ Grow w0 w3 := by
  have hn : l.length = n := by have := h2.1.1; simpa using this
  refine ⟨next_step (x := ((some ⟨g, 0, none⟩, n, c), l)) h h2.2.1 ?_ h2.2.2 hown hgrow hat, ((h0.trans h2.2.1).alloc o).grown hgrow (fun k e => (h.1.lt k e).1)⟩
  · show w2.ownsRow 0 3 1 (.slice (some ⟨g, 0, none⟩) n c) l.length (l.map (Value.int .i64))
    rw [hn]
    exact own_base_le h2.1 (Nat.zero_le _)
set_option maxRecDepth 100000 in
set_option maxHeartbeats 4000000 in
theorem refOrders_any (w : World) (m : Nat) (h4 : m ≤ 4) : Calls Try.prog 28 #[.int .i64 m] w (RefOrdP w (outs m m)) := by
  refine cph fun R HR => ?_
  obtain ⟨i0, hi, hz0, hz1, hz2⟩ := info_parts info3x
  obtain ⟨j0, hj, hy0, hy1, hy2⟩ := info_parts info22x
  have HI := Lib.hid (And.intro hi (And.intro hz0 (And.intro hz1 hz2)))
  have HJ := Lib.hid (And.intro hj (And.intro hy0 (And.intro hy1 hy2)))
  clear hi hz0 hz1 hz2 hj hy0 hy1 hy2
  have hrow : Hid (Lst (w.alloc (.cells #[.slice none 0 0] 22)) w.heap.size (.slice (some ⟨w.heap.size, 0, none⟩) 1 1) [((none, 0, 0), [])]) := ⟨World.ownsRow_lit w #[.slice none 0 0] 1 (Nat.le_refl _) (by unfold maxLen; omega) rfl, fun x hx => by rw [List.mem_singleton.1 hx]; exact World.ownsRow_nil _ _ _ _⟩
  go_enter Try.func28, Try.ntmps28
  go_wp2_with fail
  go_loopw [3, 4] (fun v i wr => ∃ (n : Nat) (xs : List Elt), n ≤ m ∧ i = .int .i64 n ∧ Hid (Lst wr w.heap.size v xs ∧ xs.map Prod.snd = outs m n ∧ Grow w wr)) (fun _ i _ => m - (intOf i).toNat)
  case atStart => exact ⟨0, _, Nat.zero_le _, rfl, hrow.out, rfl, (Grow.refl w).alloc _⟩
  case round =>
    obtain ⟨n, xs, hn, rfl, HO⟩ := hrel
    rename World => wo
    by_cases hlt : n < m
    · have hki : (n : Int) < (m : Int) := by omega
      obtain ⟨A, cap, hv, hls, _⟩ := lists_of_lst HO.out.1
      rw [HO.out.2.1] at hv hls
      subst hv
      have HA := Lib.hid hls
      have HB := Lib.hid (outs_ok m h4 n hn)
      have hb24 := (outs_ok m h4 n hn).1
      clear hls
      go_wp2_with fail
      go_loopw [5, 6] (fun v i w1 => ∃ (j : Nat) (ys : List Elt), j ≤ (outs m n).length ∧ i = .int .i64 j ∧ Hid (NextSt w1 wo.heap.size v ys ∧ ys.map Prod.snd = nexts m ((outs m n).take j) ∧ Grow wo w1)) (fun _ i _ => (outs m n).length - (intOf i).toNat)
      case atStart => exact ⟨0, [], Nat.zero_le _, rfl, ⟨World.ownsRow_nil _ _ _ _, by simp⟩, rfl, Grow.refl _⟩
      case round =>
        obtain ⟨j, ys, hjl, rfl, HN⟩ := hrel
        rename World => wn
        by_cases hjlt : j < (outs m n).length
        · have hji : (j : Int) < ((outs m n).length : Int) := by omega
          obtain ⟨l, hl⟩ : ∃ l, l = (outs m n)[j] := ⟨_, rfl⟩
          have hl4 : l.length ≤ 4 := by rw [hl]; exact HB.out.2 _ (List.getElem_mem hjlt)
          have HL := Lib.hid hl
          clear hl
          go_wp2_with fail
          go_loopw [5, 7] (fun v i w2 => ∃ (p : Nat) (zs : List Elt), p ≤ m ∧ i = .int .i64 ((p : Int) + 1) ∧ Hid (NextSt w2 wo.heap.size v zs ∧ zs.map Prod.snd = nexts m ((outs m n).take j) ++ adds l p ∧ Grow wo w2)) (fun _ i _ => m + 1 - (intOf i).toNat)
          case atStart => exact ⟨0, ys, Nat.zero_le _, rfl, HN.out.1, by rw [HN.out.2.1]; simp [adds], HN.out.2.2⟩
          case round =>
            obtain ⟨p, zs, hpm, rfl, HZ⟩ := hrel
            by_cases hplt : p < m
            · have hpi : (p : Int) + 1 ≤ (m : Int) := by omega
              obtain ⟨b, off, rfl, A1, c1, hc1, hi1, hA1⟩ := (HA.out.grow HZ.out.2.2).at_ hjlt
              rw [← HL.out] at hc1 hi1
              have HH := Lib.hid (has_any (cap := c1) hi1 ((p : Int) + 1) (by omega))
              have HC := Lib.hid (fun (w' : World) (h : Grow wr w') => copy_any (cap := c1) (hi1.grow h) hA1 (by omega))
              have hzl : zs.length ≤ 100 := by
                have h1 := congrArg List.length HZ.out.2.1
                rw [List.length_map, List.length_append] at h1
                have h2 := nexts_len m ((outs m n).take j)
                have h3 := adds_len l p
                have h5 : ((outs m n).take j).length ≤ 24 := by rw [List.length_take]; omega
                have h6 : ((outs m n).take j).length * m ≤ 24 * 4 := Nat.mul_le_mul h5 h4
                omega
              have hso := HZ.out.2.2.size
              clear hi1 hA1
              cases hany : l.any fun x => decide (x = (p : Int) + 1)
              · have HE := Lib.hid (adds_succ_no hany)
                rw [hany] at HH
                clear hany
                go_wp2_with (first | (go_at_call 40; refine HH.out.mono ?_; rintro e w' ⟨rfl, rfl⟩) | (go_at_call 41; refine (HC.out _ (Grow.refl _)).mono ?_; rintro e w1 ⟨c, rfl, hrow1, hg1⟩; have H1 := Lib.hid (And.intro hrow1 hg1); have hs1 := hg1.size; clear hrow1 hg1) | (at_builtin; refine wpList_append_own_at _ rfl (.tmp 37) (.tmp 39) 22 rfl wr.heap.size 3 i0 (.int .i64 0) 1 8 Try.underlying22 HI.out.1 HI.out.2.1 HI.out.2.2.1 HI.out.2.2.2 rfl (by decide) _ _ _ rfl (H1.out.1.alloc _) ⟨w1.heap.size, 0, none⟩ 1 1 [.int .i64 ((p : Int) + 1)] rfl rfl (cell_one_new _ _ _) (by simp [Value.oneCell']) (by unfold maxLen; omega) (by omega) (by rw [World.size_alloc]; omega) ?_; intro c2 w2 hown2 hgrow2 _ _; obtain ⟨g2, k2, rfl⟩ := own_form hown2 (by omega); have H2 := Lib.hid (app2 H1.out.1 H1.out.2 hown2 hgrow2); have hs2 := H2.out.2.1.size; clear hown2 hgrow2) | (at_builtin; refine wpList_append_own_at _ rfl (.tmp 32) (.tmp 41) 40 rfl wo.heap.size 22 j0 (.slice none 0 0) 1 24 Try.underlying40 HJ.out.1 HJ.out.2.1 HJ.out.2.2.1 HJ.out.2.2.2 rfl (by decide) _ _ _ rfl ((owns_fr HZ.out.1.1 H2.out.2.1 (fun _ _ h => h)).alloc _) ⟨w2.heap.size, 0, none⟩ 1 1 [.slice (some ⟨g2, 0, none⟩) (l.length + 1) k2] rfl rfl (cell_one_new _ _ _) (by simp [Value.oneCell']) (by unfold maxLen; omega) (by omega) (by rw [World.size_alloc]; omega) ?_; intro v3 w3 hown3 hgrow3 _ hat3; have H3 := Lib.hid (app3 HZ.out.1 HZ.out.2.2 H2.out hown3 hgrow3 hat3); clear hown3 hgrow3 hat3))
                go_roundw
                case rel => exact ⟨p + 1, zs ++ [((some ⟨g2, 0, none⟩, l.length + 1, k2), l ++ [(p : Int) + 1])], by omega, by go_num, H3.out.1, by rw [List.map_append, HZ.out.2.1, HE.out, List.append_assoc]; rfl, H3.out.2⟩
                case measure => simp [intOf]; omega
              · have HE := Lib.hid (adds_succ_yes hany)
                rw [hany] at HH
                clear hany
                go_wp2_with (go_at_call 40; refine HH.out.mono ?_; rintro e w' ⟨rfl, rfl⟩)
                go_roundw
                case rel => exact ⟨p + 1, zs, by omega, by go_num, HZ.out.1, by rw [HE.out]; exact HZ.out.2.1, HZ.out.2.2⟩
                case measure => simp [intOf]; omega
            · have hpi : ¬ (p : Int) + 1 ≤ (m : Int) := by omega
              obtain rfl : p = m := by omega
              go_wp2_with fail
              go_roundw
              case rel => exact ⟨j + 1, zs, by omega, by go_num, HZ.out.1, by rw [HZ.out.2.1, nexts_take hjlt, ← HL.out], HZ.out.2.2⟩
              case measure => simp [intOf]; omega
        · have hji : ¬ (j : Int) < ((outs m n).length : Int) := by omega
          go_wp2_with fail
          go_roundw
          case rel => 
            refine ⟨n + 1, ys, by omega, by go_num, ⟨own_base_le HN.out.1.1 HO.out.2.2.size, fun y hy => (HN.out.1.2 y hy).1⟩, ?_, HO.out.2.2.trans HN.out.2.2⟩
            rw [HN.out.2.1, List.take_of_length_le (by omega)]
            rfl
          case measure => simp [intOf]; omega
    · have hki : ¬ (n : Int) < (m : Int) := by omega
      obtain rfl : n = m := by omega
      go_wp2_with fail
      exact HR.out _ _ ⟨_, xs, rfl, HO.out.2.1, HO.out.1, HO.out.2.2⟩
theorem ordP_no {w w' : World} {ls : List (List Int)} {e : Ending} (h : OrdP w false ls e w') : ∃ A cap, e = .returned (.tuple #[.slice A 0 cap, .int .i64 1]) ∧ Grow w w' := by
  obtain ⟨v, xs, rfl, hx, hl, hg⟩ := h
  obtain ⟨A, cap, rfl, _, _⟩ := lists_of_lst hl
  exact ⟨A, cap, by simp [hx], hg⟩
theorem ordP_yes {w w' : World} {ls : List (List Int)} {e : Ending} (h : OrdP w true ls e w') : ∃ A cap, e = .returned (.tuple #[.slice A ls.length cap, .int .i64 0]) ∧ ListsAt w' A ls ∧ Grow w w' := by
  obtain ⟨v, xs, rfl, hx, hl, hg⟩ := h
  obtain ⟨A, cap, rfl, h1, _⟩ := lists_of_lst hl
  simp only [if_true] at hx
  rw [hx] at h1
  exact ⟨A, cap, by simp [hx], h1, hg⟩
theorem refOrdP_form {w w' : World} {ls : List (List Int)} {e : Ending} (h : RefOrdP w ls e w') : ∃ A cap, e = .returned (.slice A ls.length cap) ∧ ListsAt w' A ls ∧ Grow w w' := by
  obtain ⟨v, xs, rfl, hx, hl, hg⟩ := h
  obtain ⟨A, cap, rfl, h1, _⟩ := lists_of_lst hl
  rw [hx] at h1
  exact ⟨A, cap, by rw [hx], h1, hg⟩
set_option maxHeartbeats 2000000 in
theorem ordersLaw_any (w : World) (m : Int) : Calls Try.prog 6 #[.int .i64 m] w (TrueP w) := by
  refine cph fun R HR => ?_
  have HAW := Lib.hid (awake_any w)
  by_cases hm : m < 1 ∨ 4 < m
  · have HOf := Lib.hid (fun w1 => orders_no w1 m hm)
    go_enter Try.func6, Try.ntmps6
    go_wp2_with (first | (go_at_call 14; refine HAW.out.mono ?_; rintro e w1 ⟨rfl, hg1⟩; have H1 := Lib.hid hg1; clear hg1) | (go_at_call 26; refine (HOf.out _).mono ?_; rintro e w2 hp; obtain ⟨A2, c2, rfl, hg2⟩ := ordP_no hp; have H2 := Lib.hid (H1.out.trans hg2); clear hp hg2))
    all_goals exact HR.out _ _ ⟨rfl, H2.out⟩
  · obtain ⟨n, rfl⟩ : ∃ n : Nat, m = n := ⟨m.toNat, by omega⟩
    have HOf := Lib.hid (fun w1 => orders_yes w1 n (by omega) (by omega))
    have HRf := Lib.hid (fun w1 => refOrders_any w1 n (by omega))
    rw [outs_ords n (by omega)] at HRf
    have hn4 : n ≤ 4 := by omega
    have hm1 : ¬ (n : Int) < 1 := by omega
    have hm4 : ¬ (4 : Int) < n := by omega
    have HB := Lib.hid (And.intro (ords_len24 n hn4) (show ∀ l ∈ ords n (numL n), l.length ≤ 4 by rw [← outs_ords n hn4]; exact (outs_ok n hn4 n (Nat.le_refl _)).2))
    clear hm
    go_enter Try.func6, Try.ntmps6
    generalize ords n (numL n) = ls at HOf HRf HB
    go_wp2_with (first | (go_at_call 14; refine HAW.out.mono ?_; rintro e w1 ⟨rfl, hg1⟩; have H1 := Lib.hid hg1; clear hg1) | (go_at_call 26; refine (HOf.out _).mono ?_; rintro e w2 hp; obtain ⟨A2, c2, rfl, hl2, hg2⟩ := ordP_yes hp; have H2 := Lib.hid (And.intro hl2 (H1.out.trans hg2)); clear hp hg2 hl2) | (go_at_call 28; refine (HRf.out _).mono ?_; rintro e w3 hp; obtain ⟨A3, c3, rfl, hl3, hg3⟩ := refOrdP_form hp; have HQ := Lib.hid (And.intro (lists_any (c := c2) (d := c3) (H2.out.1.grow hg3) hl3 (by have := HB.out.1; omega) (fun x hx => by have := HB.out.2 x hx; omega)) (H2.out.2.trans hg3)); rw [show (ls == ls) = true by simp] at HQ; clear hp hg3 hl3) | (go_at_call 27; refine HQ.out.1.mono ?_; rintro e w4 ⟨rfl, hg4⟩; have H4 := Lib.hid (HQ.out.2.trans hg4); clear hg4))
    exact HR.out _ _ ⟨rfl, H4.out⟩
end Go.Proofs.Ytacfchepacfjnaa
