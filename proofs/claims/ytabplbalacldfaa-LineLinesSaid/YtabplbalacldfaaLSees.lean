/- What one cache's copy of a line becomes when another thread accesses it: contracts of (*copies).lost and (*copies).sees, for every copy that memory holds. -/
import Derived.Test.YtabplbalacldfaaProg
import Derived.Test.YtabplbalacldfaaKxB
import Derived.Deep.DeepCutAuto
import Derived.Deep.CutBlock
import Derived.Deep.QuietTactic
import Derived.BigQuiet
set_option linter.unusedVariables false
set_option linter.unusedSimpArgs false
namespace Go.Proofs.Ytabplbalacldfaa
open Go.RowKit Go.Kx
open Go.ChangeMaps (setBlock)
structure Copy where
  here : Bool
  own : Bool
  wasHere : Bool
  wasOwn : Bool
  listens : Bool
  others : List Int
/-- The copy x lies at offset o. -/
structure At (c : Array Value) (o : Nat) (x : Copy) (oth : Option Nat) : Prop where
  h0 : c[o]? = some (.bool x.here)
  h1 : c[o + 1]? = some (.bool x.own)
  h2 : c[o + 2]? = some (.bool x.wasHere)
  h3 : c[o + 3]? = some (.bool x.wasOwn)
  h4 : c[o + 4]? = some (.bool x.listens)
  h5 : c[o + 5]? = some (.map oth)
def setKv (l : List Int) : List (Int × Value) := l.map fun k => (k, Value.bool true)
def Oth (w : World) (oth : Option Nat) (x : Copy) : Prop :=
  match oth with
  | none => x.others = [] ∧ x.listens = false
  | some m => IMap w m (setKv x.others)
def Out (c c' : Array Value) (o : Nat) : Prop := ∀ j, (j < o ∨ o + 6 ≤ j) → c'[j]? = c[j]?
structure Seen (w w' : World) (b o : Nat) (c : Array Value) (T : TypeId) (oth : Option Nat) (x' : Copy) : Prop where
  ex : ∃ c' oth', w'.heap[b]? = some (.cells c' T (0, 0)) ∧ At c' o x' oth' ∧ Out c c' o ∧ Oth w' oth' x' ∧ (oth' = oth ∨ ∃ m, oth' = some m ∧ w.heap.size ≤ m)
  fr : Fr (fun k => k = b ∨ some k = oth) w w'
def Copy.lost (x : Copy) : Copy := { x with listens := true, others := [] }
theorem At.lt {c : Array Value} {o : Nat} {x : Copy} {oth : Option Nat} (h : At c o x oth) : o + 5 < c.size := (Array.getElem?_eq_some_iff.1 h.h5).1
theorem arr_get_set (c : Array Value) (i j : Nat) (v : Value) : (c.setIfInBounds i v)[j]? = if i = j then (if i < c.size then some v else none) else c[j]? := by
  rw [Array.getElem?_setIfInBounds]
theorem At.set0 {c : Array Value} {o : Nat} {x : Copy} {oth : Option Nat} (h : At c o x oth) (v : Bool) : At (c.setIfInBounds o (.bool v)) o { x with here := v } oth := by
  have := h.lt
  constructor <;> simp [arr_get_set, h.h1, h.h2, h.h3, h.h4, h.h5, show o < c.size by omega]
theorem At.set1 {c : Array Value} {o : Nat} {x : Copy} {oth : Option Nat} (h : At c o x oth) (v : Bool) : At (c.setIfInBounds (o + 1) (.bool v)) o { x with own := v } oth := by
  have := h.lt
  constructor <;> simp [arr_get_set, h.h0, h.h2, h.h3, h.h4, h.h5, show o + 1 < c.size by omega]
theorem At.set2 {c : Array Value} {o : Nat} {x : Copy} {oth : Option Nat} (h : At c o x oth) (v : Bool) : At (c.setIfInBounds (o + 2) (.bool v)) o { x with wasHere := v } oth := by
  have := h.lt
  constructor <;> simp [arr_get_set, h.h0, h.h1, h.h3, h.h4, h.h5, show o + 2 < c.size by omega]
theorem At.set3 {c : Array Value} {o : Nat} {x : Copy} {oth : Option Nat} (h : At c o x oth) (v : Bool) : At (c.setIfInBounds (o + 3) (.bool v)) o { x with wasOwn := v } oth := by
  have := h.lt
  constructor <;> simp [arr_get_set, h.h0, h.h1, h.h2, h.h4, h.h5, show o + 3 < c.size by omega]
theorem At.set4 {c : Array Value} {o : Nat} {x : Copy} {oth : Option Nat} (h : At c o x oth) (v : Bool) : At (c.setIfInBounds (o + 4) (.bool v)) o { x with listens := v } oth := by
  have := h.lt
  constructor <;> simp [arr_get_set, h.h0, h.h1, h.h2, h.h3, h.h5, show o + 4 < c.size by omega]
theorem At.set5 {c : Array Value} {o : Nat} {x : Copy} {oth : Option Nat} (h : At c o x oth) (m : Option Nat) (l : List Int) : At (c.setIfInBounds (o + 5) (.map m)) o { x with others := l } m := by
  have := h.lt
  constructor <;> simp [arr_get_set, h.h0, h.h1, h.h2, h.h3, h.h4, show o + 5 < c.size by omega]
theorem At.also {c : Array Value} {o : Nat} {x : Copy} {oth : Option Nat} (h : At c o x oth) (l : List Int) : At c o { x with others := l } oth := ⟨h.h0, h.h1, h.h2, h.h3, h.h4, h.h5⟩
theorem Out.refl (c : Array Value) (o : Nat) : Out c c o := fun _ _ => rfl
theorem Out.set {c c' : Array Value} {o : Nat} (h : Out c c' o) (i : Nat) (hi : i < 6) (v : Value) : Out c (c'.setIfInBounds (o + i) v) o := by
  intro j hj
  rw [arr_get_set, if_neg (by omega)]
  exact h j hj

theorem lost_any (w : World) (b o : Nat) (c : Array Value) (T : TypeId) (x : Copy) (oth : Option Nat) (hb : w.heap[b]? = some (.cells c T (0, 0))) (hx : At c o x oth) :
    Calls Try.prog 83 #[.pointer (some ⟨b, o, none⟩)] w fun e w' => e = .returned (.tuple #[]) ∧ ∃ c', w'.heap[b]? = some (.cells c' T (0, 0)) ∧ At c' o x.lost (some w.heap.size) ∧ Out c c' o ∧ IMap w' w.heap.size [] ∧ w'.heap.size = w.heap.size + 1 ∧ Fr (· = b) w w' := by
  have c0 := (blk_cell hb (o+4)).trans hx.h4
  have c1 := (blk_cell hb (o+5)).trans hx.h5
  have f0 := blk_free hb (o+4)
  have f1 := blk_free hb (o+5)
  have hlt := blk_lt hb
  have hmm := @run_makeMap Try.prog
  refine cps fun R hR => ?_
  have H := Lib.hid hb
  have HX := Lib.hid hx
  clear hb hx
  go_enter Try.func83, Try.ntmps83
  go_wp2
  go_end0
  have hb := H.out
  have hx := HX.out
  have hs := hx.lt
  refine hR _ _ ⟨rfl, _, blk_alloc' _ (blk_set (blk_set hb _ _) _ _), (hx.set4 true).set5 _ _, ((Out.refl c o).set 4 (by omega) _).set 5 (by omega) _, ?_, by simp, ?_⟩
  · have := IMap.new ((w.setCell ⟨b, o + 4, none⟩ (.bool true)).setCell ⟨b, o + 5, none⟩ (.map (some w.heap.size)))
    simpa [size_set] using this
  · exact (((Fr.refl (· = b) w).setCell ⟨b, o + 4, none⟩ _ (.inr rfl)).setCell ⟨b, o + 5, none⟩ _ (.inr rfl)).alloc _

def Copy.add (x : Copy) (cell : Int) : Copy := { x with others := if cell ∈ x.others then x.others else x.others ++ [cell] }
def Copy.sees (x : Copy) (cell : Int) (writes : Bool) : Copy :=
  let x1 := if x.here && writes then { x.lost with here := false, own := false } else if x.own then { x.lost with own := false } else x
  if x1.listens then x1.add cell else x1
theorem mget_set (l : List Int) (k : Int) : mget (setKv l) k = if k ∈ l then some (Value.bool true) else none := by
  induction l with
  | nil => simp [setKv, mget]
  | cons a l ih =>
    by_cases h : a = k
    · subst h; simp [setKv, mget]
    · have h' : (a == k) = false := by simpa using h
      have : mget (setKv (a :: l)) k = mget (setKv l) k := by simp [setKv, mget, List.find?_cons, h']
      rw [this, ih]
      simp [Ne.symm h]
theorem mput_set (l : List Int) (k : Int) : mput (setKv l) k (Value.bool true) = setKv (if k ∈ l then l else l ++ [k]) := by
  unfold mput
  rw [mget_set]
  by_cases h : k ∈ l
  · simp only [h, if_true, Option.isSome_some]
    unfold setKv
    rw [List.map_map]
    apply List.map_congr_left
    intro a _
    simp
  · simp [h, setKv]
set_option maxHeartbeats 800000 in
theorem sees_any (w : World) (b o : Nat) (c : Array Value) (T : TypeId) (x : Copy) (oth : Option Nat) (cell : Int) (writes : Bool) (hb : w.heap[b]? = some (.cells c T (0, 0))) (hx : At c o x oth) (ho : Oth w oth x) :
    Calls Try.prog 67 #[.pointer (some ⟨b, o, none⟩), .int .i64 cell, .bool writes] w fun e w' => e = .returned (.tuple #[]) ∧ Seen w w' b o c T oth (x.sees cell writes) := by
  obtain ⟨here, own, wh, wo, li, ot⟩ := x
  have c0 := (blk_cell hb o).trans hx.h0
  have c1 := (blk_cell hb (o+1)).trans hx.h1
  have c4 := (blk_cell hb (o+4)).trans hx.h4
  have c5 := (blk_cell hb (o+5)).trans hx.h5
  have f0 := blk_free hb o
  have f1 := blk_free hb (o+1)
  have f4 := blk_free hb (o+4)
  have f5 := blk_free hb (o+5)
  have hlt := blk_lt hb
  refine cps fun R hR => ?_
  have H := Lib.hid hb
  have HX := Lib.hid hx
  have HO := Lib.hid ho
  clear hb hx ho
  dsimp only at c0 c1 c4 c5
  cases hc : here && writes
  · cases own
    · cases li
      · -- nothing is done
        have hend : ∀ e w', e = Ending.returned (.tuple #[]) ∧ w' = w → R e w' := by
          rintro e w' ⟨rfl, rfl⟩
          refine hR _ _ ⟨rfl, ⟨⟨c, oth, H.out, ?_, fun _ _ => rfl, ?_, .inl rfl⟩, Fr.refl _ _⟩⟩
          · simpa [Copy.sees, hc] using HX.out
          · simpa [Copy.sees, hc] using HO.out
        have HE := Lib.hid hend
        clear hR hend
        cases here
        · go_enter Try.func67, Try.ntmps67
          go_wp2_with fail
          go_end0
          exact HE.out _ _ ⟨rfl, rfl⟩
        · obtain rfl : writes = false := by simpa using hc
          go_enter Try.func67, Try.ntmps67
          go_wp2_with fail
          go_end0
          exact HE.out _ _ ⟨rfl, rfl⟩
      · -- it listens
        have ho := HO.out
        cases oth with
        | none => exact absurd ho.2 (by simp)
        | some m =>
          have hm : IMap w m (setKv ot) := ho
          have HM := Lib.hid hm
          have hne := hm.ne H.out
          clear ho hm
          have hend : ∀ e w', (∃ ob, e = Ending.returned (.tuple #[]) ∧ w' = setBlock w m ob ∧ IMap w' m (mput (setKv ot) cell (.bool true))) → R e w' := by
            rintro e w' ⟨ob, rfl, rfl, him⟩
            refine hR _ _ ⟨rfl, ⟨⟨c, some m, ?_, ?_, fun _ _ => rfl, ?_, .inl rfl⟩, (Fr.refl _ _).block _ _ (.inr (.inr rfl))⟩⟩
            · rw [blk_block_other (Ne.symm hne)]; exact H.out
            · have := HX.out; constructor <;> simp [Copy.sees, hc, Copy.add, this.h0, this.h1, this.h2, this.h3, this.h4, this.h5]
            · rw [mput_set] at him; simpa [Copy.sees, hc, Copy.add, Oth] using him
          have HE := Lib.hid hend
          clear hR hend
          cases here
          · go_enter Try.func67, Try.ntmps67
            go_wp2_with (at_mapUpdate; refine wpList_mput rfl _ _ _ rfl HM.out Try.underlying82 Try.underlying3 _ _ rfl rfl rfl ?_; intro ob him)
            go_wp2
            go_end0
            exact HE.out _ _ ⟨_, rfl, rfl, him⟩
          · obtain rfl : writes = false := by simpa using hc
            go_enter Try.func67, Try.ntmps67
            go_wp2_with (at_mapUpdate; refine wpList_mput rfl _ _ _ rfl HM.out Try.underlying82 Try.underlying3 _ _ rfl rfl rfl ?_; intro ob him)
            go_wp2
            go_end0
            exact HE.out _ _ ⟨_, rfl, rfl, him⟩
    · -- it is its own
      have hend : ∀ e w', (∃ (w1 : World) (c' : Array Value) (ob : Obj), e = Ending.returned (.tuple #[]) ∧ w1.heap[b]? = some (.cells c' T (0, 0)) ∧ At c' o (Copy.lost ⟨here, true, wh, wo, li, ot⟩) (some w.heap.size) ∧ Out c c' o ∧ Fr (· = b) w w1 ∧
          w' = setBlock (w1.setCell ⟨b, o + 1, none⟩ (.bool false)) w.heap.size ob ∧ IMap w' w.heap.size (mput (setKv []) cell (.bool true))) → R e w' := by
        rintro e w' ⟨w1, c', ob, rfl, hb1, hx1, ho1, hf1, rfl, him⟩
        refine hR _ _ ⟨rfl, ⟨⟨c'.setIfInBounds (o + 1) (.bool false), some w.heap.size, ?_, ?_, ho1.set 1 (by omega) _, ?_, .inr ⟨_, rfl, Nat.le_refl _⟩⟩, ?_⟩⟩
        · rw [blk_block_other (by omega)]; exact blk_set hb1 _ _
        · have := ((hx1.set1 false).also [cell]); simpa [Copy.sees, hc, Copy.lost, Copy.add] using this
        · rw [mput_set] at him; simpa [Copy.sees, hc, Copy.add, Oth, Copy.lost] using him
        · exact ((hf1.mono (fun i _ h => .inl h)).setCell _ _ (.inr (.inl rfl))).block _ _ (.inl (Nat.le_refl _))
      have HE := Lib.hid hend
      clear hR hend
      have hcall := lost_any w b o c T ⟨here, true, wh, wo, li, ot⟩ oth H.out HX.out
      have HC := Lib.hid hcall
      clear hcall
      cases here
      · go_enter Try.func67, Try.ntmps67
        go_wp2_with (go_at_call 83; refine HC.out.mono ?_)
        rintro e w1 ⟨rfl, c', hb1, hx1, ho1, hm1, hz1, hf1⟩
        have k0 := (blk_cell hb1 o).trans hx1.h0
        have k1 := (blk_cell hb1 (o+1)).trans hx1.h1
        have k4 := (blk_cell hb1 (o+4)).trans hx1.h4
        have k5 := (blk_cell hb1 (o+5)).trans hx1.h5
        have g0 := blk_free hb1 o
        have g1 := blk_free hb1 (o+1)
        dsimp only [Copy.lost] at k0 k1 k4 k5
        have H1 := Lib.hid (And.intro hb1 (And.intro hx1 (And.intro ho1 (And.intro hm1 (And.intro hz1 hf1)))))
        clear hb1 hx1 ho1 hm1 hz1 hf1
        go_wp2_with (at_mapUpdate; refine wpList_mput rfl _ _ _ rfl (H1.out.2.2.2.1.setCell (by show w.heap.size ≠ b; omega) _) Try.underlying82 Try.underlying3 _ _ rfl rfl rfl ?_; intro ob him)
        go_wp2
        go_end0
        obtain ⟨hb1, hx1, ho1, hm1, hz1, hf1⟩ := H1.out
        exact HE.out _ _ ⟨w1, c', ob, rfl, hb1, hx1, ho1, hf1, rfl, him⟩
      · obtain rfl : writes = false := by simpa using hc
        go_enter Try.func67, Try.ntmps67
        go_wp2_with (go_at_call 83; refine HC.out.mono ?_)
        rintro e w1 ⟨rfl, c', hb1, hx1, ho1, hm1, hz1, hf1⟩
        have k0 := (blk_cell hb1 o).trans hx1.h0
        have k1 := (blk_cell hb1 (o+1)).trans hx1.h1
        have k4 := (blk_cell hb1 (o+4)).trans hx1.h4
        have k5 := (blk_cell hb1 (o+5)).trans hx1.h5
        have g0 := blk_free hb1 o
        have g1 := blk_free hb1 (o+1)
        dsimp only [Copy.lost] at k0 k1 k4 k5
        have H1 := Lib.hid (And.intro hb1 (And.intro hx1 (And.intro ho1 (And.intro hm1 (And.intro hz1 hf1)))))
        clear hb1 hx1 ho1 hm1 hz1 hf1
        go_wp2_with (at_mapUpdate; refine wpList_mput rfl _ _ _ rfl (H1.out.2.2.2.1.setCell (by show w.heap.size ≠ b; omega) _) Try.underlying82 Try.underlying3 _ _ rfl rfl rfl ?_; intro ob him)
        go_wp2
        go_end0
        obtain ⟨hb1, hx1, ho1, hm1, hz1, hf1⟩ := H1.out
        exact HE.out _ _ ⟨w1, c', ob, rfl, hb1, hx1, ho1, hf1, rfl, him⟩
  · -- it is here, and another one writes
    obtain ⟨rfl, rfl⟩ : here = true ∧ writes = true := by simpa using hc
    have hend : ∀ e w', (∃ (w1 : World) (c' : Array Value) (ob : Obj), e = Ending.returned (.tuple #[]) ∧ w1.heap[b]? = some (.cells c' T (0, 0)) ∧ At c' o (Copy.lost ⟨true, own, wh, wo, li, ot⟩) (some w.heap.size) ∧ Out c c' o ∧ Fr (· = b) w w1 ∧
        w' = setBlock ((w1.setCell ⟨b, o, none⟩ (.bool false)).setCell ⟨b, o + 1, none⟩ (.bool false)) w.heap.size ob ∧ IMap w' w.heap.size (mput (setKv []) cell (.bool true))) → R e w' := by
      rintro e w' ⟨w1, c', ob, rfl, hb1, hx1, ho1, hf1, rfl, him⟩
      refine hR _ _ ⟨rfl, ⟨⟨(c'.setIfInBounds o (.bool false)).setIfInBounds (o + 1) (.bool false), some w.heap.size, ?_, ?_, (ho1.set 0 (by omega) _).set 1 (by omega) _, ?_, .inr ⟨_, rfl, Nat.le_refl _⟩⟩, ?_⟩⟩
      · rw [blk_block_other (by omega)]; exact blk_set (blk_set hb1 _ _) _ _
      · have := (((hx1.set0 false).set1 false).also [cell]); simpa [Copy.sees, Copy.lost, Copy.add] using this
      · rw [mput_set] at him; simpa [Copy.sees, Copy.add, Oth, Copy.lost] using him
      · exact (((hf1.mono (fun i _ h => .inl h)).setCell _ _ (.inr (.inl rfl))).setCell _ _ (.inr (.inl rfl))).block _ _ (.inl (Nat.le_refl _))
    have HE := Lib.hid hend
    clear hR hend
    have hcall := lost_any w b o c T ⟨true, own, wh, wo, li, ot⟩ oth H.out HX.out
    have HC := Lib.hid hcall
    clear hcall
    go_enter Try.func67, Try.ntmps67
    go_wp2_with (go_at_call 83; refine HC.out.mono ?_)
    rintro e w1 ⟨rfl, c', hb1, hx1, ho1, hm1, hz1, hf1⟩
    have k0 := (blk_cell hb1 o).trans hx1.h0
    have k1 := (blk_cell hb1 (o+1)).trans hx1.h1
    have k4 := (blk_cell hb1 (o+4)).trans hx1.h4
    have k5 := (blk_cell hb1 (o+5)).trans hx1.h5
    have g0 := blk_free hb1 o
    have g1 := blk_free hb1 (o+1)
    dsimp only [Copy.lost] at k0 k1 k4 k5
    have H1 := Lib.hid (And.intro hb1 (And.intro hx1 (And.intro ho1 (And.intro hm1 (And.intro hz1 hf1)))))
    clear hb1 hx1 ho1 hm1 hz1 hf1
    go_wp2_with (at_mapUpdate; refine wpList_mput rfl _ _ _ rfl ((H1.out.2.2.2.1.setCell (by show w.heap.size ≠ b; omega) _).setCell (by show w.heap.size ≠ b; omega) _) Try.underlying82 Try.underlying3 _ _ rfl rfl rfl ?_; intro ob him)
    go_wp2
    go_end0
    obtain ⟨hb1, hx1, ho1, hm1, hz1, hf1⟩ := H1.out
    exact HE.out _ _ ⟨w1, c', ob, rfl, hb1, hx1, ho1, hf1, rfl, him⟩
/-- Between two statements of access: the copy at o is x; all else is as it was. -/
structure Mid (w wx : World) (b o : Nat) (c : Array Value) (T : TypeId) (x : Copy) (oth : Option Nat) : Prop where
  ex : ∃ c', wx.heap[b]? = some (.cells c' T (0, 0)) ∧ At c' o x oth ∧ Out c c' o
  fr : Fr (· = b) w wx
theorem At.out {c c' : Array Value} {o o' : Nat} {x : Copy} {oth : Option Nat} (h : At c o x oth) (ho : Out c c' o') (hd : o + 6 ≤ o' ∨ o' + 6 ≤ o) : At c' o x oth :=
  ⟨(ho _ (by omega)).trans h.h0, (ho _ (by omega)).trans h.h1, (ho _ (by omega)).trans h.h2, (ho _ (by omega)).trans h.h3, (ho _ (by omega)).trans h.h4, (ho _ (by omega)).trans h.h5⟩
/-- The four copies of a line. -/
structure Four (w : World) (b : Nat) (T : TypeId) (Y : Nat → Copy) (o : Nat → Option Nat) : Prop where
  ex : ∃ c, w.heap[b]? = some (.cells c T (0, 0)) ∧ ∀ i, i < 4 → At c (i * 6) (Y i) (o i)
  oth : ∀ i, i < 4 → Oth w (o i) (Y i)
  inj : ∀ i j m, i < 4 → j < 4 → o i = some m → o j = some m → i = j
def upd {α : Type} (f : Nat → α) (k : Nat) (v : α) : Nat → α := fun i => if i = k then v else f i
theorem upd_same {α : Type} (f : Nat → α) (k : Nat) (v : α) : upd f k v k = v := by simp [upd]
theorem upd_other {α : Type} (f : Nat → α) (k : Nat) (v : α) {i : Nat} (h : i ≠ k) : upd f k v i = f i := by simp [upd, h]
theorem Oth.lt {w : World} {m : Nat} {x : Copy} (h : Oth w (some m) x) : m < w.heap.size := IMap.lt h
theorem Oth.blk {w w' : World} {m : Option Nat} {x : Copy} (h : Oth w m x) (hb : ∀ k, m = some k → w'.heap[k]? = w.heap[k]?) : Oth w' m x := by
  cases m with
  | none => exact h
  | some m => exact IMap.of_blk h (hb m rfl)
/-- One copy has changed, and its map: what it was, or a new one. -/
theorem Four.step {w w' : World} {b : Nat} {T : TypeId} {Y : Nat → Copy} {o : Nat → Option Nat} (h : Four w b T Y o) {k : Nat} (hk : k < 4) {c c' : Array Value} {x' : Copy} {oth' : Option Nat}
    (hc : w.heap[b]? = some (.cells c T (0, 0))) (hc' : w'.heap[b]? = some (.cells c' T (0, 0))) (hx' : At c' (k * 6) x' oth') (ho : Out c c' (k * 6)) (hoth : Oth w' oth' x') (hn : oth' = o k ∨ ∃ m, oth' = some m ∧ w.heap.size ≤ m)
    (hf : Fr (fun j => j = b ∨ some j = o k) w w') : Four w' b T (upd Y k x') (upd o k oth') := by
  obtain ⟨c0, hc0, hx⟩ := h.ex
  rw [hc] at hc0
  injection hc0 with hc0
  injection hc0 with hc0
  subst hc0
  have hkeep : ∀ i, i < 4 → i ≠ k → Oth w' (o i) (Y i) := fun i hi hik => by
    have h1 := h.oth i hi
    refine h1.blk fun m hm => ?_
    rw [hm] at h1
    refine hf.blk m h1.lt ?_
    rintro (rfl | h2)
    · exact IMap.ne h1 hc rfl
    · exact hik (h.inj i k m hi hk hm h2.symm)
  refine ⟨⟨c', hc', fun i hi => ?_⟩, fun i hi => ?_, fun i j m hi hj h1 h2 => ?_⟩
  · by_cases hik : i = k
    · subst hik; rw [upd_same, upd_same]; exact hx'
    · rw [upd_other _ _ _ hik, upd_other _ _ _ hik]; exact (hx i hi).out ho (by omega)
  · by_cases hik : i = k
    · subst hik; rw [upd_same, upd_same]; exact hoth
    · rw [upd_other _ _ _ hik, upd_other _ _ _ hik]; exact hkeep i hi hik
  · have old : ∀ i, i < 4 → ∀ m, o i = some m → m < w.heap.size := fun i hi m hm => by
      have := h.oth i hi
      rw [hm] at this
      exact this.lt
    by_cases hik : i = k
    · by_cases hjk : j = k
      · omega
      · rw [hik, upd_same] at h1
        rw [upd_other _ _ _ hjk] at h2
        rcases hn with hn | ⟨m', hn, hm'⟩
        · rw [hn] at h1
          rw [hik]
          exact h.inj k j m hk hj h1 h2
        · rw [hn] at h1
          cases h1
          have := old j hj _ h2
          omega
    · by_cases hjk : j = k
      · rw [hjk, upd_same] at h2
        rw [upd_other _ _ _ hik] at h1
        rcases hn with hn | ⟨m', hn, hm'⟩
        · rw [hn] at h2
          rw [hjk]
          exact h.inj i k m hi hk h1 h2
        · rw [hn] at h2
          cases h2
          have := old i hi _ h1
          omega
      · rw [upd_other _ _ _ hik] at h1
        rw [upd_other _ _ _ hjk] at h2
        exact h.inj i j m hi hj h1 h2
end Go.Proofs.Ytabplbalacldfaa
