/- The contract of line.played, for every valid list and a size from 1 to 16. -/
import Derived.Test.YtabplbalacldfaaLLines
import Derived.Maps.AppendAt
set_option linter.unusedVariables false
set_option linter.unusedSimpArgs false
namespace Go.Proofs.Ytabplbalacldfaa
open Go.RowKit Go.Kx
open Go.ChangeMaps (setBlock)
theorem info4 : (Try.prog.info? 4).map (fun i => (i.zero, i.size, i.bytes)) = some (some (.bool false), 1, 1) := by kernel_rfl
theorem zero87 (w : World) : (zeroValue 87).run Try.prog w = .ok (.pointer none) w := by kernel_rfl
abbrev St := Int → Nat → Copy
def st0 : St := fun _ _ => freshCopy
def stepSt (size : Int) (st : St) (a : A3) : St := fun n => if n = a.2.1 / size then accessed (st n) a.1.toNat a.2.1 (a.2.2 == 1) else st n
def mvOf (size : Int) (st : St) (a : A3) : Bool := (st (a.2.1 / size) a.1.toNat).moves (a.2.2 == 1)
def wgOf (size : Int) (st : St) (a : A3) : Bool := (st (a.2.1 / size) a.1.toNat).wrong a.2.1 (a.2.2 == 1)
def outs (size : Int) : List A3 → St → List (Bool × Bool)
  | [], _ => []
  | a :: r, st => (mvOf size st a, wgOf size st a) :: outs size r (stepSt size st a)
theorem outs_snoc (size : Int) (l : List A3) (a : A3) : ∀ st, outs size (l ++ [a]) st = outs size l st ++ [(mvOf size (l.foldl (stepSt size) st) a, wgOf size (l.foldl (stepSt size) st) a)] := by
  induction l with
  | nil => intro st; rfl
  | cons b l ih => intro st; simp [outs, ih]
theorem outs_length (size : Int) (l : List A3) : ∀ st, (outs size l st).length = l.length := by
  induction l with
  | nil => intro st; rfl
  | cons b l ih => intro st; simp [outs, ih]
def mvs (size : Int) (l : List A3) : List Bool := (outs size l st0).map Prod.fst
def wgs (size : Int) (l : List A3) : List Bool := (outs size l st0).map Prod.snd
def bools (l : List Bool) : List Value := l.map Value.bool
/-- After k accesses. -/
structure PInv (w wr : World) (size : Int) (l : List A3) (k : Nat) (v1 v2 : Value) : Prop where
  g : Grow w wr
  own1 : wr.ownsRow w.heap.size 4 1 v1 k (bools (mvs size (l.take k)))
  own2 : wr.ownsRow w.heap.size 4 1 v2 k (bools (wgs size (l.take k)))
  ne : v1.ownBlock = none ∨ v1.ownBlock ≠ v2.ownBlock
  lines : ∃ ks B O, Lines wr w.heap.size w.heap.size ((l.take k).foldl (stepSt size) st0) ks B O
theorem take_snoc {α : Type} {l : List α} {k : Nat} {x : α} (h : l[k]? = some x) : l.take (k + 1) = l.take k ++ [x] := by
  rw [List.take_add_one, h]; rfl
theorem PInv.step {w wr w2 w3 w4 w5 : World} {size : Int} {l : List A3} {k : Nat} {u4 u5 v1 v2 : Value} (h : PInv w wr size l k u4 u5) {t : Nat} {y z : Int} (hx : l[k]? = some ((t : Int), y, z)) {bx o1 o2 : Obj}
    {ks : List Int} {B : Int → Nat} {O : Int → Nat → Option Nat} (hL : Lines w2 w.heap.size w.heap.size ((l.take k).foldl (stepSt size) st0) ks B O) (hin : y / size ∈ ks) (hf2 : Fr (· = w.heap.size) (wr.alloc bx) w2)
    (h4 : Four4 w2 w3 (B (y / size)) 91 (accessed (((l.take k).foldl (stepSt size) st0) (y / size)) t y (z == 1)) (O (y / size)))
    (ho1 : w4.ownsRow w.heap.size 4 1 v1 (k + 1) (bools (mvs size (l.take k)) ++ [.bool ((((l.take k).foldl (stepSt size) st0) (y / size) t).moves (z == 1))])) (hg1 : (w3.alloc o1).grownBy w4 u4.ownBlock) (ha1 : v1.ownBlock = u4.ownBlock ∨ v1.ownBlock = some (w3.heap.size + 1))
    (ho2 : w5.ownsRow w.heap.size 4 1 v2 (k + 1) (bools (wgs size (l.take k)) ++ [.bool ((((l.take k).foldl (stepSt size) st0) (y / size) t).wrong y (z == 1))])) (hg2 : (w4.alloc o2).grownBy w5 u5.ownBlock) (ha2 : v2.ownBlock = u5.ownBlock ∨ v2.ownBlock = some (w4.heap.size + 1))
    (hr1 : w3.ownsRow w.heap.size 4 1 u4 k (bools (mvs size (l.take k)))) (hr2 : w4.ownsRow w.heap.size 4 1 u5 k (bools (wgs size (l.take k)))) :
    PInv w w5 size l (k + 1) v1 v2 := by
  have hsz := h.g.size
  have s2 : w.heap.size ≤ w2.heap.size := by have := hf2.size; rw [size_alloc] at this; omega
  have s3 := h4.fr.size
  have l1 := hr1.lt
  have l2 := hr2.lt
  have s4 := hg1.size
  have s5 := hg2.size
  rw [size_alloc] at s4 s5
  have ne1 : v1.ownBlock = none ∨ v1.ownBlock ≠ u5.ownBlock := by
    rcases ha1 with e | e
    · rw [e]; exact h.ne
    · refine .inr fun e' => ?_
      rw [e'] at e
      have := (owns_blk h.own2 e)
      obtain ⟨c, hc⟩ := this
      have := blk_lt hc
      have h5 := hf2.size
      rw [size_alloc] at h5
      omega
  obtain ⟨O', hL3⟩ := hL.acc (y / size) hin s2 h4
  have hL4 : Lines w4 w.heap.size w.heap.size _ ks B O' := (hL3.grow ((Grow.refl _).alloc o1)).fr (fr_grown hg1) (fun j hj => by
    obtain ⟨c, hc⟩ := owns_blk hr1 hj
    exact ⟨c, blk_alloc' o1 hc⟩)
  have hL5 : Lines w5 w.heap.size w.heap.size _ ks B O' := (hL4.grow ((Grow.refl _).alloc o2)).fr (fr_grown hg2) (fun j hj => by
    obtain ⟨c, hc⟩ := owns_blk hr2 hj
    exact ⟨c, blk_alloc' o2 hc⟩)
  have e1 : mvs size (l.take (k + 1)) = mvs size (l.take k) ++ [mvOf size ((l.take k).foldl (stepSt size) st0) (t, y, z)] := by rw [take_snoc hx]; simp [mvs, outs_snoc]
  have e2 : wgs size (l.take (k + 1)) = wgs size (l.take k) ++ [wgOf size ((l.take k).foldl (stepSt size) st0) (t, y, z)] := by rw [take_snoc hx]; simp [wgs, outs_snoc]
  refine ⟨?_, ?_, ?_, ?_, ks, B, O', ?_⟩
  · have g2 : Grow w w2 := Fr.then (h.g.alloc bx) hf2 (fun i hi hs => by subst hs; omega)
    have g3 : Grow w w3 := Fr.then g2 h4.fr (fun i hi hs => by
      rcases hs with e | ⟨j, hj, e⟩
      · have := (hL.low.2 _ hin).1; omega
      · have := (hL.low.2 _ hin).2 j i hj e.symm; omega)
    have g4 : Grow w w4 := (g3.alloc o1).grown hg1 (fun j hj => (l1 j hj).1)
    exact (g4.alloc o2).grown hg2 (fun j hj => (l2 j hj).1)
  · rw [e1]
    have := owns_fr (ho1.alloc o2) (fr_grown hg2) (fun j hj hs => by
      rcases ne1 with e | e
      · rw [e] at hj; cases hj
      · exact e (hj.trans hs.symm))
    simpa [bools, mvOf] using this
  · rw [e2]
    simpa [bools, wgOf] using ho2
  · rcases ha2 with e | e
    · rw [e]; exact ne1
    · refine .inr fun e' => ?_
      rw [e'] at ha1
      have : v1.ownBlock = some (w4.heap.size + 1) := e'.trans e
      obtain ⟨c, hc⟩ := owns_blk ho1 this
      have := blk_lt hc
      omega
  · rw [take_snoc hx, List.foldl_append]
    simp only [List.foldl_cons, List.foldl_nil]
    have e : stepSt size ((l.take k).foldl (stepSt size) st0) (t, y, z) = fun n => if n = y / size then accessed (((l.take k).foldl (stepSt size) st0) (y / size)) t y (z == 1) else (l.take k).foldl (stepSt size) st0 n := by
      funext n
      simp only [stepSt, Int.toNat_natCast]
      by_cases hn : n = y / size
      · rw [if_pos hn, if_pos hn, hn]
      · rw [if_neg hn, if_neg hn]
    rw [e]
    exact hL5
set_option maxHeartbeats 800000 in
theorem played_any (w : World) (A : Option Addr) (l : List A3) (cap : Nat) (size : Int) (hl : Acc w A l) (hn : l.length ≤ 2000) (h1 : 1 ≤ size) (h16 : size ≤ 16) (hok : ∀ x ∈ l, bad x = false) :
    Calls Try.prog 28 #[.int .i64 size, .slice A l.length cap] w fun e w' => ∃ v1 v2, e = .returned (.tuple #[v1, v2]) ∧ PInv w w' size l l.length v1 v2 := by
  refine cph fun R HR => ?_
  have hstart : PInv w (w.alloc (.map #[] 0)) size l 0 (.slice none 0 0) (.slice none 0 0) := by
    refine ⟨(Grow.refl _).alloc _, ?_, ?_, .inl rfl, [], fun _ => 0, fun _ _ => none, ⟨?_, fun n hn => (List.not_mem_nil hn).elim, ⟨Nat.le_refl _, fun n hn => (List.not_mem_nil hn).elim⟩, fun n hn => (List.not_mem_nil hn).elim, fun n _ hn => (List.not_mem_nil hn).elim, fun n _ hn => (List.not_mem_nil hn).elim, fun n _ => rfl⟩⟩
    · exact World.ownsRow_nil _ _ _ _
    · exact World.ownsRow_nil _ _ _ _
    · exact IMap.new w
  have HS := Lib.hid hstart
  clear hstart
  have hmm := @run_makeMap Try.prog
  by_cases h0 : l = []
  · subst h0
    go_enter Try.func28, Try.ntmps28
    go_wp2_with fail
    refine wp_loop_once ?_
    go_wp2_with fail
    exact HR.out _ _ ⟨_, _, rfl, HS.out⟩
  · obtain ⟨b, off, rfl, hA⟩ := hl.resolve_left h0
    have HA := Lib.hid hA
    have HOK := Lib.hid hok
    clear hA hl h0 hok
    go_enter Try.func28, Try.ntmps28
    go_wp2_with fail
    go_loopw [4, 5, 15] (fun v1 v2 i wr => ∃ k : Nat, k ≤ l.length ∧ i = .int .i64 k ∧ Hid (PInv w wr size l k v1 v2)) (fun _ _ i _ => l.length - (intOf i).toNat)
    case atStart => exact ⟨0, by omega, rfl, HS⟩
    case round =>
      obtain ⟨k, hk, rfl, HI⟩ := hrel
      by_cases hlt : k < l.length
      · obtain ⟨⟨x, y, z⟩, hx⟩ : ∃ x, l[k]? = some x := ⟨l[k], by simp [hlt]⟩
        obtain ⟨c0, c1, c2⟩ := (HA.out.grow HI.out.g) k _ hx
        dsimp only at c0 c1 c2
        have hb := HOK.out _ (List.mem_of_getElem? hx)
        simp [bad] at hb
        obtain ⟨⟨⟨⟨⟨b1, b2⟩, b3⟩, b4⟩, b5⟩, b6⟩ := hb
        obtain ⟨t, rfl⟩ := Int.eq_ofNat_of_zero_le b1
        have HX := Lib.hid hx
        clear hx b1
        obtain ⟨ks, B, O, hLn⟩ := HI.out.lines
        have hlook := fun o => (hLn.map.alloc o).lookup Try.underlying86 Try.underlying3 (zero87 (wr.alloc o)) (y / size) false
        rw [mget_map] at hlook
        have HL := Lib.hid hLn
        have hsz := blk_lt (HL.out.map.choose_spec.choose_spec.1)
        clear hLn
        go_upto_region 6 with fail
        go_cut [26] (fun c wx => ∃ bq : Bool, c = .bool bq ∧ Hid (bq = !(decide (y / size ∈ ks))) ∧ wr.alloc (Obj.cells #[Value.int IntKind.i64 t, Value.int IntKind.i64 y, Value.int IntKind.i64 z] 24) = wx)
        case first =>
          by_cases hin : y / size ∈ ks
          · simp only [Bool.false_eq_true, if_false, if_pos hin, Option.getD_some, ptrTo] at hlook
            go_wp2; go_meet; exact ⟨_, rfl, by show _ = _; simp [hin], rfl⟩
          · simp only [Bool.false_eq_true, if_false, if_neg hin, Option.getD_none] at hlook
            go_wp2; go_meet; exact ⟨_, rfl, by show _ = _; simp [hin], rfl⟩
        case rest =>
        obtain ⟨bq, rfl, HBq, rfl⟩ := hcut
        clear hlook
        go_upto_if 26 with fail
        go_cut [] (fun wx => Hid (∃ ks' B' O', Lines wx w.heap.size w.heap.size ((l.take k).foldl (stepSt size) st0) ks' B' O' ∧ y / size ∈ ks' ∧ Fr (· = w.heap.size) (wr.alloc (Obj.cells #[Value.int IntKind.i64 t, Value.int IntKind.i64 y, Value.int IntKind.i64 z] 24)) wx))
        case first =>
          cases bq
          · go_wp2; go_meet
            have hin : y / size ∈ ks := by have := HBq.out; simpa using this
            exact ⟨ks, B, O, HL.out.grow ((Grow.refl _).alloc _), hin, Fr.refl _ _⟩
          · have hin : y / size ∉ ks := by have := HBq.out; simpa using this
            go_wp2_with (at_mapUpdate; refine wpList_mput rfl _ _ _ rfl ((HL.out.map.alloc _).alloc _) Try.underlying86 Try.underlying3 _ _ rfl rfl rfl ?_; intro ob him)
            have HM := Lib.hid him
            clear him
            go_wp2_with fail
            go_meet
            have hbx := blk_new (wr.alloc (Obj.cells #[Value.int IntKind.i64 t, Value.int IntKind.i64 y, Value.int IntKind.i64 z] 24)) (.cells #[Value.bool false, .bool false, .bool false, .bool false, .bool false, .map none, .bool false, .bool false, .bool false, .bool false, .bool false, .map none,
              .bool false, .bool false, .bool false, .bool false, .bool false, .map none, .bool false, .bool false, .bool false, .bool false, .bool false, .map none] 91)
            rw [size_alloc] at hbx
            have hLa := HL.out.grow ((Grow.refl wr).alloc (Obj.cells #[Value.int IntKind.i64 t, Value.int IntKind.i64 y, Value.int IntKind.i64 z] 24))
            refine ⟨_, _, _, hLa.add (y / size) hin (wr.heap.size + 1) (by rw [size_alloc]; omega) (by rw [size_alloc]; omega) ?_ HM.out (Four.fresh ((blk_block_other (by omega)).trans hbx) rfl), List.mem_append.2 (.inr (by simp)), ?_⟩
            · exact ((Fr.refl _ _).alloc _).block _ _ (.inr rfl)
            · exact ((Fr.refl _ _).alloc _).block _ _ (.inr rfl)
        case rest =>
        obtain ⟨w2, hw2⟩ : ∃ w2, w2 = wc := ⟨_, rfl⟩
        subst hw2
        obtain ⟨ks', B', O', hL2, hin, hf2⟩ := hcut.out
        have hbox := hf2.at_ (blk_new wr (Obj.cells #[Value.int IntKind.i64 t, Value.int IntKind.i64 y, Value.int IntKind.i64 z] 24)) (by omega)
        have k0 := blk_cell hbox 0
        have k1 := blk_cell hbox 1
        have k2 := blk_cell hbox 2
        simp only [List.getElem?_toArray, List.getElem?_cons_zero, List.getElem?_cons_succ] at k0 k1 k2
        have hlook := hL2.map.lookup Try.underlying86 Try.underlying3 (zero87 w2) (y / size) false
        rw [mget_map] at hlook
        simp only [Bool.false_eq_true, if_false, if_pos hin, Option.getD_some, ptrTo] at hlook
        have HC := Lib.hid (access_any w2 (B' (y / size)) 91 (((l.take k).foldl (stepSt size) st0) (y / size)) (O' (y / size)) t (by omega) y (z == 1) (hL2.four _ hin))
        have H2 := Lib.hid (And.intro hL2 (And.intro hin hf2))
        clear hL2 hin hf2 hbox hcut
        go_wp2_with (go_at_call 50; refine HC.out.mono ?_)
        rintro e w3 ⟨rfl, h4⟩
        have H4 := Lib.hid h4
        clear h4 hlook k0 k1 k2
        have hk63 : k + 1 ≤ maxLen := by unfold maxLen; omega
        have HK := Lib.hid hk63
        clear hk63
        obtain ⟨i0, hi, hz0, hz1, hz2⟩ := info_parts info4
        have hI := HI.out
        have hS : ∀ j, (j = B' (y / size) ∨ ∃ i, i < 4 ∧ some j = O' (y / size) i) → ∀ cur, w2.heap[j]? = some (.cells cur 4 (0, 0)) → False := by
          obtain ⟨hL2, hin, hf2⟩ := H2.out
          intro j hj cur hcur
          rcases hj with rfl | ⟨i, hi, e⟩
          · obtain ⟨c, hc, _⟩ := (hL2.four _ hin).ex
            rw [hc] at hcur
            simp at hcur
          · have := (hL2.four _ hin).oth i hi
            rw [← e] at this
            exact IMap.ne this hcur rfl
        have hown1 : w3.ownsRow w.heap.size 4 1 u4 k (bools (mvs size (l.take k))) := by
          obtain ⟨hL2, hin, hf2⟩ := H2.out
          have := owns_fr (owns_grow hI.own1 ((Grow.refl wr).alloc _)) hf2 (fun j hj hs => by
            subst hs
            obtain ⟨c, hc⟩ := owns_blk hI.own1 hj
            exact HL.out.map.ne hc rfl)
          exact owns_fr this H4.out.fr (fun j hj hs => by
            obtain ⟨c, hc⟩ := owns_blk this hj
            exact hS j hs c hc)
        have hown2 : w3.ownsRow w.heap.size 4 1 u5 k (bools (wgs size (l.take k))) := by
          obtain ⟨hL2, hin, hf2⟩ := H2.out
          have := owns_fr (owns_grow hI.own2 ((Grow.refl wr).alloc _)) hf2 (fun j hj hs => by
            subst hs
            obtain ⟨c, hc⟩ := owns_blk hI.own2 hj
            exact HL.out.map.ne hc rfl)
          exact owns_fr this H4.out.fr (fun j hj hs => by
            obtain ⟨c, hc⟩ := owns_blk this hj
            exact hS j hs c hc)
        have hbase : w.heap.size ≤ w3.heap.size := by
          have h5 := H4.out.fr.size
          have h6 := H2.out.2.2.size
          have h7 := HI.out.g.size
          rw [size_alloc] at h6
          omega
        have HN := Lib.hid (And.intro hown1 (And.intro hown2 hS))
        clear hown1 hown2 hS hI
        go_wp2_with (at_builtin; refine wpList_append_own_at _ rfl (.tmp 45) (.tmp 47) 36 rfl w.heap.size 4 i0 (.bool false) 1 1 Try.underlying36 hi hz0 hz1 hz2 rfl (by decide) _ _ _ rfl (HN.out.1.alloc _) ⟨w3.heap.size, 0, none⟩ 1 1 [.bool (((l.take k).foldl (stepSt size) st0 (y / size) t).moves (z == 1))] rfl rfl (cell_one_new _ _ _) (by simp [Value.oneCell']) HK.out (by omega) ?_ ?_)
        · rw [size_alloc]; omega
        · intro v1 w4 hown1 hgrow1 _ hat1
          have hown2 : w4.ownsRow w.heap.size 4 1 u5 k (bools (wgs size (l.take k))) := by
            refine owns_fr (HN.out.2.1.alloc _) (fr_grown hgrow1) (fun j hj hs => ?_)
            rcases HI.out.ne with e | e
            · rw [e] at hs; cases hs
            · exact e (hs.trans hj.symm)
          have hb4 : w.heap.size ≤ w4.heap.size := by have := hgrow1.size; rw [size_alloc] at this; omega
          have H5 := Lib.hid (And.intro hown1 (And.intro hgrow1 (And.intro hat1 hown2)))
          clear hown1 hgrow1 hat1 hown2
          go_wp2_with (at_builtin; refine wpList_append_own_at _ rfl (.tmp 49) (.tmp 51) 36 rfl w.heap.size 4 i0 (.bool false) 1 1 Try.underlying36 hi hz0 hz1 hz2 rfl (by decide) _ _ _ rfl (H5.out.2.2.2.alloc _) ⟨w4.heap.size, 0, none⟩ 1 1 [.bool (((l.take k).foldl (stepSt size) st0 (y / size) t).wrong y (z == 1))] rfl rfl (cell_one_new _ _ _) (by simp [Value.oneCell']) HK.out (by omega) ?_ ?_)
          · rw [size_alloc]; omega
          · intro v2 w5 hown2 hgrow2 _ hat2
            have H6 := Lib.hid (And.intro hown2 (And.intro hgrow2 hat2))
            clear hown2 hgrow2 hat2
            go_wp2_with fail
            go_roundw
            case rel =>
              refine ⟨k + 1, by omega, by go_num, ?_⟩
              exact HI.out.step HX.out H2.out.1 H2.out.2.1 H2.out.2.2 H4.out H5.out.1 H5.out.2.1 H5.out.2.2.1 H6.out.1 H6.out.2.1 H6.out.2.2 HN.out.1 H5.out.2.2.2
            case measure => simp [intOf]; omega
      · obtain rfl : k = l.length := by omega
        go_wp2_with fail
        exact HR.out _ _ ⟨_, _, rfl, HI.out⟩
end Go.Proofs.Ytabplbalacldfaa
