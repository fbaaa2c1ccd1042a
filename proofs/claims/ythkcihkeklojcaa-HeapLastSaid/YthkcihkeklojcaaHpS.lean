/- The statement HeapLast answers true. -/
import Derived.Test.YthkcihkeklojcaaHpQ
set_option linter.unusedVariables false
set_option linter.unusedSimpArgs false
namespace Go.Proofs.Ythkcihkeklojcaa
open Go.RowKit Go.Kx
theorem idx_ok (x n : Int) (h : 0 < n) (h2 : n ≤ 1000) : 0 ≤ wrap64 ((IntKind.u64.wrap x).tmod n) ∧ wrap64 ((IntKind.u64.wrap x).tmod n) < n := by
  have h0 : 0 ≤ IntKind.u64.wrap x := by
    have : IntKind.u64.wrap x = x % 18446744073709551616 := by simp [IntKind.wrap, IntKind.bits, IntKind.signed]
    omega
  have h1 := Int.emod_nonneg (IntKind.u64.wrap x) (show n ≠ 0 by omega)
  have h3 := Int.emod_lt_of_pos (IntKind.u64.wrap x) h
  rw [Int.tmod_eq_emod_of_nonneg h0]
  have : wrap64 (IntKind.u64.wrap x % n) = IntKind.u64.wrap x % n := by unfold wrap64; omega
  rw [this]
  exact ⟨h1, h3⟩
theorem ints_of_own {w : World} {base : Nat} {v : Value} {n : Nat} {l : List Int} (h : w.ownsRow base 3 1 v n (l.map (Value.int .i64))) : ∃ A cap, v = .slice A l.length cap ∧ IntsAt w A l := by
  have hl : l.length = n := by have := h.1; simpa using this
  rcases h.2 with ⟨rfl, h0⟩ | ⟨g, cap, cur, rfl, hb, hgg, h1, h2, h3, h4⟩
  · have : l = [] := List.eq_nil_of_length_eq_zero (by omega)
    subst this
    exact ⟨none, 0, rfl, .inl rfl⟩
  · subst hl
    refine ⟨some ⟨g, 0, none⟩, cap, rfl, .inr ⟨g, 0, rfl, fun j x hx => ?_⟩⟩
    have := h.cells (g := g) (by simp [Value.ownBlock]) j (.int .i64 x) (by simp [hx])
    rw [Addr.add_lit] at this
    exact this
/-- A row of ints that was made behind the heap lies apart from it. -/
theorem row_sep {w : World} {base B n : Nat} {q : HB} {s : HS} {v : Value} {xs : List Value} (h : HeapAt w base q s) (hr : w.ownsRow B 3 1 v n xs) (hb : q.b < B ∧ q.W < B ∧ q.V < B ∧ q.M < B) : ∀ k, v.ownBlock = some k → ¬ q.set k := by
  intro k hk hs
  obtain ⟨c, hc⟩ := owns_blk hr hk
  have hB := (hr.lt k hk).1
  rcases hs with rfl | rfl | rfl | rfl | hs
  · omega
  · omega
  · omega
  · omega
  · obtain ⟨c2, hc2⟩ := owns_blk h.free hs
    rw [hc] at hc2
    cases hc2
/-- The heap behind an append onto such a row. -/
theorem heap_app {w w' : World} {base B n : Nat} {q : HB} {s : HS} {v : Value} {xs : List Value} {o : Obj} (h : HeapAt w base q s) (hr : w.ownsRow B 3 1 v n xs) (hb : q.b < B ∧ q.W < B ∧ q.V < B ∧ q.M < B) (hg : (w.alloc o).grownBy w' v.ownBlock) : HeapAt w' base q s :=
  h.fr (S := fun k => v.ownBlock = some k) (((Fr.refl _ w).alloc o).grown hg (fun k e => .inr e)) (fun i hi hs => row_sep h hr hb i hs hi)
theorem adr_app (r : Int) (k : Nat) : (adr r (k + 1)).map (Value.int .i64) = (adr r k).map (Value.int .i64) ++ [.int .i64 (100 + (k : Int) * r)] := by rw [adr_succ, List.map_append]; rfl
/-- The state between two steps: the heap, and the row of all addresses. -/
structure LsI (w1 : World) (B : Nat) (q : HB) (n sz : Int) (N : Nat) (gl : List Int) (V : Value) (wr : World) : Prop where
  ex : ∃ fv S, HeapAt wr w1.heap.size { q with fv := fv } S ∧ LSt S n sz N gl
  gr : Grow w1 wr
  row : wr.ownsRow B 3 1 V N ((adr (rnd sz) N).map (Value.int .i64))
  lo : B ≤ wr.heap.size
theorem LSt.glen {s : HS} {n sz : Int} {N : Nat} {g : List Int} (h : LSt s n sz N g) : g.length ≤ N := by
  have := h.perm.length_eq
  rw [List.length_append, adr_len] at this
  omega
theorem LSt.fmap {s : HS} {n sz : Int} {N : Nat} {g : List Int} (h : LSt s n sz N g) : s.free.map Prod.fst = g := by
  rw [h.free, List.map_map]
  exact List.map_id _
theorem row_cell {w : World} {B g n cap : Nat} {l : List Int} (h : w.ownsRow B 3 1 (.slice (some ⟨g, 0, none⟩) n cap) n (l.map (Value.int .i64))) {j : Nat} {x : Int} (hj : l[j]? = some x) : w.cell? ⟨g, j, none⟩ = some (.int .i64 x) := by
  have := h.cells (g := g) (by simp [Value.ownBlock]) j (.int .i64 x) (by simp [hj])
  rw [Addr.add_lit, Nat.zero_add] at this
  exact this
/-- The same, and the row of those that are gone. -/
structure LsJ (w1 wL : World) (B : Nat) (q : HB) (n sz : Int) (N : Nat) (gl : List Int) (V : Value) (G : Value) (gn : List Int) (wr : World) : Prop where
  i : LsI w1 B q n sz N gl V wr
  g : wr.ownsRow wL.heap.size 3 1 G gn.length (gn.map (Value.int .i64))
  lo : wL.heap.size ≤ wr.heap.size
theorem LsJ.heap {w1 wL w w' : World} {B N gv cv nv : Nat} {q : HB} {n sz : Int} {gl gl' gn : List Int} {G : Value} {fv fv' : Value} {S S' : HS} (h : LsJ w1 wL B q n sz N gl (.slice (some ⟨gv, 0, none⟩) nv cv) G gn w) (hB : q.b < B ∧ q.W < B ∧ q.V < B ∧ q.M < B) (hBL : B ≤ wL.heap.size)
    (hS : HeapAt w w1.heap.size { q with fv := fv } S) (hS' : HeapAt w' w1.heap.size { q with fv := fv' } S') (hf : Fr (HB.set { q with fv := fv }) w w') (hO : LSt S' n sz N gl') : LsJ w1 wL B q n sz N gl' (.slice (some ⟨gv, 0, none⟩) nv cv) G gn w' :=
  ⟨⟨⟨fv', S', hS', hO⟩, hS.then h.i.gr hf, owns_fr h.i.row hf (row_sep hS h.i.row hB), Nat.le_trans h.i.lo hf.size⟩, owns_fr h.g hf (row_sep hS h.g ⟨by dsimp only; omega, by dsimp only; omega, by dsimp only; omega, by dsimp only; omega⟩), Nat.le_trans h.lo hf.size⟩
theorem LsJ.grow {w1 wL w w' : World} {B N : Nat} {q : HB} {n sz : Int} {gl gn : List Int} {V G : Value} (h : LsJ w1 wL B q n sz N gl V G gn w) (hg : Grow w w') : LsJ w1 wL B q n sz N gl V G gn w' := by
  obtain ⟨fv, S, hS, hO⟩ := h.i.ex
  exact ⟨⟨⟨fv, S, hS.grow hg, hO⟩, h.i.gr.trans hg, owns_grow h.i.row hg, Nat.le_trans h.i.lo hg.size⟩, owns_grow h.g hg, Nat.le_trans h.lo hg.size⟩
theorem LsJ.app {w1 wL w w' : World} {B N gv cv nv : Nat} {q : HB} {n sz a : Int} {gl gn : List Int} {G G' : Value} {o : Obj} (h : LsJ w1 wL B q n sz N gl (.slice (some ⟨gv, 0, none⟩) nv cv) G gn w) (hB : q.b < B ∧ q.W < B ∧ q.V < B ∧ q.M < B) (hBL : B ≤ wL.heap.size) (hgv : gv < wL.heap.size) (hw1 : w1.heap.size ≤ wL.heap.size)
    (hown : w'.ownsRow wL.heap.size 3 1 G' (gn.length + 1) (gn.map (Value.int .i64) ++ [.int .i64 a])) (hgrow : (w.alloc o).grownBy w' G.ownBlock) : LsJ w1 wL B q n sz N gl (.slice (some ⟨gv, 0, none⟩) nv cv) G' (gn ++ [a]) w' := by
  obtain ⟨fv, S, hS, hO⟩ := h.i.ex
  have hf : Fr (fun j => G.ownBlock = some j) w w' := ((Fr.refl _ w).alloc o).grown hgrow (fun k e => .inr e)
  refine ⟨⟨⟨fv, S, heap_app hS h.g ⟨by dsimp only; omega, by dsimp only; omega, by dsimp only; omega, by dsimp only; omega⟩ hgrow, hO⟩, (h.i.gr.alloc o).grown hgrow (fun k e => Nat.le_trans hw1 (h.g.lt k e).1), owns_fr h.i.row hf (fun k hk e => ?_), Nat.le_trans h.i.lo hf.size⟩, by simpa using hown, Nat.le_trans h.lo hf.size⟩
  have := (h.g.lt k e).1
  have hk2 : gv = k := by simpa [Value.ownBlock] using hk
  omega
theorem LsJ.cell {w1 wL w : World} {B N b off nn cap : Nat} {q : HB} {n sz : Int} {gl gn : List Int} {V : Value} (h : LsJ w1 wL B q n sz N gl V (.slice (some ⟨b, off, none⟩) nn cap) gn w) {j : Nat} {x : Int} (hj : gn[j]? = some x) : w.cell? ⟨b, off + j, none⟩ = some (.int .i64 x) := by
  rcases h.g.2 with ⟨e, _⟩ | ⟨g, cap', cur, e, _⟩
  · cases e
  · cases e
    have := row_cell h.g hj
    rwa [Nat.zero_add]
set_option maxRecDepth 100000 in
set_option maxHeartbeats 8000000 in
theorem last_law (w : World) (A : Option Addr) (ca : Nat) (cells size many : Int) (order : List Int) (hI : IntsAt w A order) :
    Calls Try.prog 6 #[.agg #[.int .i64 cells, .int .i64 size, .int .i64 many, .slice A order.length ca]] w (TrueP w) := by
  refine cph fun R HR => ?_
  have HAW := Lib.hid awake_any
  have HG0 := Lib.hid ((Grow.refl w).alloc (.cells #[.int .i64 cells, .int .i64 size, .int .i64 many, .slice A order.length ca] 40))
  have HO := Lib.hid hI
  clear hI
  obtain ⟨i0, hi, hz0, hz1, hz2⟩ := info_parts info3x
  have HI := Lib.hid (And.intro hi (And.intro hz0 (And.intro hz1 hz2)))
  clear hi hz0 hz1 hz2
  go_enter Try.func6, Try.ntmps6
  go_wp2_with fail
  go_quiet (fail)
  go_wp2_with (go_at_call 8; refine (HAW.out _).mono ?_)
  rintro e w1 ⟨rfl, hg1⟩
  have H1 : Hid (Grow w w1) := Lib.hid ((show Grow w _ from by first | exact HG0.out | exact HG0.out.drewN _ | exact HG0.out.drew).trans hg1)
  clear hg1
  have hc := and_bound cells 15 (by decide)
  obtain ⟨n, hn⟩ : ∃ n, n = bits .and .i64 cells 15 := ⟨_, rfl⟩
  have hn0 : 0 ≤ n ∧ n ≤ 15 := by rw [hn]; exact hc
  have en := hn.symm
  have HN := Lib.hid hn0
  have HNEW := Lib.hid (new_any (w := w1) n hn0.1 (by omega))
  clear hc hn hn0
  go_wp2_with (go_at_call 9; refine HNEW.out.mono ?_)
  rintro e w2 ⟨q, rfl, h2, hg2, hfv⟩
  have hq : q.b < w2.heap.size ∧ q.W < w2.heap.size ∧ q.V < w2.heap.size ∧ q.M < w2.heap.size := ⟨blk_lt h2.blk, blk_lt h2.words, blk_lt h2.vers, h2.map.lt⟩
  have H2 := Lib.hid (And.intro h2 (And.intro hg2 hq))
  clear h2 hg2 hfv HNEW hq
  have hu : 0 ≤ IntKind.u64.wrap size := by
    have := (bits_within .and .u64 0 0).1
    simp [IntKind.wrap, IntKind.bits, IntKind.signed]
    omega
  obtain ⟨m, hm⟩ : ∃ m, m = (IntKind.u64.wrap size).tmod 18 := ⟨_, rfl⟩
  have hm0 : 0 ≤ m ∧ m ≤ 17 := by rw [hm, Int.tmod_eq_emod_of_nonneg hu]; omega
  have em := hm.symm
  have hm00 := hm0.1
  have hm01 := hm0.2
  obtain ⟨r, hr⟩ : ∃ r, r = rnd (1 + m) := ⟨_, rfl⟩
  have hb := rnd_bound (z := 1 + m) (by omega) (by omega)
  rw [← hr] at hb
  have HR2 := Lib.hid hr
  have hb1 := hb.1
  have hb2 := hb.2.1
  have hk := and_bound many 15 (by decide)
  obtain ⟨mm, hmm⟩ : ∃ mm, mm = bits .and .i64 many 15 := ⟨_, rfl⟩
  have hmm0 : 0 ≤ mm ∧ mm ≤ 15 := by rw [hmm]; exact hk
  have emm := hmm.symm
  obtain ⟨M, hM⟩ := Int.eq_ofNat_of_zero_le (show 0 ≤ 1 + mm by omega)
  have hM1 : 1 ≤ M := by omega
  have hM2 : M ≤ 16 := by omega
  clear hu hm hm0 hr hb hk hmm hmm0
  go_wp2_with fail
  go_loopw [10, 11] (fun v i wr => ∃ k : Nat, k ≤ M ∧ i = .int .i64 k ∧ Hid (LsI w1 w2.heap.size q n (1 + m) k [] v wr)) (fun _ i _ => M - (intOf i).toNat)
  case atStart => exact ⟨0, by omega, rfl, ⟨q.fv, _, H2.out.1, new_state n (1 + m)⟩, H2.out.2.1, World.ownsRow_nil _ _ _ _, Nat.le_refl _⟩
  case round =>
    obtain ⟨k, hk, rfl, HL⟩ := hrel
    by_cases hlt : k < M
    · have hki : (k : Int) < (M : Int) := by omega
      obtain ⟨fv, S, hS, hO⟩ := HL.out.ex
      have hk0 : 0 ≤ (k : Int) * r := Int.mul_nonneg (by omega) (by omega)
      have hk1 : (k : Int) * r + r ≤ 288 := by
        have h1 := mulk (r := r) (by omega) hlt
        have h2 : (M : Int) * r ≤ 16 * 18 := Int.mul_le_mul (by omega) hb2 (by omega) (by omega)
        omega
      obtain ⟨S', hmk, hO'⟩ := hO.mk_top (by omega) (by omega) (by rw [← HR2.out]; omega)
      rw [← HR2.out] at hmk
      have HM := Lib.hid ((make_any hS (by rw [hO.free]; simp) (1 + m)).mono fun _ _ h => MakeP.of h hmk)
      have HS := Lib.hid (And.intro hS (And.intro hO' (row_sep hS HL.out.row H2.out.2.2)))
      have HLs := Lib.hid HL.out.lo
      clear hS hO hmk hO' hlt
      go_wp2_with (first | (go_at_call 10; refine HM.out.mono ?_; rintro e w3 ⟨rfl, fv3, h3, hf3, _⟩; have H3 := Lib.hid (And.intro h3 (And.intro (HS.out.1.then HL.out.gr hf3) (owns_fr HL.out.row hf3 HS.out.2.2))); have hw3 := H3.out.2.1.size; have hw23 : w2.heap.size ≤ w3.heap.size := Nat.le_trans HLs.out hf3.size; clear h3 hf3) | (at_builtin; refine wpList_append_own_at _ rfl (.tmp 62) (.tmp 64) 22 rfl w2.heap.size 3 i0 (.int .i64 0) 1 8 Try.underlying22 HI.out.1 HI.out.2.1 HI.out.2.2.1 HI.out.2.2.2 rfl (by decide) _ _ _ rfl (H3.out.2.2.alloc _) ⟨w3.heap.size, 0, none⟩ 1 1 [.int .i64 (100 + (k : Int) * r)] rfl rfl (cell_one_new _ _ _) (by simp [Value.oneCell']) (by unfold maxLen; omega) (by omega) (by rw [World.size_alloc]; omega) ?_; intro v4 w4 hown hgrow _ hat; have H4 : Hid (LsI w1 w2.heap.size q n (1 + m) (k + 1) [] v4 w4) := ⟨⟨fv3, S', heap_app H3.out.1 H3.out.2.2 H2.out.2.2 hgrow, HS.out.2.1⟩, (H3.out.2.1.alloc _).grown hgrow (fun j e => Nat.le_trans H2.out.2.1.size (H3.out.2.2.lt j e).1), by rw [← HR2.out, adr_app]; rw [← HR2.out] at hown; exact hown, Nat.le_trans hw23 (by have := hgrow.size; rw [World.size_alloc] at this; omega)⟩; clear hown hgrow hat))
      go_roundw
      case rel => exact ⟨k + 1, by omega, by go_num, H4.out⟩
      case measure => simp [intOf]; omega
    · have hki : ¬ (k : Int) < (M : Int) := by omega
      obtain rfl : k = M := by omega
      rename World => wL
      obtain ⟨gv, cv, hv⟩ : ∃ g cap, u10 = .slice (some ⟨g, 0, none⟩) k cap := by
        rcases HL.out.row.2 with ⟨_, h0⟩ | ⟨g, cap, _, rfl, _⟩
        · omega
        · exact ⟨g, cap, rfl⟩
      subst hv
      have hgv := (HL.out.row.lt gv (by simp [Value.ownBlock])).2
      clear hlt
      have hw1L := HL.out.gr.size
      have hw2L := HL.out.lo
      have HW := Lib.hid (And.intro hw1L hw2L)
      clear hw1L hw2L hki
      go_wp2_with fail
      go_loopw [14, 15] (fun G i wr => ∃ (c : Nat) (gl : List Int), c ≤ order.length ∧ c ≤ 200 ∧ i = .int .i64 c ∧ Hid (LsJ w1 wL w2.heap.size q n (1 + m) k gl (.slice (some ⟨gv, 0, none⟩) k cv) G gl wr)) (fun _ i _ => order.length - (intOf i).toNat)
      case atStart => exact ⟨0, [], by omega, by omega, rfl, HL.out, World.ownsRow_nil _ _ _ _, Nat.le_refl _⟩
      case round =>
        obtain ⟨c, gl, hc, hc2, rfl, HJ⟩ := hrel
        by_cases hlt : c < order.length ∧ c < 200
        · obtain ⟨hlt1, hlt2⟩ := hlt
          have hci : (c : Int) < (order.length : Int) := by omega
          have hci2 : (c : Int) < 200 := by omega
          obtain ⟨bo, oo, rfl, hcx⟩ := (HO.out.grow (H1.out.trans HJ.out.i.gr)).at_ hlt1
          obtain ⟨x, hx⟩ : ∃ x, x = order[c] := ⟨_, rfl⟩
          rw [← hx] at hcx
          clear hx
          obtain ⟨hj0, hj1⟩ := idx_ok x k (by omega) (by omega)
          obtain ⟨jj, hjj⟩ := Int.eq_ofNat_of_zero_le hj0
          rw [hjj] at hj1
          have hjk : jj < k := by omega
          have hji : (jj : Int) < (k : Int) := by omega
          have hkz : ((k : Int) == 0) = false := by rw [beq_eq_false_iff_ne]; omega
          have hca := row_cell HJ.out.i.row (adr_get hjk)
          rw [← HR2.out] at hca
          have hp0 : 0 ≤ (jj : Int) * r := Int.mul_nonneg (by omega) (by omega)
          have hp1 : (jj : Int) * r + r ≤ 288 := by
            have h1 := mulk (r := r) (by omega) hjk
            have h2 : (k : Int) * r ≤ 16 * 18 := Int.mul_le_mul (by omega) hb2 (by omega) (by omega)
            omega
          have hma : 100 + (jj : Int) * r ∈ adr (rnd (1 + m)) k := by rw [← HR2.out]; exact adr_mem.2 ⟨jj, hjk, rfl⟩
          obtain ⟨a, ha⟩ : ∃ a, a = 100 + (jj : Int) * r := ⟨_, rfl⟩
          rw [← ha] at hca hma
          have ha0 : 100 ≤ a := by omega
          have ha1 : a ≤ 400 := by omega
          obtain ⟨fv, S, hS, hL⟩ := HJ.out.i.ex
          have hal := alive_any hS a (by omega) (by omega)
          rw [hL.al (by have := HN.out.2; omega) (by omega) (by omega) hma] at hal
          dsimp only at hal
          have hgl := hL.glen
          by_cases hag : a ∈ gl
          · rw [show decide (a ∉ gl) = false by simp [hag]] at hal
            have HA := Lib.hid hal
            clear hal hj0 hj1 ha hp0 hp1 hma hS hL hag hlt1 hlt2 hgl
            go_wp2_with (go_at_call 17; refine HA.out.mono ?_; rintro e w' ⟨rfl, rfl⟩)
            go_roundw
            case rel => exact ⟨c + 1, gl, by omega, by omega, by go_num, HJ.out⟩
            case measure => simp [intOf]; omega
          · rw [show decide (a ∉ gl) = true by simp [hag]] at hal
            have HA := Lib.hid hal
            obtain ⟨S2, hgv2, hO2⟩ := hL.gv (by rw [← HR2.out]; omega) hma hag
            have HGV := Lib.hid ((give_any hS (by have := HJ.out.i.gr.size; omega) (by rw [hL.free, List.length_map]; omega) a).mono fun _ _ h => GiveP.of h hgv2)
            dsimp only at HGV
            have HS := Lib.hid (And.intro hS hO2)
            clear hal hj0 hj1 ha hp0 hp1 hma hS hL hag hlt1 hlt2 hgv2 hO2
            go_wp2_with (first | (go_at_call 17; refine HA.out.mono ?_; rintro e w' ⟨rfl, rfl⟩) | (go_at_call 11; refine HGV.out.mono ?_; rintro e w5 ⟨rfl, fv5, h5, hf5, _⟩; have H5 := Lib.hid (HJ.out.heap H2.out.2.2 HW.out.2 HS.out.1 h5 hf5 HS.out.2); have hw5 := H5.out.lo; clear h5 hf5) | (at_builtin; refine wpList_append_own_at _ rfl (.tmp 96) (.tmp 98) 22 rfl wL.heap.size 3 i0 (.int .i64 0) 1 8 Try.underlying22 HI.out.1 HI.out.2.1 HI.out.2.2.1 HI.out.2.2.2 rfl (by decide) _ _ _ rfl (H5.out.g.alloc _) ⟨w5.heap.size, 0, none⟩ 1 1 [.int .i64 a] rfl rfl (cell_one_new _ _ _) (by simp [Value.oneCell']) (by unfold maxLen; omega) (by omega) (by rw [World.size_alloc]; omega) ?_; intro v6 w6 hown hgrow _ hat; have H6 := Lib.hid (H5.out.app H2.out.2.2 HW.out.2 hgv HW.out.1 hown hgrow); clear hown hgrow hat))
            go_roundw
            case rel => exact ⟨c + 1, gl ++ [a], by omega, by omega, by go_num, H6.out⟩
            case measure => simp [intOf]; omega
        · --TAIL
          by_cases hq : (c : Int) < (order.length : Int)
          · have hq2 : ¬ (c : Int) < 200 := by omega
            clear hlt
            obtain ⟨AG, cG, rfl, hGi⟩ := ints_of_own HJ.out.g
            obtain ⟨fv, S, hS, hL⟩ := HJ.out.i.ex
            have hgl := hL.glen
            have hFr := Free_any hS (by rw [hL.free, List.length_map]; omega)
            rw [hL.fmap] at hFr
            have HFr := Lib.hid (And.intro hFr hGi)
            dsimp only at HFr
            clear hS hL hFr hGi
            go_wp2_with (first | (go_at_call 21; refine HFr.out.1.mono ?_; rintro e w5 hp; obtain ⟨A5, c5, rfl, hi5, hg5⟩ := ints_of_made hp; have H5 := Lib.hid (HJ.out.grow hg5); have HSM := Lib.hid (same_any (c := c5) (d := cG) hi5 (HFr.out.2.grow hg5) (by omega)); rw [show (gl == gl) = true by simp] at HSM; clear hp hi5 hg5) | (go_at_call 20; refine HSM.out.mono ?_; rintro e w6 ⟨rfl, hg6⟩; have H6 := Lib.hid (H5.out.grow hg6); clear hg6))
            go_loopw [17] (fun i wr => ∃ b : Nat, b ≤ gl.length ∧ i = .int .i64 ((b : Int) - 1) ∧ Hid (LsJ w1 wL w2.heap.size q n (1 + m) k (gl.take b) (.slice (some ⟨gv, 0, none⟩) k cv) (.slice AG gl.length cG) gl wr)) (fun i _ => (intOf i + 1).toNat)
            case atStart => exact ⟨gl.length, Nat.le_refl _, rfl, by rw [List.take_length]; exact H6.out⟩
            case round =>
              obtain ⟨b, hb, rfl, HK⟩ := hrel
              cases b with
              | zero =>
                obtain ⟨fv3, S3, hS3, hL3⟩ := HK.out.i.ex
                have hF3 := Free_any hS3 (by rw [hL3.free]; simp)
                rw [hL3.fmap] at hF3
                have hN3 := nodes_any hS3 (adr r k) (by have := hL3.perm; rw [List.take_zero, List.append_nil, ← HR2.out] at this; exact this) (adr_sorted (by omega) _) (by have := hL3.perm.length_eq; rw [List.take_zero, List.append_nil, List.length_map, adr_len] at this; omega)
                have hal := adr_len r k
                have HF3 := Lib.hid hF3
                have HN3 := Lib.hid (fun (w' : World) (hg : Grow wr w') => nodes_any (hS3.grow hg) (adr r k) (by have := hL3.perm; rw [List.take_zero, List.append_nil, ← HR2.out] at this; exact this) (adr_sorted (by omega) _) (by have := hL3.perm.length_eq; rw [List.take_zero, List.append_nil, List.length_map, adr_len] at this; omega))
                have hV := (by have := HK.out.i.row; rw [← HR2.out] at this; exact this : wr.ownsRow w2.heap.size 3 1 (.slice (some ⟨gv, 0, none⟩) k cv) k ((adr r k).map (Value.int .i64)))
                obtain ⟨AV, cV, eV, hVi⟩ := ints_of_own hV
                rw [hal] at eV
                have HV := Lib.hid (And.intro eV hVi)
                dsimp only at HF3 HN3
                clear hS3 hL3 hF3 hN3 hV eV hVi
                have e0 : (((0 : Nat) : Int) - 1) = -1 := by omega
                rw [e0]
                go_wp2_with (first | (go_at_call 21; refine HF3.out.mono ?_; rintro e w8 hp; obtain ⟨A8, c8, rfl, hi8, hg8⟩ := ints_of_made hp; have H8 := Lib.hid hg8; clear hp hi8 hg8) | (go_at_call 19; refine (HN3.out _ H8.out).mono ?_; rintro e w9 hp; obtain ⟨A9, c9, rfl, hi9, hg9⟩ := ints_of_made hp; have H9 := Lib.hid (H8.out.trans hg9); have HSM2 : Hid (Calls Try.prog 20 #[.slice A9 k c9, .slice (some ⟨gv, 0, none⟩) k cv] w9 (EqP w9 true)) := (by have h9 := same_any (c := c9) (d := cV) hi9 (HV.out.2.grow H9.out) (by omega); rw [show (adr r k == adr r k) = true by simp, hal] at h9; rw [HV.out.1]; exact h9); clear hp hi9 hg9) | (go_at_call 20; refine HSM2.out.mono ?_; rintro e w10 ⟨rfl, hg10⟩; have H10 := Lib.hid (H9.out.trans hg10); clear hg10))
                exact HR.out _ _ ⟨rfl, H1.out.trans (HK.out.i.gr.trans H10.out)⟩
              | succ b =>
                have e1 : (((b + 1 : Nat) : Int) - 1) = (b : Int) := by omega
                rw [e1]
                have hbl : b < gl.length := by omega
                have hbi : (b : Int) < (gl.length : Int) := by omega
                obtain ⟨b3, o3, rfl, _⟩ := HFr.out.2.at_ hbl
                have htk := List.take_succ_eq_append_getElem hbl
                have hgt : gl[b]? = some gl[b] := List.getElem?_eq_getElem hbl
                obtain ⟨fv3, S3, hS3, hL3⟩ := HK.out.i.ex
                rw [htk] at hL3
                generalize gl[b] = a at hgt hL3 htk
                obtain ⟨S4, hm4, hL4⟩ := hL3.mk_last (by omega) (by omega)
                have HM4 := Lib.hid ((make_any hS3 (by rw [hL3.free, List.length_map, List.length_append, List.length_take]; simp; omega) (1 + m)).mono fun _ _ h => MakeP.of h hm4)
                dsimp only at HM4
                have HS3 := Lib.hid (And.intro hS3 (And.intro hL4 hgt))
                clear hS3 hL3 hm4 hL4 htk hgt e1
                go_wp2_with (go_at_call 10; refine HM4.out.mono ?_; rintro e w7 ⟨rfl, fv7, h7, hf7, _⟩; have H7 := Lib.hid (HK.out.heap H2.out.2.2 HW.out.2 HS3.out.1 h7 hf7 HS3.out.2.1); have hc7 := H7.out.cell HS3.out.2.2; clear h7 hf7)
                go_roundw
                case rel => exact ⟨b, by omega, by first | rfl | go_num, H7.out⟩
                case measure => (simp [intOf]) <;> omega
          · clear hlt
            obtain ⟨AG, cG, rfl, hGi⟩ := ints_of_own HJ.out.g
            obtain ⟨fv, S, hS, hL⟩ := HJ.out.i.ex
            have hgl := hL.glen
            have hFr := Free_any hS (by rw [hL.free, List.length_map]; omega)
            rw [hL.fmap] at hFr
            have HFr := Lib.hid (And.intro hFr hGi)
            dsimp only at HFr
            clear hS hL hFr hGi
            go_wp2_with (first | (go_at_call 21; refine HFr.out.1.mono ?_; rintro e w5 hp; obtain ⟨A5, c5, rfl, hi5, hg5⟩ := ints_of_made hp; have H5 := Lib.hid (HJ.out.grow hg5); have HSM := Lib.hid (same_any (c := c5) (d := cG) hi5 (HFr.out.2.grow hg5) (by omega)); rw [show (gl == gl) = true by simp] at HSM; clear hp hi5 hg5) | (go_at_call 20; refine HSM.out.mono ?_; rintro e w6 ⟨rfl, hg6⟩; have H6 := Lib.hid (H5.out.grow hg6); clear hg6))
            go_loopw [17] (fun i wr => ∃ b : Nat, b ≤ gl.length ∧ i = .int .i64 ((b : Int) - 1) ∧ Hid (LsJ w1 wL w2.heap.size q n (1 + m) k (gl.take b) (.slice (some ⟨gv, 0, none⟩) k cv) (.slice AG gl.length cG) gl wr)) (fun i _ => (intOf i + 1).toNat)
            case atStart => exact ⟨gl.length, Nat.le_refl _, rfl, by rw [List.take_length]; exact H6.out⟩
            case round =>
              obtain ⟨b, hb, rfl, HK⟩ := hrel
              cases b with
              | zero =>
                obtain ⟨fv3, S3, hS3, hL3⟩ := HK.out.i.ex
                have hF3 := Free_any hS3 (by rw [hL3.free]; simp)
                rw [hL3.fmap] at hF3
                have hN3 := nodes_any hS3 (adr r k) (by have := hL3.perm; rw [List.take_zero, List.append_nil, ← HR2.out] at this; exact this) (adr_sorted (by omega) _) (by have := hL3.perm.length_eq; rw [List.take_zero, List.append_nil, List.length_map, adr_len] at this; omega)
                have hal := adr_len r k
                have HF3 := Lib.hid hF3
                have HN3 := Lib.hid (fun (w' : World) (hg : Grow wr w') => nodes_any (hS3.grow hg) (adr r k) (by have := hL3.perm; rw [List.take_zero, List.append_nil, ← HR2.out] at this; exact this) (adr_sorted (by omega) _) (by have := hL3.perm.length_eq; rw [List.take_zero, List.append_nil, List.length_map, adr_len] at this; omega))
                have hV := (by have := HK.out.i.row; rw [← HR2.out] at this; exact this : wr.ownsRow w2.heap.size 3 1 (.slice (some ⟨gv, 0, none⟩) k cv) k ((adr r k).map (Value.int .i64)))
                obtain ⟨AV, cV, eV, hVi⟩ := ints_of_own hV
                rw [hal] at eV
                have HV := Lib.hid (And.intro eV hVi)
                dsimp only at HF3 HN3
                clear hS3 hL3 hF3 hN3 hV eV hVi
                have e0 : (((0 : Nat) : Int) - 1) = -1 := by omega
                rw [e0]
                go_wp2_with (first | (go_at_call 21; refine HF3.out.mono ?_; rintro e w8 hp; obtain ⟨A8, c8, rfl, hi8, hg8⟩ := ints_of_made hp; have H8 := Lib.hid hg8; clear hp hi8 hg8) | (go_at_call 19; refine (HN3.out _ H8.out).mono ?_; rintro e w9 hp; obtain ⟨A9, c9, rfl, hi9, hg9⟩ := ints_of_made hp; have H9 := Lib.hid (H8.out.trans hg9); have HSM2 : Hid (Calls Try.prog 20 #[.slice A9 k c9, .slice (some ⟨gv, 0, none⟩) k cv] w9 (EqP w9 true)) := (by have h9 := same_any (c := c9) (d := cV) hi9 (HV.out.2.grow H9.out) (by omega); rw [show (adr r k == adr r k) = true by simp, hal] at h9; rw [HV.out.1]; exact h9); clear hp hi9 hg9) | (go_at_call 20; refine HSM2.out.mono ?_; rintro e w10 ⟨rfl, hg10⟩; have H10 := Lib.hid (H9.out.trans hg10); clear hg10))
                exact HR.out _ _ ⟨rfl, H1.out.trans (HK.out.i.gr.trans H10.out)⟩
              | succ b =>
                have e1 : (((b + 1 : Nat) : Int) - 1) = (b : Int) := by omega
                rw [e1]
                have hbl : b < gl.length := by omega
                have hbi : (b : Int) < (gl.length : Int) := by omega
                obtain ⟨b3, o3, rfl, _⟩ := HFr.out.2.at_ hbl
                have htk := List.take_succ_eq_append_getElem hbl
                have hgt : gl[b]? = some gl[b] := List.getElem?_eq_getElem hbl
                obtain ⟨fv3, S3, hS3, hL3⟩ := HK.out.i.ex
                rw [htk] at hL3
                generalize gl[b] = a at hgt hL3 htk
                obtain ⟨S4, hm4, hL4⟩ := hL3.mk_last (by omega) (by omega)
                have HM4 := Lib.hid ((make_any hS3 (by rw [hL3.free, List.length_map, List.length_append, List.length_take]; simp; omega) (1 + m)).mono fun _ _ h => MakeP.of h hm4)
                dsimp only at HM4
                have HS3 := Lib.hid (And.intro hS3 (And.intro hL4 hgt))
                clear hS3 hL3 hm4 hL4 htk hgt e1
                go_wp2_with (go_at_call 10; refine HM4.out.mono ?_; rintro e w7 ⟨rfl, fv7, h7, hf7, _⟩; have H7 := Lib.hid (HK.out.heap H2.out.2.2 HW.out.2 HS3.out.1 h7 hf7 HS3.out.2.1); have hc7 := H7.out.cell HS3.out.2.2; clear h7 hf7)
                go_roundw
                case rel => exact ⟨b, by omega, by first | rfl | go_num, H7.out⟩
                case measure => (simp [intOf]) <;> omega
end Go.Proofs.Ythkcihkeklojcaa
