/- Hits. -/
import Derived.Test.YtacfchepacfjnaaOfH
import Derived.Test.YtacfchepacfjnaaOfD
set_option linter.unusedVariables false
set_option linter.unusedSimpArgs false
namespace Go.Proofs.Ytacfchepacfjnaa
open Go.RowKit Go.Kx Go.Maps Go.Sort Go.Shelf
open Go.ChangeMaps (setBlock)
attribute [local go_sem] Oper.semAt_some
/-- How many of all changes find a bug, with these priorities. -/
def hitO (cs : List Int) (i s j u : Int) (ls : List (List Int)) (o : List Int) : Nat := ls.countP fun l => fnd (sched cs o l) i s j u
def hitN (cs : List Int) (i s j u : Int) (os ls : List (List Int)) : Nat := (os.map (hitO cs i s j u ls)).sum
theorem hitO_le (cs : List Int) (i s j u : Int) (ls : List (List Int)) (o : List Int) : hitO cs i s j u ls o ≤ ls.length := List.countP_le_length
theorem hitN_le (cs : List Int) (i s j u : Int) (os ls : List (List Int)) : hitN cs i s j u os ls ≤ os.length * ls.length := by
  unfold hitN
  induction os with
  | nil => simp
  | cons o os ih =>
    have := hitO_le cs i s j u ls o
    simp only [List.map_cons, List.sum_cons, List.length_cons, Nat.add_mul]
    omega
theorem hitN_snoc (cs : List Int) (i s j u : Int) (os ls : List (List Int)) (o : List Int) : hitN cs i s j u (os ++ [o]) ls = hitN cs i s j u os ls + hitO cs i s j u ls o := by
  unfold hitN; simp
theorem hitO_snoc (cs : List Int) (i s j u : Int) (ls : List (List Int)) (o l : List Int) : hitO cs i s j u (ls ++ [l]) o = hitO cs i s j u ls o + if fnd (sched cs o l) i s j u then 1 else 0 := by
  unfold hitO; rw [List.countP_append]; simp [List.countP_cons]
theorem lsts_len (n k : Nat) : (lsts n k).length = k ^ n := by
  induction n with
  | zero => rfl
  | succ n ih =>
    have : ∀ i, (lstsTo n k i).length = i * k ^ n := by
      intro i
      induction i with
      | zero => simp [lstsTo]
      | succ i ihi => rw [lstsTo_succ, List.length_append, ihi, List.length_map, ih, Nat.add_mul]; simp
    rw [← lstsTo_all, this, Nat.pow_succ, Nat.mul_comm]
theorem ords_len4 (m : Nat) (h : m ≤ 4) : (ords m (numL m)).length ≤ 24 := by
  have : ∀ m ∈ List.range 5, (ords m (numL m)).length ≤ 24 := by decide +kernel
  exact this m (by simp; omega)
theorem lsts_len2 {n k : Nat} (h : n ≤ 2) (hk : k ≤ 24) : (lsts n k).length ≤ 576 := by
  rw [lsts_len]
  match n, h with
  | 0, _ => simp
  | 1, _ => simp; omega
  | 2, _ => rw [Nat.pow_two]; exact Nat.mul_le_mul hk hk
/-- What Hits keeps in memory. -/
structure HitI (w : World) (A : Option Addr) (ca : Nat) (cs : List Int) (d i s j u : Int) (hits all_ : Nat) (W : World) : Prop where
  b3 : Boxed W w.heap.size 22 (.slice A cs.length ca)
  b4 : Boxed W (w.heap.size + 1) 3 (.int .i64 d)
  b5 : W.heap[w.heap.size + 1 + 1]? = some (.cells #[.int .i64 i, .int .i64 s, .int .i64 j, .int .i64 u] 35 (0, 0))
  b6 : Boxed W (w.heap.size + 1 + 1 + 1) 3 (.int .i64 (hits : Int))
  b7 : Boxed W (w.heap.size + 1 + 1 + 1 + 1) 3 (.int .i64 (all_ : Int))
  gr : Grow w W
section
variable {w : World} {A : Option Addr} {ca : Nat} {cs : List Int} {d i s j u : Int} {hits all_ : Nat} {W W' : World}
theorem HitI.grow (h : HitI w A ca cs d i s j u hits all_ W) (hg : Grow W W') : HitI w A ca cs d i s j u hits all_ W' :=
  ⟨hg.at_ h.b3, hg.at_ h.b4, hg.at_ h.b5, hg.at_ h.b6, hg.at_ h.b7, h.gr.trans hg⟩
theorem HitI.kept (h : HitI w A ca cs d i s j u hits all_ W) {row : Option Nat} {B : Nat} (hB : w.heap.size ≤ B) (hg : W.grownBy W' row) (hr : ∀ r, row = some r → B ≤ r ∧ ∃ o : Obj, W.heap[r]? = some o ∧ o.isCells = false) : HitI w A ca cs d i s j u hits all_ W' := by
  have hr' : ∀ r, row = some r → ∃ o : Obj, W.heap[r]? = some o ∧ o.isCells = false := fun r e => (hr r e).2
  refine ⟨h.b3.kept hg (box_noncell h.b3 hr'), h.b4.kept hg (box_noncell h.b4 hr'), ?_, h.b6.kept hg (box_noncell h.b6 hr'), h.b7.kept hg (box_noncell h.b7 hr'), h.gr.grown hg (fun k e => Nat.le_trans hB (hr k e).1)⟩
  rw [hg.block _ (blk_lt h.b5) (fun e => by
    obtain ⟨o, ho, hc⟩ := hr' _ e.symm
    rw [h.b5] at ho; cases ho; cases hc)]
  exact h.b5
theorem HitI.start (w : World) (A : Option Addr) (ca : Nat) (cs : List Int) (d i s j u : Int) : HitI w A ca cs d i s j u 0 0 (((((w.alloc (.cells #[.slice A cs.length ca] 22)).alloc (.cells #[.int .i64 d] 3)).alloc (.cells #[.int .i64 i, .int .i64 s, .int .i64 j, .int .i64 u] 35)).alloc (.cells #[.int .i64 0] 3)).alloc (.cells #[.int .i64 0] 3)) := by
  have h4 := Boxed.new (w.alloc (.cells #[.slice A cs.length ca] 22)) 3 (.int .i64 d)
  have h5 := blk_new ((w.alloc (.cells #[.slice A cs.length ca] 22)).alloc (.cells #[.int .i64 d] 3)) (.cells #[.int .i64 i, .int .i64 s, .int .i64 j, .int .i64 u] 35)
  have h6 := Boxed.new (((w.alloc (.cells #[.slice A cs.length ca] 22)).alloc (.cells #[.int .i64 d] 3)).alloc (.cells #[.int .i64 i, .int .i64 s, .int .i64 j, .int .i64 u] 35)) 3 (.int .i64 0)
  have h7 := Boxed.new ((((w.alloc (.cells #[.slice A cs.length ca] 22)).alloc (.cells #[.int .i64 d] 3)).alloc (.cells #[.int .i64 i, .int .i64 s, .int .i64 j, .int .i64 u] 35)).alloc (.cells #[.int .i64 0] 3)) 3 (.int .i64 0)
  simp only [World.size_alloc] at h4 h5 h6 h7
  exact ⟨((((Boxed.new w 22 _).alloc _).alloc _).alloc _).alloc _, ((h4.alloc _).alloc _).alloc _, blk_alloc' _ (blk_alloc' _ h5), h6.alloc _, h7, (((((Grow.refl w).alloc _).alloc _).alloc _).alloc _).alloc _⟩
theorem HitI.setH (h : HitI w A ca cs d i s j u hits all_ W) (n : Nat) : HitI w A ca cs d i s j u n all_ (W.setCell ⟨w.heap.size + 1 + 1 + 1, 0, none⟩ (.int .i64 (n : Int))) := by
  refine ⟨(blk_set_other (by show w.heap.size ≠ w.heap.size + 1 + 1 + 1; omega) _).trans h.b3, (blk_set_other (by show w.heap.size + 1 ≠ w.heap.size + 1 + 1 + 1; omega) _).trans h.b4, (blk_set_other (by show w.heap.size + 1 + 1 ≠ w.heap.size + 1 + 1 + 1; omega) _).trans h.b5, ?_, (blk_set_other (by show w.heap.size + 1 + 1 + 1 + 1 ≠ w.heap.size + 1 + 1 + 1; omega) _).trans h.b7, h.gr.setCell _ _ (by show w.heap.size ≤ w.heap.size + 1 + 1 + 1; omega)⟩
  exact (blk_set h.b6 0 _).trans (by simp)
theorem HitI.setA (h : HitI w A ca cs d i s j u hits all_ W) (n : Nat) : HitI w A ca cs d i s j u hits n (W.setCell ⟨w.heap.size + 1 + 1 + 1 + 1, 0, none⟩ (.int .i64 (n : Int))) := by
  refine ⟨(blk_set_other (by show w.heap.size ≠ w.heap.size + 1 + 1 + 1 + 1; omega) _).trans h.b3, (blk_set_other (by show w.heap.size + 1 ≠ w.heap.size + 1 + 1 + 1 + 1; omega) _).trans h.b4, (blk_set_other (by show w.heap.size + 1 + 1 ≠ w.heap.size + 1 + 1 + 1 + 1; omega) _).trans h.b5, (blk_set_other (by show w.heap.size + 1 + 1 + 1 ≠ w.heap.size + 1 + 1 + 1 + 1; omega) _).trans h.b6, ?_, h.gr.setCell _ _ (by show w.heap.size ≤ w.heap.size + 1 + 1 + 1 + 1; omega)⟩
  exact (blk_set h.b7 0 _).trans (by simp)
end
theorem SeqM.inRound {α : Type} {F : Fence} {n : Nat} {P : Program} {g : Nat} {lb : Array Value} {encs : α → Array Value} {Rd : α → (Nat → Prop) → World → Prop} {S Sp : List α → Prop} {N : Nat} {own : Nat → Prop} {W : World} (l : Nat) (h : SeqM F n P g lb encs Rd S Sp N own W) : SeqM (F.inRound l) n P g lb encs Rd S Sp N own W := h
theorem boxed_ne {W : World} {B B' : Nat} {t t' : TypeId} {v v' : Value} (h : Boxed W B t v) (h' : Boxed W B' t' v') (ht : t ≠ t') : B ≠ B' := by
  rintro rfl
  have h1 : W.heap[B]? = some (.cells #[v] t (0, 0)) := h
  have h2 : W.heap[B]? = some (.cells #[v'] t' (0, 0)) := h'
  rw [h1] at h2
  cases h2
  exact ht rfl
/-- The blocks that rounds may turn. -/
def hitM (w : World) (k : Nat) : Prop := k = w.heap.size + 1 + 1 + 1 ∨ k = w.heap.size + 1 + 1 + 1 + 1
def okH (cs : List Int) (d i s j u : Int) : Bool := decide (0 < tot cs) && (decide (0 ≤ d) && (decide (d ≤ 2) && bugB cs i s j u))
def HitsP (w : World) (cs : List Int) (d i s j u : Int) (e : Ending) (w' : World) : Prop :=
  (if okH cs d i s j u then e = .returned (.tuple #[.int .i64 (hitN cs i s j u (ords cs.length (numL cs.length)) (lsts d.toNat (tot cs).toNat) : Nat), .int .i64 ((ords cs.length (numL cs.length)).length * (lsts d.toNat (tot cs).toNat).length : Nat), .int .i64 0])
    else e = .returned (.tuple #[.int .i64 0, .int .i64 0, .int .i64 1])) ∧ Grow w w'
set_option maxRecDepth 100000 in
set_option maxHeartbeats 4000000 in
theorem Hits_yes {w : World} {A : Option Addr} {ca : Nat} {cs : List Int} (h1 : IntsAt w A cs) (d i s j u : Int) (hv : 0 < tot cs) (hd0 : 0 ≤ d) (hd2 : d ≤ 2) (hb : bugB cs i s j u = true) :
    CallsIn Fence.wide 40 Try.prog 32 #[.slice A cs.length ca, .int .i64 d, bugV i s j u] w (HitsP w cs d i s j u) := by
  obtain ⟨hm1, hm4, hvs, hts⟩ := tot_pos hv
  have htb := (tot_bd cs).2
  have HV := Lib.hid (fun (W : World) (hg : Grow w W) => valid_any (w := W) (cap := ca) (h1.grow hg))
  have HB := Lib.hid (fun (W : World) (hg : Grow w W) => isBug_any (w := W) (ca := ca) (h1.grow hg) i s j u)
  have HNum := Lib.hid (fun (W : World) => numbers_any W cs.length hm4)
  rw [show decide (0 < tot cs) = true by simp [hv]] at HV
  rw [hb] at HB
  have hf16 : Fence.wide.fn 16 := trivial
  have hf43 : Fence.wide.fn 43 := trivial
  have hf51 : Fence.wide.fn 51 := trivial
  have hf50 : Fence.wide.fn 50 := trivial
  have H := Lib.hid (And.intro h1 (And.intro hvs hts))
  clear h1 hvs hts
  unfold bugV at HB ⊢
  have HI0 : Hid (∀ W, Grow (((((w.alloc (.cells #[.slice A cs.length ca] 22)).alloc (.cells #[.int .i64 d] 3)).alloc (.cells #[.int .i64 i, .int .i64 s, .int .i64 j, .int .i64 u] 35)).alloc (.cells #[.int .i64 0] 3)).alloc (.cells #[.int .i64 0] 3)) W → HitI w A ca cs d i s j u 0 0 W) := fun W hg => HitI.grow (HitI.start w A ca cs d i s j u) hg
  have hdn : ¬ d < 0 := by omega
  have hdn2 : ¬ 2 < d := by omega
  have hdf : decide (d < 0) = false := by simp; omega
  have hdf2 : decide (2 < d) = false := by simp; omega
  have hnl := numL_len cs.length
  have hd0' := Lib.hid hd0
  clear hd0 hd2
  have HG0 : Hid (∀ o1 o2 o3 o4 o5, Grow w (((((w.alloc o1).alloc o2).alloc o3).alloc o4).alloc o5)) := fun o1 o2 o3 o4 o5 => (((((Grow.refl w).alloc _).alloc _).alloc _).alloc _).alloc _
  refine callsIn_of_wp_marks Try.func32 rfl trivial ?_ rfl
  simp only [Try.ntmps32, List.size_toArray, List.length_cons, List.length_nil, Nat.reduceAdd, Nat.reduceSub, Array.replicate_succ, Array.replicate_zero, List.push_toArray, List.append_toArray, List.nil_append, List.cons_append]
  gi_wp2_with (first | (gi_at_call 16; refine (callsIn_wide.2 (HV.out _ (HG0.out _ _ _ _ _))).mono ?_; rintro e w' ⟨rfl, rfl⟩) | (gi_at_call 43; refine (callsIn_wide.2 (HB.out _ (HG0.out _ _ _ _ _))).mono ?_; rintro e w2 ⟨rfl, hg⟩; have H2 := Lib.hid (HI0.out _ hg); have c3 := H2.out.b3.cell; clear hg) | (gi_at_call 51; refine (callsIn_wide.2 (HNum.out _)).mono ?_; rintro e w3 ⟨v3, rfl, hrow3, hg3⟩; obtain ⟨A3, c3, rfl, hi3, hb3⟩ := ints_of_own hrow3; have H3 := Lib.hid (And.intro hrow3 (And.intro hi3 (And.intro hb3 hg3))); clear hrow3 hi3 hb3 hg3) | (gi_at_call 50; refine (orders_in _ _ _ _ _).mono ?_; rintro e w' ⟨rfl, rfl⟩))
  --WALK
  have hcap3 : cs.length ≤ c3 ∧ c3 ≤ maxLen ∧ (numL cs.length = [] ∨ A3 ≠ none) := by
    rcases H3.out.1.2 with ⟨e, h0⟩ | ⟨g, c9, cur, e, hb1, hb2, hb3, hb4, _⟩
    · rw [hnl] at h0; omega
    · cases e
      rw [hnl] at hb3
      exact ⟨hb3, hb4, .inr (by simp)⟩
  obtain ⟨K, hK⟩ := Int.eq_ofNat_of_zero_le (show 0 ≤ tot cs by omega)
  obtain ⟨dn, rfl⟩ := Int.eq_ofNat_of_zero_le hd0'.out
  have hdn2' : dn ≤ 2 := by omega
  have hK24 : K ≤ 24 := by omega
  have HL0 : Hid (ords cs.length (numL cs.length) = ords cs.length (numL cs.length)) := rfl
  have hOl := ords_len24 cs.length hm4
  have hLl := lsts_len2 hdn2' hK24
  have HNl := Lib.hid (numL_len cs.length)
  have HO := Lib.hid (ordersAt cs.length hm4 (numL cs.length) HNl.out)
  have HLs := Lib.hid (lists_at dn hdn2' K hK24)
  have HSm := Lib.hid (fun (W : World) (hg : Grow w W) => sum_any (w := W) (cap := ca) (H.out.1.grow hg) H.out.2.1 (by omega))
  rw [show cs.sum = (K : Int) from H.out.2.2 ▸ hK] at HSm
  have HSch : Hid (∀ (W : World), Grow w W → ∀ (B C : Option Addr) (cb cc : Nat) (ps chs : List Int), IntsAt W B ps → IntsAt W C chs → ps.length = cs.length → chs.length ≤ 2 → Calls Try.prog 38 #[.slice A cs.length ca, .slice B ps.length cb, .slice C chs.length cc] W (Made W (sched cs ps chs))) := fun W hg B C cb cc ps chs hp hc hpl hcl => by
    rw [hpl]
    exact schedule_any (H.out.1.grow hg) hp hc H.out.2.1 hm1 hm4 rfl hpl hcl
  have HLen : Hid (∀ ps chs, (sched cs ps chs).length ≤ 1000) := fun ps chs => by rw [sched_len hv]; have := H.out.2.2; omega
  have HOK : Hid (okH cs (dn : Int) i s j u = true) := by
    unfold okH; rw [hb, decide_eq_true hv, decide_eq_true (show (0 : Int) ≤ (dn : Int) by omega), decide_eq_true (show (dn : Int) ≤ 2 by omega)]; rfl
  have HKt : Hid ((tot cs).toNat = K) := by show _ = _; omega
  have hwa : (w3.alloc (.cells #[.slice A3 cs.length c3] 22)).heap.size = w3.heap.size + 1 := World.size_alloc _ _
  have hI3 : HitI w A ca cs dn i s j u 0 0 (w3.alloc (.cells #[.slice A3 cs.length c3] 22)) := H2.out.grow (H3.out.2.2.2.alloc _)
  have hbx : Boxed (w3.alloc (.cells #[.slice A3 cs.length c3] 22)) w3.heap.size 22 (.slice A3 cs.length c3) := Boxed.new w3 22 _
  have hin3 : IntsAt (w3.alloc (.cells #[.slice A3 cs.length c3] 22)) A3 (numL cs.length) := H3.out.2.1.grow ((Grow.refl w3).alloc _)
  have hw23 : w2.heap.size ≤ w3.heap.size := H3.out.2.2.2.size
  have hb7 := H2.out.b7.lt
  have H4 := Lib.hid (And.intro hI3 (And.intro hbx (And.intro hin3 hcap3)))
  clear hI3 hbx hin3 hcap3 hb hK hv htb
  generalize hgw : w3.alloc (.cells #[.slice A3 cs.length c3] 22) = wA at H4 hwa ⊢
  clear hgw
  have e60 := enters_of Try.func60 (by kernel_rfl) rfl
  have e62 := enters_of Try.func62 (by kernel_rfl) rfl
  refine range_outer (α := Elt) (P := Try.prog) rfl (by omega) (gf := 60) (lb := #[.pointer (some ⟨w3.heap.size, 0, none⟩)]) rfl trivial e60
    (fun W' hg _ => HO.out 39 (by omega) w3.heap.size A3 c3 W' (hg.at_ H4.out.2.1) (H4.out.2.2.1.grow hg) H4.out.2.2.2.1 H4.out.2.2.2.2.1 H4.out.2.2.2.2.2) (fun _ => rfl)
    (fun pre M W => HitI w A ca cs dn i s j u (hitN cs i s j u (pre.map Prod.snd) (lsts dn K)) (pre.length * (lsts dn K).length) W ∧ M = hitM w)
    (fun _ _ _ => False) ?hI (fun _ _ _ _ _ h _ _ => h) ?hIM (fun x M => rdM_keeps cs.length x M _) (hitM w) ?hM0 ?h0
    (fun x a' W => ∃ p, Boxed W p 22 (.slice x.1.1 x.1.2.1 x.1.2.2) ∧ a' = { tmps := #[.slice A cs.length ca, .int .i64 (dn : Int), .agg #[.int .i64 i, .int .i64 s, .int .i64 j, .int .i64 u], .pointer (some ⟨w.heap.size, 0, none⟩), .pointer (some ⟨w.heap.size + 1, 0, none⟩), .pointer (some ⟨w.heap.size + 1 + 1, 0, none⟩), .pointer (some ⟨w.heap.size + 1 + 1 + 1, 0, none⟩), .pointer (some ⟨w.heap.size + 1 + 1 + 1 + 1, 0, none⟩), .int .i64 0, .pointer (some ⟨p, 0, none⟩), undef, .slice A cs.length ca, .bool true, .bool false, .bool false, .int .i64 (dn : Int), .bool false, .bool false, .bool false, .int .i64 (dn : Int), .bool false, .bool false, .bool false, .slice A cs.length ca, .agg #[.int .i64 i, .int .i64 s, .int .i64 j, .int .i64 u], .bool true, .bool false, .bool false, .slice A cs.length ca, .int .i64 (cs.length : Int), .slice A3 cs.length c3, .func (.func 60) #[] #[.pointer (some ⟨w3.heap.size, 0, none⟩)], .slice x.1.1 x.1.2.1 x.1.2.2, undef, undef, undef, undef, undef, undef, undef, undef, undef, undef, undef, undef, undef, undef, undef, undef, undef], defers := [] }) ?hAx ?assign ?body ?done ?stop
  case hI =>
    rintro pre M X X' row ⟨h1, h2⟩ hg hr
    exact ⟨h1.kept (by omega) hg hr, h2⟩
  case hIM =>
    rintro pre M X ⟨h1, rfl⟩ k (rfl | rfl)
    · exact h1.b6.lt
    · exact h1.b7.lt
  case hM0 =>
    rintro k (rfl | ⟨_, hk⟩) (h | h)
    · omega
    · omega
    · have := (H3.out.1.lt k (H3.out.2.2.1 k hk)).1; omega
    · have := (H3.out.1.lt k (H3.out.2.2.1 k hk)).1; omega
  case h0 => exact ⟨by simpa [hitN] using H4.out.1, rfl⟩
  case hAx =>
    rintro x a' _ X X' row ⟨p, h1, h3⟩ hg hr
    exact ⟨p, h1.kept hg (box_noncell h1 (fun r e => (hr r e).2)), h3⟩
  case assign =>
    rintro lq pre M x X K' ⟨hi', rfl⟩ hrd' hK'
    have hst : Step (hitM w) X (hitM w) (X.alloc (.cells #[.slice x.1.1 x.1.2.1 x.1.2.2] 22)) := ⟨(Fr.refl _ X).alloc _, fun k h => .inl h⟩
    have HK := Lib.hid (hK' _ (hitM w) (X.alloc (.cells #[.slice x.1.1 x.1.2.1 x.1.2.2] 22)) hst ⟨hi'.grow ((Grow.refl X).alloc _), rfl⟩ ⟨rdL_fr cs.length x _ X _ hrd'.1 hrd'.2 hst.fr, fun k hk => ⟨Nat.lt_of_lt_of_le (hrd'.2 k hk).1 hst.fr.size, (hrd'.2 k hk).2⟩⟩ ⟨X.heap.size, Boxed.new X 22 _, rfl⟩)
    clear hK' hi' hrd' hst
    gi_wp2
    exact HK.out
  case body =>
    rintro l0 pre M x a' X hMl ⟨r0, hl0⟩ ⟨hi, rfl⟩ hrd ⟨p, hp, rfl⟩ hlen
    obtain ⟨hxi, hxn, hxc, hxb⟩ := rdP_ints hrd.1.1
    have hxl := hrd.1.2
    obtain ⟨⟨A5, n5, c5⟩, l5⟩ := x
    dsimp only at hxi hxn hxc hxl hp
    subst hxn
    have b4 := hi.b4.cell
    have b3 := hi.b3.cell
    have b4d : X.drew.cell? ⟨w.heap.size + 1, 0, none⟩ = some (.int .i64 (dn : Int)) := hi.b4.cell
    have b3d : X.drew.cell? ⟨w.heap.size, 0, none⟩ = some (.slice A cs.length ca) := hi.b3.cell
    have HX := Lib.hid (And.intro hi (And.intro hrd (And.intro hp (And.intro hl0 (And.intro hlen (And.intro hxi hxl))))))
    have hf35 : Fence.wide.fn 35 := trivial
    have hf53 : Fence.wide.fn 53 := trivial
    have hxl' := Lib.hid hxl
    clear hi hrd hp hl0 hlen hxi hxb hxc hMl hxl
    gi_wp2
    have hmix5 : Try.prog.follows .mixedOrders = true := by kernel_rfl
    refine wpIn_mono (Q := fun e a' w' => match e with
      | .normal => ∃ Wb : World, Grow X Wb ∧ w' = (Wb.alloc (.cells #[.int .i64 (dn : Int)] 3)).alloc (.cells #[.int .i64 (K : Int)] 3) ∧ a' = { tmps := #[.slice A cs.length ca, .int .i64 (dn : Int), .agg #[.int .i64 i, .int .i64 s, .int .i64 j, .int .i64 u], .pointer (some ⟨w.heap.size, 0, none⟩), .pointer (some ⟨w.heap.size + 1, 0, none⟩), .pointer (some ⟨w.heap.size + 1 + 1, 0, none⟩), .pointer (some ⟨w.heap.size + 1 + 1 + 1, 0, none⟩), .pointer (some ⟨w.heap.size + 1 + 1 + 1 + 1, 0, none⟩), .int .i64 0, .pointer (some ⟨p, 0, none⟩), undef, .slice A cs.length ca, .bool true, .bool false, .bool false, .int .i64 (dn : Int), .bool false, .bool false, .bool false, .int .i64 (dn : Int), .bool false, .bool false, .bool false, .slice A cs.length ca, .agg #[.int .i64 i, .int .i64 s, .int .i64 j, .int .i64 u], .bool true, .bool false, .bool false, .slice A cs.length ca, .int .i64 (cs.length : Int), .slice A3 cs.length c3, .func (.func 60) #[] #[.pointer (some ⟨w3.heap.size, 0, none⟩)], .slice A5 l5.length c5, .int .i64 (dn : Int), .slice A cs.length ca, .int .i64 (K : Int), .func (.func 62) #[] #[.pointer (some ⟨Wb.heap.size, 0, none⟩), .pointer (some ⟨Wb.heap.size + 1, 0, none⟩)], undef, undef, undef, undef, undef, undef, undef, undef, undef, undef, undef, undef, undef], defers := [] }
      | _ => False) ?reg5 ?cont5
    case reg5 =>
      gi_region_with_o (first | (gi_at_call 35; refine (CallsIn.inRound l0 (callsIn_wide.2 (HSm.out _ (by first | exact HX.out.1.gr.drew | exact HX.out.1.gr)))).mono ?_; rintro e w' ⟨rfl, rfl⟩) | (gi_at_call 53; refine (CallsIn.inRound l0 (lists_in _ _ _ _)).mono ?_; rintro e w' ⟨rfl, rfl⟩))
      all_goals exact ⟨X.drew, (Grow.refl X).drew, rfl, rfl⟩
    case cont5 =>
      rintro e a' w' hR
      cases e with
      | normal =>
        obtain ⟨Wb, hgb, rfl, rfl⟩ := hR
        obtain ⟨Wi, hWi⟩ : ∃ Wi, Wi = (Wb.alloc (.cells #[.int .i64 (dn : Int)] 3)).alloc (.cells #[.int .i64 (K : Int)] 3) := ⟨_, rfl⟩
        have hgi : Grow X Wi := by rw [hWi]; exact (hgb.alloc _).alloc _
        have hc1 : Boxed Wi Wb.heap.size 3 (.int .i64 (dn : Int)) := by rw [hWi]; exact (Boxed.new Wb 3 _).alloc _
        have hc2 : Boxed Wi (Wb.heap.size + 1) 3 (.int .i64 (K : Int)) := by
          rw [hWi]
          have := Boxed.new (Wb.alloc (.cells #[.int .i64 (dn : Int)] 3)) 3 (.int .i64 (K : Int))
          rwa [World.size_alloc] at this
        have hIi := HX.out.1.grow hgi
        have hpi : Boxed Wi p 22 (.slice A5 l5.length c5) := hgi.at_ HX.out.2.2.1
        have hrdi : RdM cs.length ((A5, l5.length, c5), l5) (hitM w) Wi := ⟨rdL_fr cs.length _ (hitM w) X Wi HX.out.2.1.1 HX.out.2.1.2 (Fr.mono hgi (fun _ _ h => h.elim)), fun k hk => ⟨Nat.lt_of_lt_of_le (HX.out.2.1.2 k hk).1 hgi.size, (HX.out.2.1.2 k hk).2⟩⟩
        have hl0i : Wi.heap[l0]? = some (.loop r0) := hgi.at_ HX.out.2.2.2.1
        have hXB := HX.out.1.b7.lt
        have hXb := hgb.size
        have HI2 := Lib.hid (And.intro hgi (And.intro hc1 (And.intro hc2 (And.intro hIi (And.intro hpi (And.intro hrdi hl0i))))))
        rw [← hWi]
        clear hWi hgb hc1 hc2 hIi hpi hrdi hl0i
        gi_wp2
        refine range_inner (α := Elt) (P := Try.prog) rfl HI2.out.2.2.2.2.2.2 (by omega) (gf := 62) (lb := #[.pointer (some ⟨Wb.heap.size, 0, none⟩), .pointer (some ⟨Wb.heap.size + 1, 0, none⟩)]) rfl trivial e62
          (fun W' hg _ => SeqM.inRound l0 (HLs.out 37 (by omega) Wb.heap.size (Wb.heap.size + 1) W' (hg.at_ HI2.out.2.1) (hg.at_ HI2.out.2.2.1))) (fun _ => rfl)
          (fun pre2 M2 W2 => HitI w A ca cs dn i s j u (hitN cs i s j u (pre.map Prod.snd) (lsts dn K) + hitO cs i s j u (pre2.map Prod.snd) l5) (pre.length * (lsts dn K).length + pre2.length) W2 ∧ M2 = hitM w ∧ Boxed W2 p 22 (.slice A5 l5.length c5) ∧ RdM cs.length ((A5, l5.length, c5), l5) (hitM w) W2 ∧ Fr (hitM w) Wi W2)
          (fun _ _ _ => False) ?hI2 (fun _ _ _ _ _ h _ _ => h) ?hIM2 (fun y M => rdM_keeps dn y M _) (hitM w) ?hM02 ?h02
          (fun y a' _ => a' = { tmps := #[.slice A cs.length ca, .int .i64 (dn : Int), .agg #[.int .i64 i, .int .i64 s, .int .i64 j, .int .i64 u], .pointer (some ⟨w.heap.size, 0, none⟩), .pointer (some ⟨w.heap.size + 1, 0, none⟩), .pointer (some ⟨w.heap.size + 1 + 1, 0, none⟩), .pointer (some ⟨w.heap.size + 1 + 1 + 1, 0, none⟩), .pointer (some ⟨w.heap.size + 1 + 1 + 1 + 1, 0, none⟩), .int .i64 0, .pointer (some ⟨p, 0, none⟩), .slice y.1.1 y.1.2.1 y.1.2.2, .slice A cs.length ca, .bool true, .bool false, .bool false, .int .i64 (dn : Int), .bool false, .bool false, .bool false, .int .i64 (dn : Int), .bool false, .bool false, .bool false, .slice A cs.length ca, .agg #[.int .i64 i, .int .i64 s, .int .i64 j, .int .i64 u], .bool true, .bool false, .bool false, .slice A cs.length ca, .int .i64 (cs.length : Int), .slice A3 cs.length c3, .func (.func 60) #[] #[.pointer (some ⟨w3.heap.size, 0, none⟩)], .slice A5 l5.length c5, .int .i64 (dn : Int), .slice A cs.length ca, .int .i64 (K : Int), .func (.func 62) #[] #[.pointer (some ⟨Wb.heap.size, 0, none⟩), .pointer (some ⟨Wb.heap.size + 1, 0, none⟩)], .slice y.1.1 y.1.2.1 y.1.2.2, undef, undef, undef, undef, undef, undef, undef, undef, undef, undef, undef, undef], defers := [] }) (fun _ _ _ _ _ _ h _ _ => h) ?assign2 ?body2 ?done2 ?stop2
        case hI2 =>
          rintro pre2 M2 Y Y' row ⟨h1, h2, h3, h4, h5⟩ hg hr
          exact ⟨h1.kept (by have := HI2.out.1.size; omega) hg hr, h2, h3.kept hg (box_noncell h3 (fun r e => (hr r e).2)), rdM_keeps cs.length _ _ _ () Y Y' row h4 hg hr, h5.grown hg (fun k e => .inl (hr k e).1)⟩
        case hIM2 =>
          rintro pre2 M2 Y ⟨h1, rfl, _⟩ k (rfl | rfl)
          · exact h1.b6.lt
          · exact h1.b7.lt
        case hM02 => rintro k (rfl | rfl) (h | h) <;> omega
        case h02 => exact ⟨by simpa [hitO] using HI2.out.2.2.2.1, rfl, HI2.out.2.2.2.2.1, HI2.out.2.2.2.2.2.1, Fr.refl _ _⟩
        case assign2 =>
          rintro lq pre2 M2 y Y K' hi2 hrd' hK'
          have HK := Lib.hid (hK' _ M2 Y (Step.refl _ _) hi2 hrd' rfl)
          clear hK' hi2 hrd'
          gi_wp2
          exact HK.out
        case done2 =>
          rintro pre2 M2 Y hS ⟨h1, rfl, h3, h4, h5⟩
          have hn2 : pre2.length = (lsts dn K).length := by rw [← hS, List.length_map]
          have h6 : Step (hitM w) X (hitM w) Y := ⟨(Fr.mono HI2.out.1 (fun _ _ h => h.elim)).trans h5, fun k h => .inl h⟩
          have h7 : HitI w A ca cs dn i s j u (hitN cs i s j u ((pre ++ [((A5, l5.length, c5), l5)]).map Prod.snd) (lsts dn K)) ((pre ++ [((A5, l5.length, c5), l5)]).length * (lsts dn K).length) Y := by
            rw [List.map_append, List.map_singleton, hitN_snoc, List.length_append, List.length_singleton, Nat.add_mul, Nat.one_mul, ← hn2]
            rw [hS] at h1
            rw [← hn2] at h1
            exact h1
          have HF := Lib.hid (And.intro h6 h7)
          clear h1 h3 h4 h5 h6 h7 hS hn2
          gi_wp2
          exact ⟨hitM w, HF.out.1, HF.out.2, rfl⟩
        case stop2 =>
          intro c pre2 Y _ h
          exact h.elim
        case body2 =>
          rintro l1 pre2 M2 y a' Y hMl ⟨r1, hl1⟩ ⟨hi, rfl, hp, hrd, hfr⟩ hrd2 rfl hlen2
          obtain ⟨hyi, hyn, hyc, hyb⟩ := rdP_ints hrd2.1.1
          have hyl := hrd2.1.2
          obtain ⟨⟨A6, n6, c6⟩, l6⟩ := y
          dsimp only at hyi hyn hyc hyl
          subst hyn
          have hxi2 := (rdP_ints hrd.1.1).1
          dsimp only at hxi2
          obtain ⟨a1, ha1⟩ : ∃ a1, a1 = pre.length * (lsts dn K).length + pre2.length := ⟨_, rfl⟩
          obtain ⟨g1, hg1⟩ : ∃ g1, g1 = hitN cs i s j u (pre.map Prod.snd) (lsts dn K) + hitO cs i s j u (pre2.map Prod.snd) l5 := ⟨_, rfl⟩
          rw [← ha1, ← hg1] at hi
          have ha1b : a1 ≤ 24 * 576 + 576 := by
            have h1 : pre.length ≤ 24 := by have := HX.out.2.2.2.2.1; omega
            have := Nat.mul_le_mul h1 hLl
            omega
          have hg1b : g1 ≤ 24 * 576 + 576 := by
            have h1 := hitN_le cs i s j u (pre.map Prod.snd) (lsts dn K)
            have h2 := hitO_le cs i s j u (pre2.map Prod.snd) l5
            rw [List.length_map] at h1 h2
            omega
          have h1 := hi.setA (a1 + 1)
          have e1 : (((a1 + 1 : Nat)) : Int) = (a1 : Int) + 1 := by omega
          rw [e1] at h1
          have b7 := hi.b7.cell
          have f7 := hi.b7.frozen
          have HB2 := Lib.hid (And.intro hi (And.intro hp (And.intro hrd (And.intro hfr (And.intro hrd2 (And.intro hlen2 (And.intro ha1 hg1)))))))
          have hfrY : Fr (hitM w) Y (Y.setCell ⟨w.heap.size + 1 + 1 + 1 + 1, 0, none⟩ (.int .i64 ((a1 : Int) + 1))) := (Fr.refl _ Y).setCell _ _ (.inr (.inr rfl))
          have hp1 : Boxed (Y.setCell ⟨w.heap.size + 1 + 1 + 1 + 1, 0, none⟩ (.int .i64 ((a1 : Int) + 1))) p 22 (.slice A5 l5.length c5) := hp.other (boxed_ne hp hi.b7 (by decide)) _
          have hx1 : IntsAt (Y.setCell ⟨w.heap.size + 1 + 1 + 1 + 1, 0, none⟩ (.int .i64 ((a1 : Int) + 1))) A5 l5 := (rdP_ints (rdL_fr cs.length _ (hitM w) Y _ hrd.1 hrd.2 hfrY).1).1
          have hy1 : IntsAt (Y.setCell ⟨w.heap.size + 1 + 1 + 1 + 1, 0, none⟩ (.int .i64 ((a1 : Int) + 1))) A6 l6 := (rdP_ints (rdL_fr dn _ (hitM w) Y _ hrd2.1 hrd2.2 hfrY).1).1
          have hgY : Grow w (Y.setCell ⟨w.heap.size + 1 + 1 + 1 + 1, 0, none⟩ (.int .i64 ((a1 : Int) + 1))) := h1.gr
          obtain ⟨Y1, hY1⟩ : ∃ Y1, Y1 = Y.setCell ⟨w.heap.size + 1 + 1 + 1 + 1, 0, none⟩ (.int .i64 ((a1 : Int) + 1)) := ⟨_, rfl⟩
          rw [← hY1] at h1 hfrY hp1 hx1 hy1 hgY
          have HY1 := Lib.hid (And.intro h1 (And.intro hfrY (And.intro hp1 (And.intro hx1 (And.intro hy1 hgY)))))
          have hyl' := Lib.hid hyl
          clear hyl hi hp hrd hfr hrd2 hlen2 ha1 hg1 h1 hfrY hp1 hx1 hy1 hgY e1 hyb hyc hxi2 hyi hMl
          have hY2 := hY1.symm
          clear hY1
          gi_wp2
          try rw [hY2]
          clear hY2 b7 f7
          have x3 := HY1.out.1.b3.cell
          have xp := HY1.out.2.2.1.cell
          have x3d : Y1.drew.cell? ⟨w.heap.size, 0, none⟩ = some (.slice A cs.length ca) := x3
          have xpd : Y1.drew.cell? ⟨p, 0, none⟩ = some (.slice A5 l5.length c5) := xp
          have HC5 : Hid (∀ W', Grow Y1 W' → W'.cell? ⟨w.heap.size + 1 + 1, 0, none⟩ = some (.int .i64 i) ∧ W'.cell? ⟨w.heap.size + 1 + 1, 1, none⟩ = some (.int .i64 s) ∧ W'.cell? ⟨w.heap.size + 1 + 1, 2, none⟩ = some (.int .i64 j) ∧ W'.cell? ⟨w.heap.size + 1 + 1, 3, none⟩ = some (.int .i64 u)) := by
            intro W' hg
            have hbb := hg.at_ HY1.out.1.b5
            refine ⟨?_, ?_, ?_, ?_⟩ <;> · rw [blk_cell hbb]; rfl
          obtain ⟨d0, d1, d2, d3⟩ := HC5.out Y1.drew (Grow.refl Y1).drew
          have hf38 : Fence.wide.fn 38 := trivial
          have hf47 : Fence.wide.fn 47 := trivial
          have hmix8 : Try.prog.follows .mixedOrders = true := by kernel_rfl
          have HFd := Lib.hid (fun (W : World) (B : Option Addr) (cb : Nat) (hB : IntsAt W B (sched cs l5 l6)) => finds_any (w := W) (ca := cb) hB (HLen.out l5 l6) i s j u)
          unfold bugV at HFd
          have HS8 := Lib.hid (HSch.out Y1.drew HY1.out.2.2.2.2.2.drew A5 A6 c5 c6 l5 l6 HY1.out.2.2.2.1 HY1.out.2.2.2.2.1 hxl'.out (by have := hyl'.out; omega))
          generalize hSL : sched cs l5 l6 = SL at HFd HS8
          have HSL := Lib.hid hSL
          clear hSL
          refine wpIn_mono (Q := fun e a' w' => match e with
            | .normal => ∃ v43 : Value, Hid (Grow Y1 w') ∧ a' = { tmps := #[.slice A cs.length ca, .int .i64 (dn : Int), .agg #[.int .i64 i, .int .i64 s, .int .i64 j, .int .i64 u], .pointer (some ⟨w.heap.size, 0, none⟩), .pointer (some ⟨w.heap.size + 1, 0, none⟩), .pointer (some ⟨w.heap.size + 1 + 1, 0, none⟩), .pointer (some ⟨w.heap.size + 1 + 1 + 1, 0, none⟩), .pointer (some ⟨w.heap.size + 1 + 1 + 1 + 1, 0, none⟩), .int .i64 0, .pointer (some ⟨p, 0, none⟩), .slice A6 l6.length c6, .slice A cs.length ca, .bool true, .bool false, .bool false, .int .i64 (dn : Int), .bool false, .bool false, .bool false, .int .i64 (dn : Int), .bool false, .bool false, .bool false, .slice A cs.length ca, .agg #[.int .i64 i, .int .i64 s, .int .i64 j, .int .i64 u], .bool true, .bool false, .bool false, .slice A cs.length ca, .int .i64 (cs.length : Int), .slice A3 cs.length c3, .func (.func 60) #[] #[.pointer (some ⟨w3.heap.size, 0, none⟩)], .slice A5 l5.length c5, .int .i64 (dn : Int), .slice A cs.length ca, .int .i64 (K : Int), .func (.func 62) #[] #[.pointer (some ⟨Wb.heap.size, 0, none⟩), .pointer (some ⟨Wb.heap.size + 1, 0, none⟩)], .slice A6 l6.length c6, .int .i64 (a1 : Int), .int .i64 ((a1 : Int) + 1), .slice A cs.length ca, .slice A5 l5.length c5, .slice A6 l6.length c6, v43, .agg #[.int .i64 i, .int .i64 s, .int .i64 j, .int .i64 u], .bool (fnd SL i s j u), undef, undef, undef, undef], defers := [] }
            | _ => False) ?reg8 ?cont8
          case reg8 =>
            gi_region_with_o (first | (gi_at_call 38; refine (CallsIn.inRound l1 (CallsIn.inRound l0 (callsIn_wide.2 HS8.out))).mono ?_; rintro e w4 ⟨v4, rfl, hrow4, hg4⟩; obtain ⟨A4, c4, rfl, hi4, _⟩ := ints_of_own hrow4; obtain ⟨q0, q1, q2, q3⟩ := HC5.out w4 ((Grow.refl Y1).drew.trans hg4); have H44 := Lib.hid (And.intro hi4 ((Grow.refl Y1).drew.trans hg4)); clear hrow4 hi4 hg4) | (gi_at_call 47; refine (CallsIn.inRound l1 (CallsIn.inRound l0 (callsIn_wide.2 (HFd.out _ _ _ H44.out.1)))).mono ?_; rintro e w5 ⟨rfl, hg5⟩; have H55 := Lib.hid (H44.out.2.trans hg5); clear hg5))
            all_goals exact ⟨_, H55, rfl⟩
          case cont8 =>
            rintro e a' w' hR
            cases e with
            | normal =>
              obtain ⟨v43, HG, rfl⟩ := hR
              have hw1 := HY1.out.1.grow HG.out
              have hT : Fr (hitM w) Y w' := HY1.out.2.1.trans (Fr.mono HG.out (fun _ _ h => h.elim))
              have hpw : Boxed w' p 22 (.slice A5 l5.length c5) := HG.out.at_ HY1.out.2.2.1
              have hmp : (pre2 ++ [((A6, l6.length, c6), l6)]).map Prod.snd = pre2.map Prod.snd ++ [l6] := by simp
              have hcn := hitO_snoc cs i s j u (pre2.map Prod.snd) l5 l6
              rw [← hmp, HSL.out] at hcn
              have hln : pre.length * (lsts dn K).length + (pre2 ++ [((A6, l6.length, c6), l6)]).length = a1 + 1 := by
                rw [HB2.out.2.2.2.2.2.2.1]; simp; omega
              have HE : Hid (∀ (g2 : Nat) (W' : World), HitI w A ca cs dn i s j u g2 (a1 + 1) W' → Fr (hitM w) Y W' → Boxed W' p 22 (.slice A5 l5.length c5) → hitN cs i s j u (pre.map Prod.snd) (lsts dn K) + hitO cs i s j u ((pre2 ++ [((A6, l6.length, c6), l6)]).map Prod.snd) l5 = g2 →
                  ∃ M', Step (hitM w) Y M' W' ∧ (HitI w A ca cs dn i s j u (hitN cs i s j u (pre.map Prod.snd) (lsts dn K) + hitO cs i s j u ((pre2 ++ [((A6, l6.length, c6), l6)]).map Prod.snd) l5) (pre.length * (lsts dn K).length + (pre2 ++ [((A6, l6.length, c6), l6)]).length) W' ∧ M' = hitM w ∧ Boxed W' p 22 (.slice A5 l5.length c5) ∧ RdM cs.length ((A5, l5.length, c5), l5) (hitM w) W' ∧ Fr (hitM w) Wi W')) := by
                intro g2 W' k1 k2 k3 k4
                rw [k4, hln]
                exact ⟨hitM w, ⟨k2, fun k h => .inl h⟩, k1, rfl, k3, ⟨rdL_fr cs.length _ (hitM w) Y W' HB2.out.2.2.1.1 HB2.out.2.2.1.2 k2, fun k hk => ⟨Nat.lt_of_lt_of_le (HB2.out.2.2.1.2 k hk).1 k2.size, (HB2.out.2.2.1.2 k hk).2⟩⟩, HB2.out.2.2.2.1.trans k2⟩
              have hg1e := HB2.out.2.2.2.2.2.2.2
              have HZ := Lib.hid (And.intro hw1 (And.intro hT (And.intro hpw (And.intro hcn hg1e))))
              have y6 := hw1.b6.cell
              have f6 := hw1.b6.frozen
              clear hw1 hT hpw hmp hcn hln hg1e
              cases hf : fnd SL i s j u
              · have HF := Lib.hid hf
                clear hf
                gi_wp2
                refine HE.out g1 w' HZ.out.1 HZ.out.2.1 HZ.out.2.2.1 ?_
                rw [HZ.out.2.2.2.1, HF.out, HZ.out.2.2.2.2]
                simp
              · have HF := Lib.hid hf
                clear hf
                gi_wp2
                have hw2 := HZ.out.1.setH (g1 + 1)
                rw [show ((g1 + 1 : Nat) : Int) = (g1 : Int) + 1 by omega] at hw2
                refine HE.out (g1 + 1) _ hw2 (HZ.out.2.1.setCell _ _ (.inr (.inl rfl))) (HZ.out.2.2.1.other (boxed_ne HZ.out.2.2.1 HZ.out.1.b6 (by decide)) _) ?_
                rw [HZ.out.2.2.2.1, HF.out, HZ.out.2.2.2.2]
                simp; omega
            | _ => exact hR.elim
      | _ => exact hR.elim
  case done =>
    rintro D xs M W' hD hS ⟨h1, rfl⟩ hMD hK
    obtain ⟨hh, hhe⟩ : ∃ hh, hh = hitN cs i s j u (xs.map Prod.snd) (lsts dn K) := ⟨_, rfl⟩
    obtain ⟨aa, hae⟩ : ∃ aa, aa = xs.length * (lsts dn K).length := ⟨_, rfl⟩
    rw [← hhe, ← hae] at h1
    have HZ := Lib.hid (And.intro h1 (And.intro hS (And.intro hMD (And.intro hK (And.intro hD (And.intro hhe hae))))))
    have y6 := h1.b6.cell
    have y7 := h1.b7.cell
    have f6 := h1.b6.frozen
    have f7 := h1.b7.frozen
    clear h1 hS hMD hK hD hhe hae
    gi_wp2
    have hmix10 : Try.prog.follows .mixedOrders = true := by kernel_rfl
    have HEnd : Hid (∀ W2 : World, HitI w A ca cs dn i s j u hh aa W2 → W2.heap[D]? = some (.deferred (some [])) → ∀ tmps : Array Value, tmps.getD 6 undef = .pointer (some ⟨w.heap.size + 1 + 1 + 1, 0, none⟩) → tmps.getD 7 undef = .pointer (some ⟨w.heap.size + 1 + 1 + 1 + 1, 0, none⟩) → tmps.getD 8 undef = .int .i64 0 →
        LeavesInM Fence.wide 40 Try.prog Try.f32 tmps (HitsP w cs dn i s j u) [{ target := .collected D, args := #[] }] .returning W2) := by
      intro W2 k1 k2 tmps t6 t7 t8
      refine ⟨by simp, .inl ⟨_, _, rfl, run_takeDeferred k2, ?_⟩⟩
      have k3 := k1.kept (W' := W2.putObj D (.deferred none)) (B := D) (by have := H2.out.gr.size; have := HZ.out.2.2.2.2.1; omega) (grownBy_putObj' W2 D _) (fun r e => by cases e; exact ⟨Nat.le_refl _, _, k2, rfl⟩)
      refine ⟨.tuple #[.int .i64 (hh : Int), .int .i64 (aa : Int), .int .i64 0], ?_, ?_⟩
      · have e6 := k3.b6.cell
        have e7 := k3.b7.cell
        simp only [Array.getD_eq_getD_getElem?] at t6 t7 t8
        simp [results, Try.f32]
        rw [t6, t7, t8]
        simp [go_sem, Result.andThen, e6, e7]
      · refine ⟨?_, k3.gr⟩
        rw [HOK.out, if_pos rfl, HKt.out, HZ.out.2.2.2.2.2.1, HZ.out.2.2.2.2.2.2, ← HZ.out.2.1, List.length_map]
        rfl
    have hDn : D ≠ w.heap.size + 1 + 1 + 1 ∧ D ≠ w.heap.size + 1 + 1 + 1 + 1 := by have := HZ.out.2.2.2.2.1; omega
    have HDn : Hid (HitI w A ca cs dn i s j u hh aa ((W'.setCell ⟨w.heap.size + 1 + 1 + 1, 0, none⟩ (.int .i64 (hh : Int))).setCell ⟨w.heap.size + 1 + 1 + 1 + 1, 0, none⟩ (.int .i64 (aa : Int))) ∧ ((W'.setCell ⟨w.heap.size + 1 + 1 + 1, 0, none⟩ (.int .i64 (hh : Int))).setCell ⟨w.heap.size + 1 + 1 + 1 + 1, 0, none⟩ (.int .i64 (aa : Int))).heap[D]? = some (.deferred (some []))) :=
      ⟨(HZ.out.1.setH hh).setA aa, (blk_set_other hDn.2 _).trans ((blk_set_other hDn.1 _).trans HZ.out.2.2.2.1)⟩
    clear hDn
    refine wpIn_mono (Q := fun e a' w' => match e with
      | .normal => Hid (HitI w A ca cs dn i s j u hh aa w' ∧ w'.heap[D]? = some (.deferred (some []))) ∧ a' = { tmps := #[.slice A cs.length ca, .int .i64 (dn : Int), .agg #[.int .i64 i, .int .i64 s, .int .i64 j, .int .i64 u], .pointer (some ⟨w.heap.size, 0, none⟩), .pointer (some ⟨w.heap.size + 1, 0, none⟩), .pointer (some ⟨w.heap.size + 1 + 1, 0, none⟩), .pointer (some ⟨w.heap.size + 1 + 1 + 1, 0, none⟩), .pointer (some ⟨w.heap.size + 1 + 1 + 1 + 1, 0, none⟩), .int .i64 0, undef, undef, .slice A cs.length ca, .bool true, .bool false, .bool false, .int .i64 (dn : Int), .bool false, .bool false, .bool false, .int .i64 (dn : Int), .bool false, .bool false, .bool false, .slice A cs.length ca, .agg #[.int .i64 i, .int .i64 s, .int .i64 j, .int .i64 u], .bool true, .bool false, .bool false, .slice A cs.length ca, .int .i64 (cs.length : Int), .slice A3 cs.length c3, .func (.func 60) #[] #[.pointer (some ⟨w3.heap.size, 0, none⟩)], undef, undef, undef, undef, undef, undef, undef, undef, undef, undef, undef, undef, undef, undef, undef, undef, .int .i64 (hh : Int), .int .i64 (aa : Int)], defers := [{ target := .collected D, args := #[] }] }
      | _ => False) ?reg10 ?cont10
    case reg10 =>
      gi_region_with_o (fail)
      all_goals first | exact ⟨⟨HDn.out.1.grow (Grow.refl _).drew, HDn.out.2⟩, rfl⟩ | exact ⟨HDn.out, rfl⟩
    case cont10 =>
      rintro e a' w' hR
      cases e with
      | normal =>
        obtain ⟨HQ, rfl⟩ := hR
        gi_wp2
        exact HEnd.out w' HQ.out.1 HQ.out.2 _ rfl rfl rfl
      | _ => exact hR.elim
  case stop =>
    intro D c pre W' _ _ h _
    exact h.elim
theorem hits_ret {w : World} {W' : World} {tmps : Array Value} (t6 : tmps[6]?.getD undef = .pointer (some ⟨w.heap.size + 1 + 1 + 1, 0, none⟩)) (t7 : tmps[7]?.getD undef = .pointer (some ⟨w.heap.size + 1 + 1 + 1 + 1, 0, none⟩)) (t8 : tmps[8]?.getD undef = .int .i64 1)
    (e6 : W'.cell? ⟨w.heap.size + 1 + 1 + 1, 0, none⟩ = some (.int .i64 0)) (e7 : W'.cell? ⟨w.heap.size + 1 + 1 + 1 + 1, 0, none⟩ = some (.int .i64 0)) :
    (results Try.f32 tmps).run Try.prog W' = .ok (.tuple #[.int .i64 0, .int .i64 0, .int .i64 1]) W' := by
  simp [results, Try.f32]
  rw [t6, t7, t8]
  simp [go_sem, Result.andThen, e6, e7]
set_option maxRecDepth 100000 in
set_option maxHeartbeats 4000000 in
theorem Hits_no {w : World} {A : Option Addr} {ca : Nat} {cs : List Int} (h1 : IntsAt w A cs) (d i s j u : Int) (hok : okH cs d i s j u = false) :
    Calls Try.prog 32 #[.slice A cs.length ca, .int .i64 d, bugV i s j u] w (HitsP w cs d i s j u) := by
  refine cph fun R HR => ?_
  have HV := Lib.hid (fun (W : World) (hg : Grow w W) => valid_any (w := W) (cap := ca) (h1.grow hg))
  have HB := Lib.hid (fun (W : World) (hg : Grow w W) => isBug_any (w := W) (ca := ca) (h1.grow hg) i s j u)
  have HI0 : Hid (∀ W, Grow (((((w.alloc (.cells #[.slice A cs.length ca] 22)).alloc (.cells #[.int .i64 d] 3)).alloc (.cells #[.int .i64 i, .int .i64 s, .int .i64 j, .int .i64 u] 35)).alloc (.cells #[.int .i64 0] 3)).alloc (.cells #[.int .i64 0] 3)) W → HitI w A ca cs d i s j u 0 0 W) := fun W hg => HitI.grow (HitI.start w A ca cs d i s j u) hg
  have HEnd : Hid (∀ W' : World, Grow w W' → HitsP w cs d i s j u (.returned (.tuple #[.int .i64 0, .int .i64 0, .int .i64 1])) W') := fun W' hg => ⟨by rw [hok]; rfl, hg⟩
  have HG0 : Hid (∀ o1 o2 o3 o4 o5, Grow w (((((w.alloc o1).alloc o2).alloc o3).alloc o4).alloc o5)) := fun o1 o2 o3 o4 o5 => (((((Grow.refl w).alloc _).alloc _).alloc _).alloc _).alloc _
  have HOK := Lib.hid hok
  clear h1 hok
  unfold bugV at HB ⊢
  by_cases hv : 0 < tot cs
  · rw [show decide (0 < tot cs) = true by simp [hv]] at HV
    by_cases hd : d < 0
    · clear hv
      go_enter Try.func32, Try.ntmps32
      go_wp2_with (first | (go_at_call 16; refine (HV.out _ (HG0.out _ _ _ _ _)).mono ?_; rintro e w' ⟨rfl, rfl⟩))
      exact bodyPost_ret (hits_ret rfl rfl rfl (HI0.out _ (Grow.refl _)).b6.cell (HI0.out _ (Grow.refl _)).b7.cell) rfl (HR.out _ _ (HEnd.out _ (HG0.out _ _ _ _ _)))
    · by_cases hd2 : 2 < d
      · clear hv
        go_enter Try.func32, Try.ntmps32
        go_wp2_with (first | (go_at_call 16; refine (HV.out _ (HG0.out _ _ _ _ _)).mono ?_; rintro e w' ⟨rfl, rfl⟩))
        exact bodyPost_ret (hits_ret rfl rfl rfl (HI0.out _ (Grow.refl _)).b6.cell (HI0.out _ (Grow.refl _)).b7.cell) rfl (HR.out _ _ (HEnd.out _ (HG0.out _ _ _ _ _)))
      · have hb : bugB cs i s j u = false := by
          have := HOK.out
          unfold okH at this
          rw [decide_eq_true hv, decide_eq_true (show (0 : Int) ≤ d by omega), decide_eq_true (show d ≤ 2 by omega)] at this
          exact this
        rw [hb] at HB
        clear hv hb
        have hdf : decide (d < 0) = false := by simp; omega
        have hdf2 : decide (2 < d) = false := by simp; omega
        go_enter Try.func32, Try.ntmps32
        go_wp2_with (first | (go_at_call 16; refine (HV.out _ (HG0.out _ _ _ _ _)).mono ?_; rintro e w' ⟨rfl, rfl⟩) | (go_at_call 43; refine (HB.out _ (HG0.out _ _ _ _ _)).mono ?_; rintro e w2 ⟨rfl, hg⟩; have H2 := Lib.hid (HI0.out _ hg); have c6 := H2.out.b6.cell; have c7 := H2.out.b7.cell; have f6 := H2.out.b6.frozen; have f7 := H2.out.b7.frozen; clear hg))
        exact bodyPost_ret (hits_ret rfl rfl rfl ((H2.out.setH 0).setA 0).b6.cell ((H2.out.setH 0).setA 0).b7.cell) rfl (HR.out _ _ (HEnd.out _ ((H2.out.setH 0).setA 0).gr))
  · rw [show decide (0 < tot cs) = false by simpa using hv] at HV
    clear hv
    go_enter Try.func32, Try.ntmps32
    go_wp2_with (first | (go_at_call 16; refine (HV.out _ (HG0.out _ _ _ _ _)).mono ?_; rintro e w' ⟨rfl, rfl⟩))
    exact bodyPost_ret (hits_ret rfl rfl rfl (HI0.out _ (Grow.refl _)).b6.cell (HI0.out _ (Grow.refl _)).b7.cell) rfl (HR.out _ _ (HEnd.out _ (HG0.out _ _ _ _ _)))
theorem Hits_any {w : World} {A : Option Addr} {ca : Nat} {cs : List Int} (h1 : IntsAt w A cs) (d i s j u : Int) :
    Calls Try.prog 32 #[.slice A cs.length ca, .int .i64 d, bugV i s j u] w (HitsP w cs d i s j u) := by
  cases h : okH cs d i s j u
  · exact Hits_no h1 d i s j u h
  · have h2 := h
    unfold okH at h2
    simp only [Bool.and_eq_true, decide_eq_true_eq] at h2
    exact callsIn_wide.1 (Hits_yes h1 d i s j u h2.1 h2.2.1 h2.2.2.1 h2.2.2.2)
end Go.Proofs.Ytacfchepacfjnaa
