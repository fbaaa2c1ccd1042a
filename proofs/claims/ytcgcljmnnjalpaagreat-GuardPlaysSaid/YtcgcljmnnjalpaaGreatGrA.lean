/- The reference's manager: its form in memory; Thread, Waiting. -/
import Derived.Test.YtcgcljmnnjalpaaGreatGhA
set_option linter.unusedVariables false
set_option linter.unusedSimpArgs false
namespace Go.Proofs.YtcgcljmnnjalpaaGreat
open Go.RowKit Go.Kx
open Go.ChangeMaps (setBlock)
def encR (x : Itm) : List Value := [.int .i64 x.addr, .int .i64 x.thr, .int .i64 x.at_, .int .i64 x.birth, .bool (x.for_ 0), .bool (x.for_ 1), .bool (x.for_ 2), .bool (x.for_ 3)]
theorem encR_len (x : Itm) : (encR x).length = 8 := rfl
def refArr (s : RS) (vi vb : Value) : Array Value := #[.bool true, .int .i64 s.kind, .int .i64 s.n, .int .i64 s.now,
  .int .i64 (s.holds 0 0), .int .i64 (s.holds 0 1), .int .i64 (s.holds 0 2), .int .i64 (s.holds 1 0), .int .i64 (s.holds 1 1), .int .i64 (s.holds 1 2),
  .int .i64 (s.holds 2 0), .int .i64 (s.holds 2 1), .int .i64 (s.holds 2 2), .int .i64 (s.holds 3 0), .int .i64 (s.holds 3 1), .int .i64 (s.holds 3 2),
  .bool (s.ins 0), .bool (s.ins 1), .bool (s.ins 2), .bool (s.ins 3), .int .i64 (s.lo 0), .int .i64 (s.lo 1), .int .i64 (s.lo 2), .int .i64 (s.lo 3),
  .int .i64 (s.hi 0), .int .i64 (s.hi 1), .int .i64 (s.hi 2), .int .i64 (s.hi 3), vi, vb]
theorem ref_hold (s : RS) (vi vb : Value) {t k : Nat} (ht : t < 4) (hk : k < 3) : (refArr s vi vb)[4 + t * 3 + k]? = some (.int .i64 (s.holds t k)) := by
  obtain rfl | rfl | rfl | rfl : t = 0 ∨ t = 1 ∨ t = 2 ∨ t = 3 := by omega
  all_goals
    obtain rfl | rfl | rfl : k = 0 ∨ k = 1 ∨ k = 2 := by omega
    all_goals rfl
theorem ref_ins (s : RS) (vi vb : Value) {t : Nat} (ht : t < 4) : (refArr s vi vb)[16 + t]? = some (.bool (s.ins t)) := by
  obtain rfl | rfl | rfl | rfl : t = 0 ∨ t = 1 ∨ t = 2 ∨ t = 3 := by omega
  all_goals rfl
theorem ref_lo (s : RS) (vi vb : Value) {t : Nat} (ht : t < 4) : (refArr s vi vb)[20 + t]? = some (.int .i64 (s.lo t)) := by
  obtain rfl | rfl | rfl | rfl : t = 0 ∨ t = 1 ∨ t = 2 ∨ t = 3 := by omega
  all_goals rfl
theorem ref_hi (s : RS) (vi vb : Value) {t : Nat} (ht : t < 4) : (refArr s vi vb)[24 + t]? = some (.int .i64 (s.hi t)) := by
  obtain rfl | rfl | rfl | rfl : t = 0 ∨ t = 1 ∨ t = 2 ∨ t = 3 := by omega
  all_goals rfl
/-- The birth that a list of births has for an address. -/
def birthL : List P2 → Int → Int
  | [], _ => 0
  | x :: l, a => if x.1 = a then x.2 else birthL l a
structure RMv (b : Nat) (vi vb : Value) (kb : List P2) (w : World) (F : FP) (s : RS) : Prop where
  kind : 0 ≤ s.kind ∧ s.kind ≤ 5
  ok : Ok s
  blk : w.heap[b]? = some (.cells (refArr s vi vb) 87 (0, 0))
  row : w.ownsRow 0 153 8 vi s.items.length (s.items.flatMap encR)
  brow : w.ownsRow 0 174 2 vb kb.length (kb.flatMap enc2)
  born : ∀ a, birthL kb a = s.born a
  fp : ∀ k, F k ↔ (k = b ∨ vi.ownBlock = some k ∨ vb.ownBlock = some k)
/-- The reference's guard at block b. -/
def RM (b : Nat) (w : World) (F : FP) (s : RS) : Prop := ∃ vi vb kb, RMv b vi vb kb w F s ∧ (kb.length : Int) ≤ s.now
section
variable {b : Nat} {vi vb : Value} {kb : List P2} {w : World} {F : FP} {s : RS}
theorem RMv.nei (h : RMv b vi vb kb w F s) (k : Nat) (hk : vi.ownBlock = some k) : k ≠ b ∧ vb.ownBlock ≠ some k := by
  obtain ⟨c, hc⟩ := owns_blk h.row hk
  refine ⟨?_, fun e => ?_⟩
  · rintro rfl; exact absurd (blk_ty hc h.blk) (by decide)
  · obtain ⟨d, hd⟩ := owns_blk h.brow e
    exact absurd (blk_ty hc hd) (by decide)
theorem RMv.neb (h : RMv b vi vb kb w F s) (k : Nat) (hk : vb.ownBlock = some k) : k ≠ b ∧ vi.ownBlock ≠ some k := by
  obtain ⟨c, hc⟩ := owns_blk h.brow hk
  refine ⟨?_, fun e => (h.nei k e).2 hk⟩
  rintro rfl; exact absurd (blk_ty hc h.blk) (by decide)
theorem RMv.local_fr {w' : World} {G : FP} (h : RMv b vi vb kb w F s) (hf : Fr G w w') (hn : ∀ k, F k → ¬ G k) : RMv b vi vb kb w' F s :=
  ⟨h.kind, h.ok, hf.at_ h.blk (hn b ((h.fp b).2 (.inl rfl))), owns_fr h.row hf (fun k hk => hn k ((h.fp k).2 (.inr (.inl hk)))), owns_fr h.brow hf (fun k hk => hn k ((h.fp k).2 (.inr (.inr hk)))), h.born, h.fp⟩
theorem RMv.lt (h : RMv b vi vb kb w F s) (k : Nat) (hk : F k) : k < w.heap.size := by
  rcases (h.fp k).1 hk with rfl | hk | hk
  · exact blk_lt h.blk
  · exact (h.row.lt k hk).2
  · exact (h.brow.lt k hk).2
end
theorem RM.local (b : Nat) : Local (RM b) := ⟨fun ⟨vi, vb, kb, h, _⟩ k hk => h.lt k hk, fun ⟨vi, vb, kb, h, hl⟩ hf hn => ⟨vi, vb, kb, h.local_fr hf hn, hl⟩⟩
theorem rThread {b : Nat} {vi vb : Value} {kb : List P2} {w : World} {F : FP} {s : RS} (h : RMv b vi vb kb w F s) (t : Int) : Calls Tryz.prog 122 #[.pointer (some ⟨b, 0, none⟩), .int .i64 t] w fun e w' => e = .returned (.bool (okTh s t)) ∧ w = w' := by
  refine cph fun R HR => ?_
  have k0 := (blk_cell h.blk 0).trans (rfl : _ = some (Value.bool true))
  have k2 := (blk_cell h.blk 2).trans (rfl : _ = some (Value.int .i64 s.n))
  rcases okTh_cases s t h.ok.n4 with ⟨h1, e⟩ | ⟨h1, h2, e⟩ | ⟨h1, h2, e⟩
  · rw [e] at HR
    have d1 : decide (0 ≤ t) = false := decide_eq_false (by omega)
    clear h e
    go_enter Tryz.func122, Tryz.ntmps122
    go_wp2_with fail
    exact HR.out _ _ ⟨rfl, rfl⟩
  · rw [e] at HR
    have d1 : decide (0 ≤ t) = true := decide_eq_true h2
    have d2 : decide (t < (s.n : Int)) = false := decide_eq_false (by omega)
    clear h e
    go_enter Tryz.func122, Tryz.ntmps122
    go_wp2_with fail
    exact HR.out _ _ ⟨rfl, rfl⟩
  · rw [e] at HR
    have d1 : decide (0 ≤ t) = true := decide_eq_true h1
    have d2 : decide (t < (s.n : Int)) = true := decide_eq_true h2
    clear h e
    go_enter Tryz.func122, Tryz.ntmps122
    go_wp2_with fail
    exact HR.out _ _ ⟨rfl, rfl⟩
end Go.Proofs.YtcgcljmnnjalpaaGreat
