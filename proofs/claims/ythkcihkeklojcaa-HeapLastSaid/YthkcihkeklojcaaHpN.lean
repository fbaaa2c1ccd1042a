/- Nodes: the addresses of the nodes, in ascending order. -/
import Derived.Test.YthkcihkeklojcaaHpR
import Derived.Test.YthkcihkeklojcaaShelf
import Derived.Shelf.SlIterI.Nil
import Derived.Maps.Keyed
set_option linter.unusedVariables false
set_option linter.unusedSimpArgs false
namespace Go.Proofs.Ythkcihkeklojcaa
open Go.RowKit Go.Kx Go.Maps Go.Sort Go.Shelf
open Go.WideElems (Fit rd rg rd_mk rg_of)
abbrev anyR : Value → Option (DataW Unit × List MemPlace) := fun _ => some (.lit (.bool true), [])
theorem wf64 {x : Int} (h : -9223372036854775808 ≤ x ∧ x ≤ 9223372036854775807) : (Lit.int .i64 x).wf = true := by
  simp [Lit.wf, IntKind.min, IntKind.max, IntKind.signed, IntKind.bits]; omega
/-- A map of ints as the library's contracts hold it. -/
theorem imap_owns {w : World} {b : Nat} {kv : List (Int × Value)} (h : IMap w b kv) (hk : ∀ p ∈ kv, -9223372036854775808 ≤ p.1 ∧ p.1 ≤ 9223372036854775807) (hs : kv.length ≤ maxLen) :
    ∃ D : DataW Unit, w.ownsMap Try.prog 3 anyR b kv.length D ∧ Maps.size D = kv.length ∧ (intKeys D).Perm (kv.map Prod.fst) := by
  obtain ⟨es, clock, h1, h2, h3⟩ := h
  have hlen : es.size = kv.length := by simpa using congrArg List.length h2
  have hrd : ∀ (e : MapEntry) (p : Int × Value), (e.key, e.val) = (Value.int .i64 p.1, p.2) → p ∈ kv → rd Try.prog 3 anyR e = some (.int .i64 p.1, .lit (.bool true)) := by
    intro e p he hp
    have hkey : e.key = .int .i64 p.1 := congrArg Prod.fst he
    obtain ⟨k, v, b⟩ := e
    have hkey2 : k = Value.int .i64 p.1 := hkey
    subst hkey2
    exact rd_mk (R := anyR) (yv := (.lit (.bool true), [])) (keyOf_int_mk Try.underlying3 (wf64 (hk p hp))) rfl
  have hreads : ∀ (l : List MapEntry) (m : List (Int × Value)), l.map (fun e => (e.key, e.val)) = m.map (fun p => (Value.int .i64 p.1, p.2)) → (∀ p ∈ m, p ∈ kv) → (∀ x ∈ l, ∃ y, rd Try.prog 3 anyR x = some y) ∧ (l.map (rg Try.prog 3 anyR)).map (fun p => Go.intOf p.1) = m.map Prod.fst := by
    intro l
    induction l with
    | nil => intro m hm _; cases m with
      | nil => simp
      | cons p m => simp at hm
    | cons e l ih =>
      intro m hm hsub
      cases m with
      | nil => simp at hm
      | cons p m =>
        simp only [List.map_cons, List.cons.injEq] at hm
        have h4 := hrd e p hm.1 (hsub p (by simp))
        obtain ⟨i1, i2⟩ := ih m hm.2 (fun q hq => hsub q (by simp [hq]))
        refine ⟨fun x hx => ?_, ?_⟩
        · rcases List.mem_cons.1 hx with rfl | hx
          · exact ⟨_, h4⟩
          · exact i1 x hx
        · simp only [List.map_cons, i2, rg_of h4]
          rfl
  obtain ⟨r1, r2⟩ := hreads es.toList kv h2 (fun p hp => hp)
  refine ⟨.map ((es.toList.map (rg Try.prog 3 anyR)).foldr DataW.insert []), ⟨es, clock, h1, ⟨by omega, h3, r1⟩, by omega, rfl⟩, ?_, ?_⟩
  · show List.length _ = _
    rw [(Go.WideShapes.sorted_perm _).length_eq]; simp [hlen]
  · show (List.map _ _).Perm _
    rw [← r2]
    exact (Go.WideShapes.sorted_perm _).map _
/-- Ascending order. -/
def srt (l : List Int) : List Int := l.mergeSort fun x y => decide (x ≤ y)
theorem srt_perm (l : List Int) : (srt l).Perm l := List.mergeSort_perm _ _
theorem srt_sorted (l : List Int) : (srt l).Pairwise fun x y => x ≤ y := by
  have := List.pairwise_mergeSort (le := fun x y : Int => decide (x ≤ y)) (fun a b c h1 h2 => by simp at *; omega) (fun a b => by simp; omega) l
  exact this.imp (fun {a b} h => by simpa using h)
theorem srt_eq {a b : List Int} (h : a.Perm b) (hb : b.Pairwise fun x y => x ≤ y) : srt a = b :=
  (List.Perm.eq_of_pairwise (le := fun x y : Int => x ≤ y) (fun x y _ _ h1 h2 => by omega) (srt_sorted a) hb ((srt_perm a).trans h))
/-- What lies in a slice that the call made. -/
def Made (w : World) (l : List Int) (e : Ending) (w' : World) : Prop := ∃ v, e = .returned v ∧ w'.ownsRow w.heap.size 3 1 v l.length (l.map (Value.int .i64)) ∧ Grow w w'
theorem sorts_in (m : Nat) : AnyZI.SortsIn Try.prog Try.sortedA_ren Fence.wide m :=
  ⟨fun blk off cap ss W hH hblk hsz => callsIn_wide.2 (Try.slices_Sort_int blk off cap ss W hH hblk hsz), fun p cap W => callsIn_wide.2 (Try.slices_Sort_int_none p cap W)⟩
set_option maxHeartbeats 2000000 in
theorem nodes_any {w : World} {base : Nat} {q : HB} {s : HS} (h : HeapAt w base q s) (l : List Int) (hl : (s.nodes.map Prod.fst).Perm l) (hsl : l.Pairwise fun x y => x ≤ y) (h1000 : s.nodes.length ≤ 1000) :
    Calls Try.prog 19 #[.pointer (some ⟨q.b, 0, none⟩)] w (Made w l) := by
  refine (callsIn_wide (n := 8)).1 ?_
  have HN := Lib.hid (none_any h)
  have hc := h.cell
  obtain ⟨D, hown, hsz, hperm⟩ := imap_owns h.map (fun p hp => by
    unfold kvOf at hp
    obtain ⟨r, hr, rfl⟩ := List.mem_map.1 hp
    have := h.good.nodes r hr
    have h2 : rnd r.2 = r.2 + r.2 % 2 := rfl
    dsimp only
    omega) (by unfold kvOf maxLen; rw [List.length_map]; omega)
  have hkl : (kvOf s.nodes).length = s.nodes.length := by unfold kvOf; rw [List.length_map]
  rw [hkl] at hsz
  have hkf : (kvOf s.nodes).map Prod.fst = s.nodes.map Prod.fst := by unfold kvOf; rw [List.map_map]; rfl
  rw [hkf] at hperm
  have hseq : SeqGives Fence.wide 4 Try.prog 42 #[.pointer (some ⟨w.heap.size, 0, none⟩)] encZ (fun ss => ss.Perm (intKeys D)) (Maps.size D) (w.alloc (.cells #[.map (some q.M)] 43)) :=
    AnyZI.keys_gives (ρ := Try.keysA_ren) { Try.keysA with } Fence.wide _ trivial rfl (by omega) w.heap.size q.M _ D _ (by simp) (by simp) (by
      obtain ⟨es, clock, hb, Ft, hs, hD⟩ := hown
      exact ⟨es, clock, (Below.heap_alloc _ _ q.M h.map.lt).trans hb, Ft, hs, hD⟩)
  have cK : ∀ mb W, CallsIn Fence.wide 7 Try.prog 32 #[.map mb] W fun e w' => e = .returned (.func (.func 42) #[] #[.pointer (some ⟨W.heap.size, 0, none⟩)]) ∧ w' = W.alloc (.cells #[.map mb] 43) := fun mb W => AnyZI.keys_in Try.keysA Fence.wide 7 trivial rfl mb W
  have cS := AnyZI.sorted_in Try.sortedA Fence.wide 7 trivial trivial trivial trivial rfl (by omega) (sorts_in _) (enters_of Try.func41 (by kernel_rfl) rfl) 42 #[.pointer (some ⟨w.heap.size, 0, none⟩)] trivial (enters_of Try.func42 (by kernel_rfl) rfl) _ _ (by rw [hsz]; unfold maxLen; omega) (by rw [hsz]; omega) _ hseq
  change CallsIn _ _ Try.prog 31 _ _ _ at cS
  have HS := Lib.hid cS
  have HF : Hid (∀ (v : Value) (ss : List Int) (w' : World), ss.Perm (intKeys D) → w'.ownsRow (w.alloc (.cells #[.map (some q.M)] 43)).heap.size 3 1 v ss.length ((ss.mergeSort (fun x y => decide (x ≤ y))).map encZ) → Below (w.alloc (.cells #[.map (some q.M)] 43)).heap.size (w.alloc (.cells #[.map (some q.M)] 43)) w' → Made w l (.returned v) w') := by
    intro v ss w' hS hrow hb
    have e : (ss.mergeSort fun x y => decide (x ≤ y)) = l := srt_eq (hS.trans (hperm.trans hl)) hsl
    have el : ss.length = l.length := (hS.trans (hperm.trans hl)).length_eq
    rw [e, el] at hrow
    exact ⟨v, rfl, own_base_le hrow (by simp), ((Grow.refl w).alloc _).trans (Grow.of_below hb)⟩
  have hfn : Fence.wide.fn 25 := trivial
  have hfK : Fence.wide.fn 32 := trivial
  have hfS : Fence.wide.fn 31 := trivial
  obtain ⟨c0, c1, c2, c3, c4, c5⟩ := hc
  clear hown hsz hperm hkl hkf hseq cS h hl hsl
  refine callsIn_of_wp Try.func19 rfl trivial ?_ rfl
  simp only [Try.ntmps19, List.size_toArray, List.length_cons, List.length_nil, Nat.reduceAdd, Nat.reduceSub, Array.replicate_succ, Array.replicate_zero, List.push_toArray, List.append_toArray, List.nil_append, List.cons_append]
  gi_wp2_with (first
    | (gi_at_call 25; refine (callsIn_wide.2 HN.out).mono ?_; rintro e w' ⟨rfl, rfl⟩)
    | (gi_at_call 32; refine (cK _ _).mono ?_; rintro e w' ⟨rfl, rfl⟩)
    | (gi_at_call 31; refine HS.out.mono ?_; rintro e w' ⟨v, ss, rfl, hS, hrow, hnil, hb⟩; have HM := Lib.hid (HF.out v ss w' hS hrow hb); clear hS hrow hnil hb))
  go_ret
  exact HM.out
end Go.Proofs.Ythkcihkeklojcaa
