/- maps.Keys and slices.Sorted: the keys of a map of ints, in ascending order. -/
import Derived.Test.YtabplbalacldfaaLpG
import Derived.Shelf.SlIterI.Nil
import Derived.Maps.Keyed
set_option linter.unusedVariables false
set_option linter.unusedSimpArgs false
namespace Go.Proofs.Ytabplbalacldfaa
open Go.RowKit Go.Kx Go.Maps Go.Sort Go.Shelf
open Go.WideElems (Fit rd rg rd_mk rg_of)
abbrev anyR : Value → Option (DataW Unit × List MemPlace) := fun _ => some (.lit (.bool true), [])
theorem wf64 {x : Int} (h : -9223372036854775808 ≤ x ∧ x ≤ 9223372036854775807) : (Lit.int .i64 x).wf = true := by
  simp [Lit.wf, IntKind.min, IntKind.max, IntKind.signed, IntKind.bits]; omega
/-- A map of ints as the library's contracts hold it. -/
theorem imap_owns {w : World} {b : Nat} {kv : List (Int × Value)} (h : IMap w b kv) (hk : ∀ p ∈ kv, -9223372036854775808 ≤ p.1 ∧ p.1 ≤ 9223372036854775807) (hs : kv.length ≤ maxLen) :
    ∃ D : DataW Unit, w.ownsMap Try.prog 3 anyR b kv.length D ∧ Maps.size D = kv.length ∧ (intKeys D).Perm (kv.map Prod.fst) := by
  obtain ⟨es, clock, h1, h2, h3⟩ := h
  have hlen : es.size = kv.length := by simpa using congrArg List.length h2
  have hrd : ∀ (e : MapEntry) (p : Int × Value), (e.key, e.val) = (Value.int .i64 p.1, p.2) → p ∈ kv → rd Try.prog 3 anyR e = some (.int .i64 p.1, .lit (.bool true)) := by
    intro e p he hp
    have hkey : e.key = .int .i64 p.1 := congrArg Prod.fst he
    obtain ⟨k, v, b⟩ := e
    have hkey2 : k = Value.int .i64 p.1 := hkey
    subst hkey2
    exact rd_mk (R := anyR) (yv := (.lit (.bool true), [])) (keyOf_int_mk Try.underlying3 (wf64 (hk p hp))) rfl
  have hreads : ∀ (l : List MapEntry) (m : List (Int × Value)), l.map (fun e => (e.key, e.val)) = m.map (fun p => (Value.int .i64 p.1, p.2)) → (∀ p ∈ m, p ∈ kv) → (∀ x ∈ l, ∃ y, rd Try.prog 3 anyR x = some y) ∧ (l.map (rg Try.prog 3 anyR)).map (fun p => Go.intOf p.1) = m.map Prod.fst := by
    intro l
    induction l with
    | nil => intro m hm _; cases m with
      | nil => simp
      | cons p m => simp at hm
    | cons e l ih =>
      intro m hm hsub
      cases m with
      | nil => simp at hm
      | cons p m =>
        simp only [List.map_cons, List.cons.injEq] at hm
        have h4 := hrd e p hm.1 (hsub p (by simp))
        obtain ⟨i1, i2⟩ := ih m hm.2 (fun q hq => hsub q (by simp [hq]))
        refine ⟨fun x hx => ?_, ?_⟩
        · rcases List.mem_cons.1 hx with rfl | hx
          · exact ⟨_, h4⟩
          · exact i1 x hx
        · simp only [List.map_cons, i2, rg_of h4]
          rfl
  obtain ⟨r1, r2⟩ := hreads es.toList kv h2 (fun p hp => hp)
  refine ⟨.map ((es.toList.map (rg Try.prog 3 anyR)).foldr DataW.insert []), ⟨es, clock, h1, ⟨by omega, h3, r1⟩, by omega, rfl⟩, ?_, ?_⟩
  · show List.length _ = _
    rw [(Go.WideShapes.sorted_perm _).length_eq]; simp [hlen]
  · show (List.map _ _).Perm _
    rw [← r2]
    exact (Go.WideShapes.sorted_perm _).map _
theorem sorts_in (m : Nat) : AnyZI.SortsIn Try.prog Try.sortedA_ren Fence.wide m :=
  ⟨fun blk off cap ss W hH hblk hsz => callsIn_wide.2 (Try.slices_Sort_int blk off cap ss W hH hblk hsz), fun p cap W => callsIn_wide.2 (Try.slices_Sort_int_none p cap W)⟩
/-- What slices.Sorted leaves of a map's keys. -/
def KeysP (w : World) (ks : List Int) (e : Ending) (w' : World) : Prop := ∃ v, e = .returned v ∧ w'.ownsRow w.heap.size 3 1 v (srt ks).length ((srt ks).map (Value.int .i64)) ∧ Grow w w'
theorem keysA_any (w : World) (m : Option Nat) : Calls Try.prog 40 #[.map m] w fun e w' => e = .returned (.func (.func 60) #[] #[.pointer (some ⟨w.heap.size, 0, none⟩)]) ∧ w' = w.alloc (.cells #[.map m] 71) :=
  (callsIn_wide (n := 8)).1 (AnyZI.keys_in Try.keysA Fence.wide 8 trivial rfl m w)
set_option maxHeartbeats 1000000 in
theorem sortedA_any {w : World} {M : Nat} {kv : List (Int × Value)} (h : IMap w M kv) (hk : ∀ p ∈ kv, -9223372036854775808 ≤ p.1 ∧ p.1 ≤ 9223372036854775807) (hs : kv.length ≤ 100000) (w0 : World) (hw0 : w0 = w.alloc (.cells #[.map (some M)] 71)) :
    Calls Try.prog 39 #[.func (.func 60) #[] #[.pointer (some ⟨w.heap.size, 0, none⟩)]] w0 (KeysP w0 (kv.map Prod.fst)) := by
  subst hw0
  obtain ⟨D, hown, hsz, hperm⟩ := imap_owns h hk (by unfold maxLen; omega)
  have hseq : SeqGives Fence.wide 4 Try.prog 60 #[.pointer (some ⟨w.heap.size, 0, none⟩)] encZ (fun ss => ss.Perm (intKeys D)) (Maps.size D) (w.alloc (.cells #[.map (some M)] 71)) :=
    AnyZI.keys_gives (ρ := Try.keysA_ren) { Try.keysA with } Fence.wide _ trivial rfl (by omega) w.heap.size M _ D _ (by simp) (by simp) (by
      obtain ⟨es, clock, hb, Ft, hs, hD⟩ := hown
      exact ⟨es, clock, (Below.heap_alloc _ _ M h.lt).trans hb, Ft, hs, hD⟩)
  have cS := AnyZI.sorted_in Try.sortedA Fence.wide 7 trivial trivial trivial trivial rfl (by omega) (sorts_in _) (enters_of Try.func34 (by kernel_rfl) rfl) 60 #[.pointer (some ⟨w.heap.size, 0, none⟩)] trivial (enters_of Try.func60 (by kernel_rfl) rfl) _ _ (by rw [hsz]; unfold maxLen; omega) (by rw [hsz]; omega) _ hseq
  change CallsIn _ _ Try.prog 39 _ _ _ at cS
  refine (callsIn_wide.1 cS).mono ?_
  rintro e w' ⟨v, ss, rfl, hS, hrow, hnil, hb⟩
  have e : (ss.mergeSort fun x y => decide (x ≤ y)) = srt (kv.map Prod.fst) := (srt_eq (hS.trans (hperm.trans (srt_perm _).symm)) (srt_le _))
  have el : ss.length = (srt (kv.map Prod.fst)).length := by rw [← e]; simp
  rw [e, el] at hrow
  exact ⟨v, rfl, hrow, Grow.of_below hb⟩
theorem keysB_any (w : World) (m : Option Nat) : Calls Try.prog 48 #[.map m] w fun e w' => e = .returned (.func (.func 66) #[] #[.pointer (some ⟨w.heap.size, 0, none⟩)]) ∧ w' = w.alloc (.cells #[.map m] 82) :=
  (callsIn_wide (n := 8)).1 (AnyZI.keys_in Try.keysB Fence.wide 8 trivial rfl m w)
set_option maxHeartbeats 1000000 in
theorem sortedB_any {w : World} {M : Nat} {kv : List (Int × Value)} (h : IMap w M kv) (hk : ∀ p ∈ kv, -9223372036854775808 ≤ p.1 ∧ p.1 ≤ 9223372036854775807) (hs : kv.length ≤ 100000) (w0 : World) (hw0 : w0 = w.alloc (.cells #[.map (some M)] 82)) :
    Calls Try.prog 39 #[.func (.func 66) #[] #[.pointer (some ⟨w.heap.size, 0, none⟩)]] w0 (KeysP w0 (kv.map Prod.fst)) := by
  subst hw0
  obtain ⟨D, hown, hsz, hperm⟩ := imap_owns h hk (by unfold maxLen; omega)
  have hseq : SeqGives Fence.wide 4 Try.prog 66 #[.pointer (some ⟨w.heap.size, 0, none⟩)] encZ (fun ss => ss.Perm (intKeys D)) (Maps.size D) (w.alloc (.cells #[.map (some M)] 82)) :=
    AnyZI.keys_gives (ρ := Try.keysB_ren) { Try.keysB with } Fence.wide _ trivial rfl (by omega) w.heap.size M _ D _ (by simp) (by simp) (by
      obtain ⟨es, clock, hb, Ft, hs, hD⟩ := hown
      exact ⟨es, clock, (Below.heap_alloc _ _ M h.lt).trans hb, Ft, hs, hD⟩)
  have cS := AnyZI.sorted_in Try.sortedA Fence.wide 7 trivial trivial trivial trivial rfl (by omega) (sorts_in _) (enters_of Try.func34 (by kernel_rfl) rfl) 66 #[.pointer (some ⟨w.heap.size, 0, none⟩)] trivial (enters_of Try.func66 (by kernel_rfl) rfl) _ _ (by rw [hsz]; unfold maxLen; omega) (by rw [hsz]; omega) _ hseq
  change CallsIn _ _ Try.prog 39 _ _ _ at cS
  refine (callsIn_wide.1 cS).mono ?_
  rintro e w' ⟨v, ss, rfl, hS, hrow, hnil, hb⟩
  have e : (ss.mergeSort fun x y => decide (x ≤ y)) = srt (kv.map Prod.fst) := (srt_eq (hS.trans (hperm.trans (srt_perm _).symm)) (srt_le _))
  have el : ss.length = (srt (kv.map Prod.fst)).length := by rw [← e]; simp
  rw [e, el] at hrow
  exact ⟨v, rfl, hrow, Grow.of_below hb⟩
end Go.Proofs.Ytabplbalacldfaa
