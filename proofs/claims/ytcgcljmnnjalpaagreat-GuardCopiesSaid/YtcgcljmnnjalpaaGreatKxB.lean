/- The walk's arms for maps whose keys are ints; slices that are read; accesses of three ints. -/
import Derived.Test.YtcgcljmnnjalpaaGreatKxA
set_option linter.unusedVariables false
set_option linter.unusedSimpArgs false
namespace Go.Kx
open Go.RowKit Go.MapKept
open Go.ChangeMaps (setBlock)

theorem owns_fr {S : Nat → Prop} {w w' : World} {base : Nat} {e : TypeId} {size : Nat} {v : Value} {n : Nat} {xs : List Value} (h : w.ownsRow base e size v n xs) (hf : Fr S w w') (hn : ∀ k, v.ownBlock = some k → ¬ S k) : w'.ownsRow base e size v n xs := by
  refine ⟨h.1, ?_⟩
  rcases h.2 with hv | ⟨g, cap, cur, rfl, hb, hgg, rest⟩
  · exact .inl hv
  · exact .inr ⟨g, cap, cur, rfl, hb, hf.at_ hgg (hn g rfl), rest⟩
theorem owns_grow {w w' : World} {base : Nat} {e : TypeId} {size : Nat} {v : Value} {n : Nat} {xs : List Value} (h : w.ownsRow base e size v n xs) (hf : Grow w w') : w'.ownsRow base e size v n xs := owns_fr h hf (fun _ _ h => h)
theorem owns_blk {w : World} {base : Nat} {e : TypeId} {size : Nat} {v : Value} {n : Nat} {xs : List Value} (h : w.ownsRow base e size v n xs) {k : Nat} (hk : v.ownBlock = some k) : ∃ c, w.heap[k]? = some (.cells c e (0, 0)) := by
  rcases h.2 with ⟨rfl, _⟩ | ⟨g, cap, cur, rfl, hb, hgg, rest⟩
  · simp [Value.ownBlock] at hk
  · have : g = k := by simpa [Value.ownBlock] using hk
    subst this
    exact ⟨cur, hgg⟩
theorem fr_grown {w w' : World} {row : Option Nat} (h : w.grownBy w' row) : Fr (fun k => row = some k) w w' :=
  ⟨h.os, h.tape, h.output, h.size, fun k hk hn => h.block k hk (fun e => hn e.symm)⟩

section
variable {P : Program} {w : World} {ops : Array Oper} {rest : List Oper} {o : Oper} {a : Act} {Q : Exit → Act → World → Prop} {t k e : TypeId} {b : Nat} {kv : List (Int × Value)}

theorem wpList_mget (hg : o.guard = none) (m x : Operand) (hop : o.op = Op.lookup t m x false) (h : IMap w b kv) (ht : P.underlying t = some (.map k e)) (hk : P.underlying k = some (.int .i64)) {z : Value} (hz : (zeroValue e).run P w = .ok z w)
    (n : Int) (hm : a.eval m = .map (some b)) (hx : a.eval x = .int .i64 n) (hK : wpList P ops Q rest (a.put o.dst ((mget kv n).getD z)) w) : wpList P ops Q (o :: rest) a w := by
  refine wpList_plain hg fun K hK' => ?_
  have hrun := h.lookup ht hk hz n false
  simp only [Bool.false_eq_true, if_false] at hrun
  unfold Oper.wp
  simp [execOp, hop, hm, hx, hrun, Result.andThen]
  exact hK' _ _ hK

theorem wpList_mget_ok (hg : o.guard = none) (m x : Operand) (hop : o.op = Op.lookup t m x true) (h : IMap w b kv) (ht : P.underlying t = some (.map k e)) (hk : P.underlying k = some (.int .i64)) {z : Value} (hz : (zeroValue e).run P w = .ok z w)
    (n : Int) (hm : a.eval m = .map (some b)) (hx : a.eval x = .int .i64 n) (hK : wpList P ops Q rest (a.put o.dst (.tuple #[(mget kv n).getD z, .bool (mget kv n).isSome])) w) : wpList P ops Q (o :: rest) a w := by
  refine wpList_plain hg fun K hK' => ?_
  have hrun := h.lookup ht hk hz n true
  simp only [if_true] at hrun
  unfold Oper.wp
  simp [execOp, hop, hm, hx, hrun, Result.andThen]
  exact hK' _ _ hK

theorem wpList_mput (hg : o.guard = none) (m x v : Operand) (hop : o.op = Op.mapUpdate t m x v) (h : IMap w b kv) (ht : P.underlying t = some (.map k e)) (hk : P.underlying k = some (.int .i64))
    (n : Int) (u : Value) (hm : a.eval m = .map (some b)) (hx : a.eval x = .int .i64 n) (hv : a.eval v = u)
    (hK : ∀ ob, IMap (setBlock w b ob) b (mput kv n u) → wpList P ops Q rest (a.put o.dst undef) (setBlock w b ob)) : wpList P ops Q (o :: rest) a w := by
  refine wpList_plain hg fun K hK' => ?_
  obtain ⟨ob, hrun, hi⟩ := h.store ht hk n u
  unfold Oper.wp
  simp [execOp, hop, hm, hx, hv, hrun, Result.andThen]
  exact hK' _ _ (hK ob hi)

theorem wpList_mdel (hg : o.guard = none) (m x : Operand) (hop : o.op = Op.call { callee := Callee.builtin Builtin.delete, args := #[m, x], argTypes := #[t, k] }) (h : IMap w b kv) (ht : P.underlying t = some (.map k e)) (hk : P.underlying k = some (.int .i64))
    (n : Int) (hm : a.eval m = .map (some b)) (hx : a.eval x = .int .i64 n)
    (hK : ∀ ob, IMap (setBlock w b ob) b (mdel kv n) → wpList P ops Q rest (a.put o.dst (.tuple #[])) (setBlock w b ob)) : wpList P ops Q (o :: rest) a w := by
  refine wpList_plain hg fun K hK' => ?_
  obtain ⟨ob, hrun, hi⟩ := h.delete ht hk n o.type
  unfold Oper.wp
  simp [execOp, hop, resolve, invoke, builtin, hm, hx, hrun, Result.andThen]
  exact hK' _ _ (hK ob hi)

theorem mget_nil (ht : P.underlying t = some (.map k e)) (hk : P.underlying k = some (.int .i64)) {z : Value} (hz : (zeroValue e).run P w = .ok z w) (n : Int) : (Instr.lookup t (.map none) (.int .i64 n) false).run P w = .ok z w := by
  have hkey : IsKey (.int .i64) (.int .i64 n) := rfl
  have h5 : Instr.findNow (.int .i64) (.int .i64 n) [] 0 = some none := rfl
  simp only [Instr.lookup, Sem.run_bind, run_underlying ht, Result.andThen, Sem.run_pure, MapKept.run_checkKey hk hkey, MapKept.run_findKey hk h5, hz]
  rfl
end
end Go.Kx
namespace Go.Kx
theorem own_base_le {w : World} {base base' : Nat} {e : TypeId} {size : Nat} {v : Value} {n : Nat} {xs : List Value} (h : w.ownsRow base e size v n xs) (hb : base' ≤ base) : w.ownsRow base' e size v n xs := by
  refine ⟨h.1, ?_⟩
  rcases h.2 with hv | ⟨g, cap, cur, rfl, hg, rest⟩
  · exact .inl hv
  · exact .inr ⟨g, cap, cur, rfl, by omega, rest⟩
end Go.Kx
