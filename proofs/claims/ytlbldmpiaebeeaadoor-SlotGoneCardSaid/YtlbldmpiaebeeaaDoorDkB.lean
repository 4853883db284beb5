/- Disks: a map from small numbers to values: what it reads as; clear. -/
import Derived.Test.YtlbldmpiaebeeaaDoorDkA
import Derived.Maps.OwnSet
import Derived.Maps.RangeWalk
namespace Go.Proofs.YtlbldmpiaebeeaaDoor
open Go Go.RowKit Go.Maps Go.MapKept Go.ChangeMaps

/-- An element reads as itself. -/
def heldW (v : Value) : Option (DataW Value × List MemPlace) := some (.held v, [])
/-- Block b is a map whose keys are numbers below n, and which has these elements. -/
def MapI (P : Program) (k : TypeId) (w : World) (b m n : Nat) (f : Nat → Option Value) : Prop :=
  ∃ D : DataW Value, w.ownsMap P k heldW b m D ∧ (∀ i, i < n → ∀ v, f i = some v → ∀ zd, D.atKey (.int .i64 i) zd = .held v) ∧ (∀ i, i < n → f i = none → Maps.has D (.int .i64 i) = false) ∧ ∀ kl, Maps.has D kl = true → ∃ i : Nat, i < n ∧ kl = .int .i64 i
section
variable {P : Program} {k : TypeId} {w w' : World} {b m n : Nat} {f : Nat → Option Value}
theorem has_empty (kl : Lit) : Maps.has (.map [] : DataW Value) kl = false := rfl
theorem MapI.empty (h : w.ownsMap P k heldW b m (.map [])) (n : Nat) : MapI P k w b m n fun _ => none :=
  ⟨.map [], h, fun i hi v hv zd => absurd hv (by simp), fun i hi hv => has_empty _, fun kl hk => by rw [has_empty] at hk; cases hk⟩
theorem MapI.lt (h : MapI P k w b m n f) : b < w.heap.size := let ⟨_, h, _⟩ := h; h.lt
theorem MapI.kept (h : MapI P k w b m n f) (hb : w'.heap[b]? = w.heap[b]?) : MapI P k w' b m n f := by
  obtain ⟨D, ⟨es, clock, h1, h2⟩, r⟩ := h
  exact ⟨D, ⟨es, clock, hb.trans h1, h2⟩, r⟩
theorem lit_inj {i j : Nat} (h : (Lit.int .i64 (i : Int)) = .int .i64 (j : Int)) : i = j := by
  injection h with _ h
  omega
theorem MapI.put {D : DataW Value} {i : Nat} {v : Value} (hi : i < n) (hD : IsMap D) (h : w'.ownsMap P k heldW b m (D.put (.int .i64 i) (.held v))) (h1 : ∀ i, i < n → ∀ v, f i = some v → ∀ zd, D.atKey (.int .i64 i) zd = .held v)
    (h2 : ∀ i, i < n → f i = none → Maps.has D (.int .i64 i) = false) (h3 : ∀ kl, Maps.has D kl = true → ∃ i : Nat, i < n ∧ kl = .int .i64 i) : MapI P k w' b m n fun j => if j = i then some v else f j := by
  refine ⟨_, h, fun j hj u hu zd => ?_, fun j hj hu => ?_, fun kl hk => ?_⟩ <;> try dsimp only at hu
  · by_cases e : j = i
    · subst e
      rw [if_pos rfl] at hu
      cases hu
      exact atKey_put_same hD (k := .int .i64 (j : Int)) trivial _ _
    · rw [if_neg e] at hu
      rw [atKey_put_other (fun h => e (lit_inj h))]
      exact h1 j hj u hu zd
  · by_cases e : j = i
    · rw [if_pos e] at hu; cases hu
    · rw [if_neg e] at hu
      rw [has_put_other (fun h => e (lit_inj h))]
      exact h2 j hj hu
  · by_cases e : kl = .int .i64 i
    · exact ⟨i, hi, e⟩
    · rw [has_put_other e] at hk
      exact h3 kl hk
theorem clear_own {t e ty : TypeId} {D : DataW Value} (h : w.ownsMap P k heldW b m D) (ht : P.underlying t = some (.map k e)) :
    ∃ w', (Builtin.clear_ #[t] ty #[.map (some b)]).run P w = .ok (.tuple #[]) w' ∧ w'.ownsMap P k heldW b 0 (.map []) ∧ w.mapTurned w' b := by
  obtain ⟨es, clock, hb, F, hs, rfl⟩ := h
  refine ⟨_, ?_, ⟨#[], clock, heap_setBlock_same hb _, ⟨by simp, stamped_empty clock, by simp⟩, Nat.le_refl _, rfl⟩, ⟨es, clock, #[], clock, hb, rfl⟩⟩
  simp [Builtin.clear_, run_underlying ht, MapKept.run_getObj_map hb, MapKept.run_setObj_map _ hb, Result.andThen, setBlock]
/-- The keys that are there, in order. -/
def keysW (n : Nat) (f : Nat → Option Value) : List Nat := (List.range n).filter fun i => (f i).isSome
end
section
variable {P : Program} (w : World) {ops : Array Oper} {rest : List Oper} {o : Oper} {a : Act} {Q : Exit → Act → World → Prop}
/-- 'clear(m)'. -/
theorem wpList_clear_own (hg : o.guard = none) (m : Operand) (t k : TypeId) (hop : o.op = Op.call { callee := Callee.builtin Builtin.clear, args := #[m], argTypes := #[t] })
    (e : TypeId) (ht : P.underlying t = some (.map k e)) (b n : Nat) (D : DataW Value) (hm : a.eval m = .map (some b)) (hown : w.ownsMap P k heldW b n D)
    (hK : ∀ w', w'.ownsMap P k heldW b 0 (.map []) → w.mapTurned w' b → wpList P ops Q rest (a.put o.dst (.tuple #[])) w') :
    wpList P ops Q (o :: rest) a w := by
  refine wpList_plain hg fun K' hK' => ?_
  obtain ⟨w', hrun, r1, r2⟩ := clear_own (ty := o.type) hown ht
  unfold Oper.wp
  simp [execOp, hop, resolve, invoke, builtin, hm, hrun, Result.andThen]
  exact hK' _ _ (hK w' r1 r2)
end
end Go.Proofs.YtlbldmpiaebeeaaDoor
