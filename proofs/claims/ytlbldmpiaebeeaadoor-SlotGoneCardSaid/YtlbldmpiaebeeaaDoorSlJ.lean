/- Slots: the row of the law SlotGone. -/
import Derived.Test.YtlbldmpiaebeeaaDoorSlH
namespace Go.Proofs.YtlbldmpiaebeeaaDoor
open Go Go.RowKit

theorem row_slotgone (l : List Sa) (lv : Value) (i f : Int) (A : Option Addr) (n c : Nat) (keep : List Bool) (W : World) (hl : RdSas W (· < W.heap.size) lv l) (_ : (Lit.int .i64 i).wf = true) (hf : (Lit.int .i64 f).wf = true) (hk : RdBools W (· < W.heap.size) (.slice A n c) keep) :
    Calls Tryd.prog 4 #[lv, .int .i64 i, .agg #[.int .i64 f, .slice A n c]] W fun e w' => e = .returned (.bool true) ∧ Below W.heap.size W w' := by
  have hw := (Lit.wf_int_iff .i64 _).1 hf
  have h0 : -9223372036854775808 ≤ f := hw.1
  have h1 : f ≤ 9223372036854775807 := hw.2
  by_cases ho : ¬ fewS l ∨ i < 0 ∨ 3 < i
  · exact gone_live l lv i f A n c W hl ho
  · have hfew : fewS l := Classical.byContradiction fun h => ho (.inl h)
    obtain ⟨a, rfl⟩ : ∃ a : Nat, i = a := ⟨i.toNat, by omega⟩
    exact gone_law l lv a f A n c keep W hl hk hfew (by omega) h1 h0
end Go.Proofs.YtlbldmpiaebeeaaDoor
