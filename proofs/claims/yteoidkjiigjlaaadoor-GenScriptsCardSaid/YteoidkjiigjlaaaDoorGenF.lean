/- Which fields a kind has: the program's table, and the reference's. -/
import Derived.Test.YteoidkjiigjlaaaDoorGenP
namespace Go.Proofs.YteoidkjiigjlaaaDoor
open Go Go.RowKit

set_option maxRecDepth 100000 in
set_option maxHeartbeats 2000000 in
theorem fieldsP_any (k : Int) (w : World) (h0 : 1 ≤ k) (h1 : k ≤ 22) : Calls Tryd.prog 79 #[.int .i64 k] w fun e w' => e = .returned (.string ⟨(fieldsP k.toNat).toArray⟩) ∧ w = w' := by
  rcases (by omega : k = 1 ∨ k = 2 ∨ k = 3 ∨ k = 4 ∨ k = 5 ∨ k = 6 ∨ k = 7 ∨ k = 8 ∨ k = 9 ∨ k = 10 ∨ k = 11 ∨ k = 12 ∨ k = 13 ∨ k = 14 ∨ k = 15 ∨ k = 16 ∨ k = 17 ∨ k = 18 ∨ k = 19 ∨ k = 20 ∨ k = 21 ∨ k = 22) with rfl | rfl | rfl | rfl | rfl | rfl | rfl | rfl | rfl | rfl | rfl | rfl | rfl | rfl | rfl | rfl | rfl | rfl | rfl | rfl | rfl | rfl
  all_goals
    go_enter Tryd.func79, Tryd.ntmps79
    go_wp2
    go_ret
    exact ⟨rfl, rfl⟩
set_option maxRecDepth 100000 in
set_option maxHeartbeats 2000000 in
theorem fieldsR_any (k : Int) (w : World) (h0 : 1 ≤ k) (h1 : k ≤ 22) : Calls Tryd.prog 86 #[.int .i64 k] w fun e w' => e = .returned (.string ⟨(fieldsR k.toNat).toArray⟩) ∧ w = w' := by
  rcases (by omega : k = 1 ∨ k = 2 ∨ k = 3 ∨ k = 4 ∨ k = 5 ∨ k = 6 ∨ k = 7 ∨ k = 8 ∨ k = 9 ∨ k = 10 ∨ k = 11 ∨ k = 12 ∨ k = 13 ∨ k = 14 ∨ k = 15 ∨ k = 16 ∨ k = 17 ∨ k = 18 ∨ k = 19 ∨ k = 20 ∨ k = 21 ∨ k = 22) with rfl | rfl | rfl | rfl | rfl | rfl | rfl | rfl | rfl | rfl | rfl | rfl | rfl | rfl | rfl | rfl | rfl | rfl | rfl | rfl | rfl | rfl
  all_goals
    go_enter Tryd.func86, Tryd.ntmps86
    go_wp2
    go_ret
    exact ⟨rfl, rfl⟩
/-- The letters that a table has. -/
theorem fieldsP_mem : ∀ k : Nat, k < 22 → (fieldsP (k + 1)).all (fun f => f == 66 || f == 67 || f == 68 || f == 78 || f == 84 || f == 83 || f == 75 || f == 88 || f == 99 || f == 115 || f == 104 || f == 114) = true := by decide
theorem fieldsR_mem : ∀ k : Nat, k < 22 → (fieldsR (k + 1)).all (fun f => f == 65 || f == 66 || f == 67 || f == 68 || f == 78 || f == 84 || f == 83 || f == 75 || f == 88) = true := by decide
end Go.Proofs.YteoidkjiigjlaaaDoor
