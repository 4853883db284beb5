/- Disks: the row of the law DiskSafe. -/
import Derived.Test.YtamojnejengipaaDkU
namespace Go.Proofs.Ytamojnejengipaa
open Go Go.RowKit

theorem many_disksafe (l : List Ac) (lv kv : Value) (w : World) (hl : RdActs w (· < w.heap.size) lv l) (hll : 60 < l.length) :
    Calls Try.prog 3 #[lv, kv] w fun e w' => e = .returned (.bool true) ∧ Gr w w' := by
  obtain ⟨lA, lc, lvs, rfl, ⟨hlc1, hlc2⟩, _⟩ := hl
  unfold maxLen at hlc2
  go_enter Try.func3, Try.ntmps3
  go_wp2_with (go_at_call 5; (with_reducible refine (live_d _).mono ?_); rintro e w13 ⟨rfl, hg13⟩)
  all_goals (try (exfalso; omega))
  go_ret
  exact ⟨rfl, hg13⟩
theorem row_disksafe (l : List Ac) (lv : Value) (keep : List Bool) (kv : Value) (W : World) (hl : RdActs W (· < W.heap.size) lv l) (hk : RdBools W (· < W.heap.size) kv keep) :
    Calls Try.prog 3 #[lv, kv] W fun e w' => e = .returned (.bool true) ∧ Below W.heap.size W w' := by
  by_cases h : l.length ≤ 60
  · exact law_disksafe l keep lv kv W hl hk h
  · exact many_disksafe l lv kv W hl (by omega)
end Go.Proofs.Ytamojnejengipaa
