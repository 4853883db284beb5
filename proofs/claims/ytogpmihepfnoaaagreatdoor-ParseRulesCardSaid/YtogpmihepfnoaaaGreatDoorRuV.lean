/- Conditions as texts: the program's written. -/
import Derived.Test.YtogpmihepfnoaaaGreatDoorRuU
namespace Go.Proofs.YtogpmihepfnoaaaGreatDoor
open Go Go.RowKit Go.Sort

theorem ba_lists (l : List (List UInt8)) : (l.map ba).map (·.data.toList) = l := by
  rw [List.map_map]
  exact (List.map_congr_left (fun _ _ => rfl)).trans (List.map_id l)
theorem gr_of_below1 {w w1 w2 : World} (h : Gr w w1) (h2 : Below (w.heap.size + 1) w1 w2) : Gr w w2 := Below.trans h (h2.mono (Nat.le_succ _))
end Go.Proofs.YtogpmihepfnoaaaGreatDoor
