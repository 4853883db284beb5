/- Disks: a sector of one byte (the law's Full). -/
import Derived.Test.YtamojnejengipaaDkG
namespace Go.Proofs.Ytamojnejengipaa
open Go Go.RowKit

set_option maxRecDepth 100000 in
set_option maxHeartbeats 2000000 in
theorem full_d (c : UInt8) (w : World) : Calls Try.prog 9 #[.int .u8 (c.toNat : Int)] w fun e w' => e = .returned (.slice (some ⟨w.heap.size, 0, none⟩) 256 256) ∧ Blk w' w.heap.size 5 (fillS c 256) ∧ Gr w w' := by
  have hmk := make256
  have hz : fillS 0 0 = fillS c 0 := by rw [fillS_zero, fillS_zero]
  rw [hz] at hmk
  go_enter Try.func9, Try.ntmps9
  go_wp2
  have hB0 := Blk.new w 5 (fillS c 0)
  go_loopw [4] (fun v4 wr => ∃ k : Nat, v4 = .int .i64 k ∧ k ≤ 256 ∧ Blk wr w.heap.size 5 (fillS c k) ∧ Gr w wr) (fun v4 _ => 256 - (intOf v4).toNat)
  case atStart => exact ⟨0, rfl, by omega, hB0, Gr.alloc _ _⟩
  case round =>
    obtain ⟨k, rfl, hk, hB, hg⟩ := hrel
    by_cases hp : k < 256
    · have hsz := fillS_size c k hk
      have hcell : wr.cell? ⟨w.heap.size, k, none⟩ = some (fillS c k)[k] := by rw [hB.cell, Array.getElem?_eq_getElem]
      have hfr := hB.frozen k
      have hnext := hB.set_ k (.int .u8 (c.toNat : Int))
      rw [fillS_set c k hp] at hnext
      go_wp2
      go_roundw
      case rel => exact ⟨k + 1, by go_num, by omega, hnext, Below.setCell hg (Nat.le_refl _) _⟩
      case measure => simp [intOf]; omega
    · obtain rfl : k = 256 := by omega
      go_wp2
      go_ret
      exact ⟨rfl, hB, hg⟩
end Go.Proofs.Ytamojnejengipaa
