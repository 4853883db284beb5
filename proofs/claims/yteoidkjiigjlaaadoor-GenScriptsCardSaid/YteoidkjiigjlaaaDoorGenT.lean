/- The reference's scripts. -/
import Derived.Test.YteoidkjiigjlaaaDoorGenO
namespace Go.Proofs.YteoidkjiigjlaaaDoor
open Go Go.RowKit

set_option maxRecDepth 100000 in
set_option maxHeartbeats 1000000 in
theorem rscript_any (w : World) (seed n : Int) (hs : IsS seed) (h0 : 0 ≤ n) (h1 : n ≤ 180) :
    Calls Tryd.prog 28 #[.int .u64 seed, .int .i64 n] w fun e w' => ∃ v, e = .returned v ∧ RdCms w' (KN w w') v (scrL seed n.toNat) ∧ Gr w w' := by
  obtain ⟨N, rfl⟩ : ∃ N : Nat, n = N := ⟨n.toNat, by omega⟩
  rw [Int.toNat_natCast]
  go_enter Tryd.func28, Tryd.ntmps28
  go_wp2
  go_loopw [6, 7] (fun v6 v7 wr => ∃ (k : Nat) (cs : List Value), v7 = .int .i64 k ∧ k ≤ N ∧ CmsOwn (w.heap.size + 1) w.heap.size wr v6 (scrL seed k) cs ∧ DR w w.heap.size wr (scrS seed k)) (fun _ v7 _ => N - (intOf v7).toNat)
  case atStart => exact ⟨0, [], rfl, Nat.zero_le _, CmsOwn.nil _ _ _, Gr.alloc _ _, Nat.le_refl _, Blk.new w 48 _, hs⟩
  case round =>
    obtain ⟨k, cs, rfl, hk, hO, hD⟩ := hrel
    by_cases hlt : k < N
    · have cC := rone_any w wr w.heap.size (scrS seed k) k hD (by omega) (by omega)
      rw [← cmd_same] at cC
      have hl1 := scrL_len seed k
      have HL := Lib.hid hl1
      clear hl1
      have hne : u6.ownBlock ≠ some w.heap.size := own_blk_ne hO.row hD.dice.1 (by decide)
      have hown := own_lt' hO.row
      have hgl := hD.lt
      have hKm : ∀ (W : World) (o : Obj), wr.heap.size ≤ W.heap.size → ∀ b, KN wr W b → w.heap.size + 1 ≤ b ∧ b < (W.alloc o).heap.size ∧ b ≠ w.heap.size ∧ u6.ownBlock ≠ some b := by
        intro W o _ b hb
        refine ⟨by have := hb.1; omega, by have := hb.2; simp; omega, by have := hb.1; omega, ?_⟩
        intro e
        have := (hown b e).2
        have := hb.1
        omega
      have hS1 : scrS seed (k + 1) = (cmdD (32 * ((k : Int) + 1)) (scrS seed k)).2 := rfl
      have hL1 : scrL seed (k + 1) = scrL seed k ++ [(cmdD (32 * ((k : Int) + 1)) (scrS seed k)).1] := rfl
      have HS1 := Lib.hid hS1
      have HL1 := Lib.hid hL1
      clear hS1 hL1
      generalize cmdD (32 * ((k : Int) + 1)) (scrS seed k) = X at *
      go_wp2_with (first
        | (go_at_call 63; (with_reducible refine cC.mono ?_); rintro e w2 ⟨v2, rfl, hr2, hd2, hx2⟩
           obtain ⟨A1, n1, k1, op, nm, fr, to_, A2, n2, k2, rfl⟩ := hr2.cells
           have hlt2 := hx2.size)
        | (at_builtin
           refine wpList_appendC (w2.alloc _) rfl (.tmp 22) (.tmp 26) rfl (w.heap.size + 1) w.heap.size u6 (scrL seed k) cs rfl ((hO.x hx2 hne).x (GrX.of_gr (Gr.alloc _ _) _) hne) X.1 _ w2.heap.size rfl (Blk.new w2 _ _) rfl ((hr2.keep fun p hp => World.cell?_alloc_lt w2 _ p hp.2).mono (hKm _ _ hlt2)) (by rw [HL.out]; omega) (by simp; omega) ?_
           intro v4 w4 hO4 hg4))
      go_roundw
      case rel => exact ⟨k + 1, _, by go_num, by omega, by rw [HL1.out]; exact hO4, by rw [HS1.out]; exact (hd2.grow (Gr.alloc _ _)).grown hg4 (fun j hj => by have := hown j hj; omega) hne⟩
      case measure => simp [intOf]; omega
    · obtain rfl : k = N := by omega
      go_wp2
      go_ret
      exact ⟨_, rfl, hO.rd.mono fun b hb => ⟨by omega, hb.2⟩, hD.gr⟩
set_option maxRecDepth 100000 in
theorem rscript_no (w : World) (seed n : Int) (h : n < 0 ∨ 180 < n) : Calls Tryd.prog 28 #[.int .u64 seed, .int .i64 n] w fun e w' => e = .returned (.slice none 0 0) ∧ w = w' := by
  rcases h with h | h
  all_goals
    go_enter Tryd.func28, Tryd.ntmps28
    go_wp2
    all_goals (try (exfalso; omega))
    go_ret
    exact ⟨rfl, rfl⟩
end Go.Proofs.YteoidkjiigjlaaaDoor
