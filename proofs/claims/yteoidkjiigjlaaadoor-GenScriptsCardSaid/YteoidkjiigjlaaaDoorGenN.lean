/- The program's scripts. -/
import Derived.Test.YteoidkjiigjlaaaDoorGenM
import Derived.Test.YteoidkjiigjlaaaDoorGenL
namespace Go.Proofs.YteoidkjiigjlaaaDoor
open Go Go.RowKit

theorem gr_grown {w0 w w' : World} {row : Option Nat} (h : Gr w0 w) (hx : w.grownBy w' row) (hr : ∀ k, row = some k → w0.heap.size ≤ k) : Gr w0 w' := by
  refine ⟨hx.os.trans h.os, hx.tape.trans h.tape, hx.output.trans h.output, Nat.le_trans h.size hx.size, fun k hk => ?_⟩
  rw [hx.block k (Nat.lt_of_lt_of_le hk h.size) (fun e => by have := hr k e.symm; omega)]
  exact h.block k hk
theorem DP.grown {w0 w w' : World} {g : Nat} {s : Int} {row : Option Nat} (h : DP w0 g w s) (hx : w.grownBy w' row) (hr : ∀ k, row = some k → w0.heap.size ≤ k) (hn : row ≠ some g) : DP w0 g w' s :=
  ⟨h.pow, gr_grown h.gr hx hr, h.ge, h.dice.1.grown hx (fun e => hn e.symm), h.dice.2⟩
/-- A command's cells. -/
theorem RdCm.cells {w : World} {K : Nat → Prop} {x : Cm} {v : Value} (h : RdCm w K x v) : ∃ A1 n1 k1 op nm fr to_ A2 n2 k2, v = .agg #[.int .i64 x.kind, .string x.a, .string x.b, .string x.c, .string x.d, .int .i64 x.n, .slice A1 n1 k1, .int .u64 x.salt, .int .u64 x.draw, .int .i64 op, .string nm, .int .i64 fr, .int .i64 to_, .slice A2 n2 k2] := by
  obtain ⟨vd, A, c, vs, op, nm, fr, to_, ks, e1, e2, h1, _⟩ := h
  obtain ⟨A2, c2, rfl, _⟩ := h1
  exact ⟨_, _, _, _, _, _, _, _, _, _, e2⟩
theorem gnew_any (w : World) (seed : Int) : Calls Tryd.prog 23 #[.int .u64 seed] w fun e w' => e = .returned (.pointer (some ⟨w.heap.size, 0, none⟩)) ∧ w.alloc (.cells #[.bool true, .int .u64 seed] 51) = w' := by
  go_enter Tryd.func23, Tryd.ntmps23
  go_wp2
  go_ret
  exact ⟨rfl, rfl⟩
set_option maxRecDepth 100000 in
set_option maxHeartbeats 1000000 in
theorem gscript_any (w : World) (hP : Pow w) (seed n : Int) (hs : IsS seed) (h0 : 0 ≤ n) (h1 : n ≤ 180) :
    Calls Tryd.prog 27 #[.int .u64 seed, .int .i64 n] w fun e w' => ∃ v, e = .returned v ∧ RdCms w' (KN w w') v (scrL seed n.toNat) ∧ Gr w w' := by
  have HP := Lib.hid hP
  clear hP
  obtain ⟨N, rfl⟩ : ∃ N : Nat, n = N := ⟨n.toNat, by omega⟩
  rw [Int.toNat_natCast]
  go_enter Tryd.func27, Tryd.ntmps27
  go_wp2_with (go_at_call 23; (with_reducible refine (gnew_any _ _).mono ?_); rintro e w1 ⟨rfl, rfl⟩)
  go_loopw [6, 17] (fun v6 v17 wr => ∃ (k : Nat) (cs : List Value), v17 = .int .i64 k ∧ k ≤ N ∧ CmsOwn (w.heap.size + 1) w.heap.size wr v6 (scrL seed k) cs ∧ DP w w.heap.size wr (scrS seed k)) (fun _ v17 _ => N - (intOf v17).toNat)
  case atStart => exact ⟨0, [], rfl, Nat.zero_le _, CmsOwn.nil _ _ _, HP.out, Gr.alloc _ _, Nat.le_refl _, Blk.new w 51 _, hs⟩
  case round =>
    obtain ⟨k, cs, rfl, hk, hO, hD⟩ := hrel
    by_cases hlt : k < N
    · have cC := gcommand_any w wr w.heap.size (scrS seed k) (32 * ((k : Int) + 1)) hD (by omega) (by omega)
      have hl1 := scrL_len seed k
      have HL := Lib.hid hl1
      clear hl1
      have hne : u6.ownBlock ≠ some w.heap.size := own_blk_ne hO.row hD.dice.1 (by decide)
      have hown := own_lt' hO.row
      have hgl := hD.lt
      have hKm : ∀ (W : World) (o : Obj), wr.heap.size ≤ W.heap.size → ∀ b, KN wr W b → w.heap.size + 1 ≤ b ∧ b < (W.alloc o).heap.size ∧ b ≠ w.heap.size ∧ u6.ownBlock ≠ some b := by
        intro W o _ b hb
        refine ⟨by have := hb.1; omega, by have := hb.2; simp; omega, by have := hb.1; omega, ?_⟩
        intro e
        have := (hown b e).2
        have := hb.1
        omega
      have hS1 : scrS seed (k + 1) = (cmdD (32 * ((k : Int) + 1)) (scrS seed k)).2 := rfl
      have hL1 : scrL seed (k + 1) = scrL seed k ++ [(cmdD (32 * ((k : Int) + 1)) (scrS seed k)).1] := rfl
      have HS1 := Lib.hid hS1
      have HL1 := Lib.hid hL1
      clear hS1 hL1
      generalize cmdD (32 * ((k : Int) + 1)) (scrS seed k) = X at *
      go_wp2_with (first
        | (go_at_call 62; (with_reducible refine cC.mono ?_); rintro e w2 ⟨v2, rfl, hr2, hd2, hx2⟩
           obtain ⟨A1, n1, k1, op, nm, fr, to_, A2, n2, k2, rfl⟩ := hr2.cells
           have hlt2 := hx2.size)
        | (at_builtin
           refine wpList_appendC (w2.alloc _) rfl (.tmp 20) (.tmp 27) rfl (w.heap.size + 1) w.heap.size u6 (scrL seed k) cs rfl ((hO.x hx2 hne).x (GrX.of_gr (Gr.alloc _ _) _) hne) X.1 _ w2.heap.size rfl (Blk.new w2 _ _) rfl ((hr2.keep fun p hp => World.cell?_alloc_lt w2 _ p hp.2).mono (hKm _ _ hlt2)) (by rw [HL.out]; omega) (by simp; omega) ?_
           intro v4 w4 hO4 hg4))
      go_roundw
      case rel => exact ⟨k + 1, _, by go_num, by omega, by rw [HL1.out]; exact hO4, by rw [HS1.out]; exact (hd2.grow (Gr.alloc _ _)).grown hg4 (fun j hj => by have := hown j hj; omega) hne⟩
      case measure => simp [intOf]; omega
    · obtain rfl : k = N := by omega
      go_wp2
      go_ret
      exact ⟨_, rfl, hO.rd.mono fun b hb => ⟨by omega, hb.2⟩, hD.gr⟩
set_option maxRecDepth 100000 in
theorem gscript_no (w : World) (seed n : Int) (h : n < 0 ∨ 180 < n) : Calls Tryd.prog 27 #[.int .u64 seed, .int .i64 n] w fun e w' => e = .returned (.slice none 0 0) ∧ w = w' := by
  rcases h with h | h
  all_goals
    go_enter Tryd.func27, Tryd.ntmps27
    go_wp2
    all_goals (try (exfalso; omega))
    go_ret
    exact ⟨rfl, rfl⟩
end Go.Proofs.YteoidkjiigjlaaaDoor
