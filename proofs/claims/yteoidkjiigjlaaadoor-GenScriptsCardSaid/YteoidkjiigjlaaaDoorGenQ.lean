/- The reference's dice: bytes. -/
import Derived.Test.YteoidkjiigjlaaaDoorGenR
import Derived.Test.YteoidkjiigjlaaaDoorGenN
import Derived.Lib.SlBytesConst
namespace Go.Proofs.YteoidkjiigjlaaaDoor
open Go Go.RowKit

theorem DR.grown {w0 w w' : World} {g : Nat} {s : Int} {row : Option Nat} (h : DR w0 g w s) (hx : w.grownBy w' row) (hr : ∀ k, row = some k → w0.heap.size ≤ k) (hn : row ≠ some g) : DR w0 g w' s :=
  ⟨gr_grown h.gr hx hr, h.ge, h.dice.1.grown hx (fun e => hn e.symm), h.dice.2⟩
theorem GrX.grown {w0 w w' : World} {g : Nat} {row : Option Nat} (h : GrX w0 w g) (hx : w.grownBy w' row) (hr : ∀ k, row = some k → w0.heap.size ≤ k) : GrX w0 w' g := by
  refine ⟨hx.os.trans h.os, hx.tape.trans h.tape, hx.output.trans h.output, Nat.le_trans h.size hx.size, fun k hk hne => ?_⟩
  rw [hx.block k (Nat.lt_of_lt_of_le hk h.size) (fun e => by have := hr k e.symm; omega)]
  exact h.block k hk hne
theorem RkB.of_row {w : World} {K : Nat → Prop} {gb n : Nat} {l : List UInt8} {cs : Array Value} {T : TypeId} {fz : Nat × Nat} (h : w.heap[gb]? = some (.cells cs T fz)) (hc : cs.toList = bvs l) (hK : K gb) (hn : n = l.length) : RkB w K (.slice (some ⟨gb, 0, none⟩) n n) l := by
  subst hn
  refine ⟨_, _, rfl, Nat.le_refl _, by rw [bvs_length]; omega, fun _ => ⟨_, rfl, hK, fun j u hu => ?_⟩⟩
  rw [addr0, cell_of_row w gb j cs T fz h, ← Array.getElem?_toList, hc, hu]
/-- An operation whose run is known. -/
theorem wpList_runL {P : Program} {ops : Array Oper} {rest : List Oper} {o : Oper} {a : Act} {Q : Exit → Act → World → Prop} {w : World} (hgd : o.guard = none) (v : Value) (W' : World) (hrun : (execOp a.eval o).run P w = .ok (.value v) W')
    (h : wpList P ops Q rest (a.put o.dst v) W') : wpList P ops Q (o :: rest) a w :=
  wpList_plain hgd fun K hK => by unfold Oper.wp; rw [hrun]; exact hK _ _ h
def longC : Array Value := #[.int .u8 99, .int .u8 108, .int .u8 97, .int .u8 115, .int .u8 115, .int .u8 32, .int .u8 34, .int .u8 104, .int .u8 114, .int .u8 34, .int .u8 32, .int .u8 107, .int .u8 101, .int .u8 101, .int .u8 112, .int .u8 32, .int .u8 51, .int .u8 100, .int .u8 32, .int .u8 97, .int .u8 102, .int .u8 116, .int .u8 101, .int .u8 114, .int .u8 32, .int .u8 105, .int .u8 110, .int .u8 103, .int .u8 101, .int .u8 115, .int .u8 116, .int .u8 32, .int .u8 116, .int .u8 104, .int .u8 101, .int .u8 110, .int .u8 32, .int .u8 100, .int .u8 101, .int .u8 115, .int .u8 116, .int .u8 114, .int .u8 111, .int .u8 121, .int .u8 59, .int .u8 32, .int .u8 100, .int .u8 101, .int .u8 102, .int .u8 97, .int .u8 117, .int .u8 108, .int .u8 116, .int .u8 32, .int .u8 107, .int .u8 101, .int .u8 101, .int .u8 112, .int .u8 32, .int .u8 53, .int .u8 100, .int .u8 32, .int .u8 97, .int .u8 102, .int .u8 116, .int .u8 101, .int .u8 114, .int .u8 32, .int .u8 105, .int .u8 110, .int .u8 103, .int .u8 101, .int .u8 115, .int .u8 116, .int .u8 32, .int .u8 111, .int .u8 114, .int .u8 32, .int .u8 49, .int .u8 100, .int .u8 32, .int .u8 97, .int .u8 102, .int .u8 116, .int .u8 101, .int .u8 114, .int .u8 32, .int .u8 99, .int .u8 108, .int .u8 111, .int .u8 115, .int .u8 101, .int .u8 100, .int .u8 32, .int .u8 116, .int .u8 104, .int .u8 101, .int .u8 110, .int .u8 32, .int .u8 114, .int .u8 101, .int .u8 118, .int .u8 105, .int .u8 101, .int .u8 119, .int .u8 59]
theorem long_cells : longC.toList = bvs textLong := rfl
theorem short_bvs : bvs textShort = [.int .u8 100, .int .u8 101, .int .u8 102, .int .u8 97, .int .u8 117, .int .u8 108, .int .u8 116, .int .u8 32, .int .u8 107, .int .u8 101, .int .u8 101, .int .u8 112, .int .u8 32, .int .u8 50, .int .u8 100, .int .u8 32, .int .u8 97, .int .u8 102, .int .u8 116, .int .u8 101, .int .u8 114, .int .u8 32, .int .u8 105, .int .u8 110, .int .u8 103, .int .u8 101, .int .u8 115, .int .u8 116, .int .u8 32, .int .u8 116, .int .u8 104, .int .u8 101, .int .u8 110, .int .u8 32, .int .u8 100, .int .u8 101, .int .u8 115, .int .u8 116, .int .u8 114, .int .u8 111, .int .u8 121, .int .u8 59] := rfl
set_option maxRecDepth 100000 in
set_option maxHeartbeats 2000000 in
theorem rdata_any (w0 w : World) (g : Nat) (s k : Int) (h : DR w0 g w s) :
    Calls Tryd.prog 91 #[.pointer (some ⟨g, 0, none⟩), .int .i64 k] w fun e w' => ∃ v, e = .returned v ∧ RkB w' (KN w w') v (gData k s) ∧ DR w0 g w' (gDataS k s) ∧ GrX w w' g := by
  have hgw := h.lt
  by_cases hk : k = 2
  · subst hk
    have c2 := rdbelow_any w0 w g 2 s h (by omega)
    have hb := belowN_le 2 s (by omega)
    have e1 : gData 2 s = if belowN 2 s = 1 then textShort else textLong := rfl
    have e2 : gDataS 2 s = belowS 2 s := rfl
    rw [e1, e2]
    clear e1 e2
    have hcv := fun (W : World) C n c => Lib.run_convert_bytes_const (P := Tryd.prog) W 25 5 C n c Tryd.underlying25 Tryd.underlying5
    generalize belowN 2 s = m at *
    rcases (by omega : m = 0 ∨ m = 1) with rfl | rfl
    · rw [if_neg (by omega)]
      go_enter Tryd.func91, Tryd.ntmps91
      go_wp2_with (first
        | (go_at_call 25; (with_reducible refine c2.mono ?_); rintro e w1 ⟨rfl, hd1, hx1⟩)
        | (refine wpList_runL (o := ⟨some 14, _, _, _, _, _⟩) rfl (.slice (some ⟨w1.heap.size, 0, none⟩) 106 106) (w1.alloc (.cells longC 5)) (by kernel_rfl) ?_))
      go_ret
      have hz := hx1.size
      exact ⟨_, rfl, RkB.of_row (heap_alloc_new w1 _) long_cells ⟨hz, by simp⟩ rfl, hd1.grow (Gr.alloc _ _), hx1.new _⟩
    · rw [if_pos rfl]
      go_enter Tryd.func91, Tryd.ntmps91
      go_wp2_with (go_at_call 25; (with_reducible refine c2.mono ?_); rintro e w1 ⟨rfl, hd1, hx1⟩)
      go_ret
      have hz := hx1.size
      exact ⟨_, rfl, RkB.of_row (heap_alloc_new w1 _) short_bvs.symm ⟨hz, by simp⟩ rfl, hd1.grow (Gr.alloc _ _), hx1.new _⟩
  · have c8 := rdbelow_any w0 w g 8 s h (by omega)
    have hb := belowN_le 8 s (by omega)
    have e1 : gData k s = gBytes (belowN 8 s).toNat (belowS 8 s) := by unfold gData; rw [if_neg hk]
    have e2 : gDataS k s = gBytesS (belowN 8 s).toNat (belowS 8 s) := by unfold gDataS; rw [if_neg hk]
    rw [e1, e2]
    clear e1 e2
    generalize belowN 8 s = m at *
    obtain ⟨n, rfl⟩ : ∃ n : Nat, m = n := ⟨m.toNat, by omega⟩
    rw [Int.toNat_natCast]
    go_enter Tryd.func91, Tryd.ntmps91
    go_wp2_with (go_at_call 25; (with_reducible refine c8.mono ?_); rintro e w1 ⟨rfl, hd1, hx1⟩)
    go_loopw [5, 6] (fun v5 v6 wr => ∃ j : Nat, v6 = .int .i64 ((n : Int) - j) ∧ j ≤ n ∧ OwnB wr w.heap.size v5 (gBytes j (belowS 8 s)) ∧ DR w0 g wr (gBytesS j (belowS 8 s)) ∧ GrX w wr g) (fun _ v6 _ => (intOf v6).toNat)
    case atStart => exact ⟨0, by go_num, by omega, OwnB.nil _ _, hd1, hx1⟩
    case round =>
      obtain ⟨j, rfl, hj, ho, hd, hx⟩ := hrel
      by_cases hlt : j < n
      · have cB := rdbelow_any w0 wr g 256 _ hd (by omega)
        have hm := belowN_le 256 (gBytesS j (belowS 8 s)) (by omega)
        have HS1 := Lib.hid (gBytes_snoc j (belowS 8 s))
        have HS2 := Lib.hid (gBytesS_snoc j (belowS 8 s))
        have HLN := Lib.hid (gBytes_len j (belowS 8 s))
        have hne : u5.ownBlock ≠ some g := own_blk_ne ho hd.dice.1 (by decide)
        have hown := own_lt' ho
        have hzs := hx.size
        generalize belowN 256 (gBytesS j (belowS 8 s)) = m at *
        have hpos : 0 < (n : Int) - j := by omega
        have hbv : bvs [UInt8.ofNat m.toNat] = [Value.int .u8 m] := by
          have : bvs [UInt8.ofNat m.toNat] = [bv (UInt8.ofNat m.toNat)] := rfl
          rw [this, bv_nat _ (by omega)]
          congr 2
          omega
        have HBV := Lib.hid hbv
        clear hbv
        go_wp2_with (first
          | (go_at_call 25; (with_reducible refine cB.mono ?_); rintro e w2 ⟨rfl, hd2, hx2⟩
             have ho2 := ownsRow_x ho hx2 hne
             have hz2 := hx2.size)
          | (at_builtin
             refine wpList_appendB _ rfl (.tmp 22) (.tmp 26) rfl w.heap.size u5 _ rfl (ownsRow_gr ho2 (Gr.alloc _ _)) _ _ [UInt8.ofNat m.toNat] rfl (OwnB.new w2 _ 0 (Nat.zero_le _) (by simp [maxLen]) #[.int .u8 m] HBV.out.symm).rd (by rw [HLN.out]; simp; omega) (by simp; omega) ?_
             intro v3 w3 ho3 _ hg3))
        go_roundw
        case rel => exact ⟨j + 1, by go_num, by omega, by rw [HS1.out]; exact ho3, by rw [HS2.out]; exact (hd2.grow (Gr.alloc _ _)).grown hg3 (fun q hq => Nat.le_trans h.gr.size (hown q hq).1) hne, ((hx.trans hx2).new _).grown hg3 (fun q hq => (hown q hq).1)⟩
        case measure => simp [intOf]; omega
      · obtain rfl : j = n := by omega
        have hz : ¬ 0 < (j : Int) - j := by omega
        go_wp2
        go_ret
        exact ⟨_, rfl, OwnB.rk ho, hd, hx⟩
end Go.Proofs.YteoidkjiigjlaaaDoor
