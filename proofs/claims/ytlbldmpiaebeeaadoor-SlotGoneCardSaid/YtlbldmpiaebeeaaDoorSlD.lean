/- Slots: the law SlotNil. -/
import Derived.Test.YtlbldmpiaebeeaaDoorSlC
namespace Go.Proofs.YtlbldmpiaebeeaaDoor
open Go Go.RowKit Go.Maps Go.MapKept Go.ChangeMaps

/-- A sector that is spoilt. -/
def spoilt : List UInt8 := (zerosS 256).set 9 1
theorem spoilt_len : spoilt.length = 256 := by unfold spoilt; rw [List.length_set, zerosS_len]
theorem spoilt_E : getE spoilt = 17 := by
  unfold getE
  rw [spoilt_len, if_neg (by decide), if_neg, if_neg]
  · intro h
    exact h.2.1 rfl
  · intro h
    have : spoilt.getD 9 0 = (zerosS 256).getD 9 0 := by rw [h]
    exact absurd this (by decide)
def sN : List (List UInt8) := [zerosS 256, zerosS 256]
theorem dN_s : Dk.new 2 = DQ sN := by rw [Dk.new_dq]; rfl
/-- The disk behind a Write. -/
def dNw : Dk := ((DQ sN).put 0 spoilt).did
theorem dNw_there : dNw.there ((0 + 0 : Nat) : Int) = 0 := rfl
theorem dNw_at : dNw.at_ (0 + 0) = spoilt := rfl
theorem make_z (W : World) : (Instr.makeSlice 22 (.int .i64 256) (.int .i64 256)).run Tryd.prog W = .ok (.slice (some ⟨W.heap.size, 0, none⟩) 256 256) (W.alloc (.cells (bvs (zerosS 256)).toArray 5)) := by
  have h := make256 W
  rw [fillS_zero] at h
  have e : (bvs (zerosS 256)).toArray = (List.replicate 256 (Value.int .u8 0)).toArray := by
    unfold bvs zerosS
    rw [List.map_replicate]
    rfl
  rw [e]
  exact h
theorem rd_256 {w : World} {g : Nat} {l : List UInt8} (h : Blk w g 5 (bvs l).toArray) (hl : l.length = 256) : RdB w w.heap.size (.slice (some ⟨g, 0, none⟩) 256 256) l := by
  have := rd_of_blk (l := l) (m := []) 256 (by rwa [List.append_nil]) (by omega)
  rwa [hl] at this
set_option maxRecDepth 100000 in
set_option maxHeartbeats 8000000 in
theorem law_slotnil (i : Int) (A : Option Addr) (n c : Nat) (w : World) : Calls Tryd.prog 3 #[.int .i64 i, .slice A n c] w fun e w' => e = .returned (.bool true) ∧ Gr w w' := by
  by_cases hn : 300 < n
  · go_enter Tryd.func3, Tryd.ntmps3
    go_wp2_with (go_at_call 5; (with_reducible refine (live_s _).mono ?_); rintro e w1 ⟨rfl, hg1⟩)
    all_goals (try (exfalso; omega))
    go_ret
    exact ⟨rfl, hg1⟩
  · have hmz := make_z
    have cN := fun W => dk_newZ 2 2 rfl W (by decide) (by decide)
    rw [dN_s] at cN
    go_enter Tryd.func3, Tryd.ntmps3
    go_wp2_with (first
      | (go_at_call 6; (with_reducible refine (get_nil _ _).mono ?_); rintro e w1 ⟨rfl, hg1⟩)
      | (go_at_call 7; (with_reducible refine (used_nil _).mono ?_); rintro e w8 ⟨rfl, rfl⟩)
      | (go_at_call 8; (with_reducible refine (new_sl_nil _ _ _).mono ?_); rintro e w8 ⟨rfl, rfl⟩)
      | (go_at_call 9; (with_reducible refine (cN _).mono ?_); rintro e w2 ⟨g, gs, gm, K, rfl, hD2, hK, hg2⟩
         have cS := new_sl hD2 0 1 0 1 rfl rfl (by decide) (by decide) (by decide) (by decide)
         have hh : ¬ DkS g gs gm w2.heap.size := fun h => by have := hD2.lt _ h; omega)
      | (go_at_call 8; (with_reducible refine cS.mono ?_); rintro e w3 ⟨rfl, hs3, hg3⟩
         have hB3 := Blk.new w3 5 (bvs (zerosS 256)).toArray
         have hf9 := hB3.frozen 9
         have hc9 : (w3.alloc (.cells (bvs (zerosS 256)).toArray 5)).cell? ⟨w3.heap.size, 9, none⟩ = some (.int .u8 0) := hB3.cell 9
         have hB4 := Blk.new w3 5 (bvs spoilt).toArray
         have hb9 : (bvs (zerosS 256)).toArray.setIfInBounds 9 (.int .u8 1) = (bvs spoilt).toArray := bvs_set _ 9 1
         have hgA : Gr w3 (w3.alloc (.cells (bvs spoilt).toArray 5)) := Gr.alloc _ _
         have cW := dk_writeZ ((hD2.gr hg3).gr hgA) 0 0 rfl _ spoilt (dq_there sN 0 (by decide)) (rd_256 hB4 spoilt_len) spoilt_len (by decide))
      | (go_at_call 10; (with_reducible refine cW.mono ?_); rintro e w5 ⟨rfl, hD5, hb5⟩
         have hD5' : DkAt w5 _ g gs gm 2 (0 + 1) dNw := hD5
         have hs5 := (hs3.gr hgA).but hb5 hh
         have cG := get_sl_bad hD5' hs5 0 (by decide) (by decide) (by decide) dNw_there (by rw [dNw_at]; exact spoilt_len) (by rw [dNw_at, spoilt_E]; decide)
         rw [dNw_at, spoilt_E, show ((0 : Nat) : Int) = 0 from rfl] at cG)
      | (go_at_call 6; (with_reducible refine cG.mono ?_); rintro e w6 ⟨rfl, hg6⟩)
      | (go_at_call 12; (with_reducible refine (put_nil _ _ _).mono ?_); rintro e w8 ⟨rfl, rfl⟩)
      | (go_at_call 13; (with_reducible refine (clear_nil _ _).mono ?_); rintro e w8 ⟨rfl, rfl⟩)
      | (go_at_call 11; (with_reducible refine (num_s _ _).mono ?_); rintro e w9 ⟨rfl, rfl⟩)
      | (go_at_call 5; (with_reducible refine (live_s _).mono ?_); rintro e w7 ⟨rfl, hg7⟩))
    all_goals (try (exfalso; omega))
    go_ret
    have hA : But (fun k => w.heap.size ≤ k) w2 w7 := ((But.of_gr _ (Gr.trans hg3 hgA)).trans (hb5.mono fun k hk => Nat.le_trans hg1.size (hK k (.inl hk)))).trans (But.of_gr _ (Gr.trans hg6 hg7))
    have hg12 := Gr.trans hg1 hg2
    exact ⟨rfl, Below.trans hg12 (hA.below hg12.size fun k hk => hk)⟩
theorem row_slotnil (i : Int) (A : Option Addr) (n c : Nat) (zs : List Int) (W : World) (_ : (Lit.int .i64 i).wf = true) (_ : (A = none ∧ n = 0 ∧ c = 0 ∧ zs = []) ∨ ∃ x, A = some x ∧ n ≤ c ∧ c ≤ maxLen ∧ zs.length = c ∧ (∀ i, i < zs.length → W.cell? (x.add i) = some (.int .u8 (zs.getD i 0))) ∧ ∀ z ∈ zs, (Lit.int .u8 z).wf = true) :
    Calls Tryd.prog 3 #[.int .i64 i, .slice A n c] W fun e w' => e = .returned (.bool true) ∧ Below W.heap.size W w' := law_slotnil i A n c W
end Go.Proofs.YtlbldmpiaebeeaaDoor
