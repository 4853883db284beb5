/- Slots: the page's example (live); the law SlotNil. -/
import Derived.Test.YtlbldmpiaebeeaaDoorSlB
import Derived.Lib.SlBytesConst
namespace Go.Proofs.YtlbldmpiaebeeaaDoor
open Go Go.RowKit Go.Maps Go.MapKept Go.ChangeMaps

theorem fullS_zero : fullS 0 = zerosS 256 := rfl
theorem dq_there (s : List (List UInt8)) (i : Nat) (hi : i < s.length) : (DQ s).there (i : Int) = 0 := by
  unfold Dk.there DQ
  simp only [Bool.false_eq_true, if_false]
  rw [if_neg (by omega)]
theorem dq_at (s : List (List UInt8)) (i : Nat) : (DQ s).at_ i = s.getD i [] := by
  unfold Dk.at_ DQ
  simp only [List.getD_eq_getElem?_getD]
  have : ((List.replicate s.length (none : Option (List UInt8)))[i]?).getD none = none := by
    rw [List.getElem?_replicate]
    split <;> rfl
  rw [this]
  rfl
theorem dq_put (s : List (List UInt8)) (i : Nat) (b : List UInt8) (hi : i < s.length) (hb : b.length ≤ 249) : (DQ s).slotPut i b = (0, DQ (s.set i (secS 4 b))) := by
  unfold Dk.slotPut
  rw [dq_there s i hi, if_neg (by simp), if_neg (by omega), dq_over s i _ hi (secS_len 4 b hb)]
theorem dq_clear (s : List (List UInt8)) (i : Nat) (hi : i < s.length) : (DQ s).slotClear i = (0, DQ (s.set i (zerosS 256))) := by
  unfold Dk.slotClear
  rw [dq_there s i hi, if_neg (by simp), dq_at]
  by_cases hz : s.getD i [] = zerosS 256
  · rw [if_pos hz]
    congr 2
    rw [← hz, List.getD_eq_getElem?_getD, List.getElem?_eq_getElem hi]
    exact (List.set_getElem_self hi).symm
  · rw [if_neg hz, dq_over s i _ hi (zerosS_len _)]
/-- Bytes of a constant. -/
theorem rd_const (W : World) (l : List UInt8) (fr : Nat × Nat) : RdB (W.alloc (.cells (bvs l).toArray 5 fr)) (W.alloc (.cells (bvs l).toArray 5 fr)).heap.size (.slice (some ⟨W.heap.size, 0, none⟩) l.length l.length) l := by
  have hn := heap_alloc_new W (.cells (bvs l).toArray 5 fr)
  refine ⟨_, _, rfl, Nat.le_refl _, by rw [bvs_lenS, Nat.mul_one], fun _ => ⟨_, rfl, (Array.getElem?_eq_some_iff.1 hn).1, fun j u hu => ?_⟩⟩
  rw [addrD, cell_of_row _ _ _ _ _ _ hn, List.getElem?_toArray, hu]
theorem num_s (n : Int) (w : World) : Calls Tryd.prog 11 #[.int .i64 n] w fun e w' => e = .returned (.int .i64 n) ∧ w = w' := by
  go_enter Tryd.func11, Tryd.ntmps11
  go_wp2
  go_ret
  exact ⟨rfl, rfl⟩
section
variable {w w' : World} {K K' : Nat → Prop} {g gs gm n m h f c : Nat} {s : List (List UInt8)}
theorem at_len (hl : ∀ l ∈ s, l.length = 256) (i : Nat) (hi : i < s.length) : ((DQ s).at_ i).length = 256 := by
  rw [dq_at, List.getD_eq_getElem?_getD, List.getElem?_eq_getElem hi]
  exact hl _ (List.getElem_mem hi)
theorem set_len {l : List UInt8} (hl : ∀ l ∈ s, l.length = 256) (i : Nat) (h : l.length = 256) : ∀ k ∈ s.set i l, k.length = 256 := fun k hk => (List.mem_or_eq_of_mem_set hk).elim (hl k) fun e => e ▸ h
theorem put_dq (hD : DkAt w K g gs gm n m (DQ s)) (hs : SlAt w h g f c) (hh : ¬ DkS g gs gm h) (i : Nat) (z : Int) (hz : z = i) (hi : i < c) (hc : c ≤ 16) (hf : f ≤ 1024) (hfi : f + i < s.length) (hl : ∀ l ∈ s, l.length = 256) (v : Value) (b : List UInt8) (hv : RdB w w.heap.size v b) (hb : b.length ≤ 249) (hm : m ≤ 1000000) :
    Calls Tryd.prog 12 #[.pointer (some ⟨h, 0, none⟩), .int .i64 z, v] w fun e w' => ∃ K' m', e = .returned (.int .i64 0) ∧ DkAt w' K' g gs gm n m' (DQ (s.set (f + i) (secS 4 b))) ∧ m' ≤ m + 1 ∧ But (DkS g gs gm) w w' := by
  subst hz
  have h := put_sl hD hs hh i hi hc hf (by rw [at_len hl _ hfi]; decide) v b hv hm
  rw [dq_put s _ b hfi hb] at h
  exact h
theorem clear_dq (hD : DkAt w K g gs gm n m (DQ s)) (hs : SlAt w h g f c) (hh : ¬ DkS g gs gm h) (i : Nat) (z : Int) (hz : z = i) (hi : i < c) (hc : c ≤ 16) (hf : f ≤ 1024) (hfi : f + i < s.length) (hl : ∀ l ∈ s, l.length = 256) (hm : m ≤ 1000000) :
    Calls Tryd.prog 13 #[.pointer (some ⟨h, 0, none⟩), .int .i64 z] w fun e w' => ∃ K' m', e = .returned (.int .i64 0) ∧ DkAt w' K' g gs gm n m' (DQ (s.set (f + i) (zerosS 256))) ∧ m' ≤ m + 1 ∧ But (DkS g gs gm) w w' := by
  subst hz
  have h := clear_sl hD hs hh i hi hc hf (by rw [at_len hl _ hfi]; decide) hm
  rw [dq_clear s _ hfi] at h
  exact h
theorem secS_zero (k : UInt8) (b : List UInt8) : (secS k b).getD 0 0 = k := rfl
theorem get_dq (hD : DkAt w K g gs gm n m (DQ s)) (hs : SlAt w h g f c) (i : Nat) (z : Int) (hz : z = i) (hi : i < c) (hc : c ≤ 16) (hf : f ≤ 1024) (hfi : f + i < s.length) (b : List UInt8) (hb : b.length ≤ 249) (he : s.getD (f + i) [] = secS 4 b) :
    Calls Tryd.prog 6 #[.pointer (some ⟨h, 0, none⟩), .int .i64 z] w fun e w' => (∃ x, e = .returned (.tuple #[x, .int .i64 0]) ∧ OwnB w' w.heap.size x b) ∧ Gr w w' := by
  subst hz
  have ha := dq_at s (f + i)
  rw [he] at ha
  have h := get_sl_ok hD hs i hi hc hf (dq_there s _ hfi) (by rw [ha]; exact secS_len 4 b hb) (by rw [ha]; exact getE_secS 4 b (by decide) hb) (by rw [ha]; exact secS_zero 4 b)
  rw [ha, bodyS_secS 4 b hb] at h
  exact h
theorem get_dq_zero (hD : DkAt w K g gs gm n m (DQ s)) (hs : SlAt w h g f c) (i : Nat) (z : Int) (hz : z = i) (hi : i < c) (hc : c ≤ 16) (hf : f ≤ 1024) (hfi : f + i < s.length) (he : s.getD (f + i) [] = zerosS 256) :
    Calls Tryd.prog 6 #[.pointer (some ⟨h, 0, none⟩), .int .i64 z] w fun e w' => e = .returned (.tuple #[.slice none 0 0, .int .i64 5]) ∧ Gr w w' := by
  subst hz
  have ha := dq_at s (f + i)
  rw [he] at ha
  have e5 : getE (zerosS 256) = 5 := by unfold getE; rw [zerosS_len, if_neg (by decide), if_pos rfl]
  have h := get_sl_bad hD hs i hi hc hf (dq_there s _ hfi) (by rw [ha]; exact zerosS_len _) (by rw [ha, e5]; decide)
  rw [ha, e5] at h
  exact h
end
/-- Four sectors, one of them x. -/
def sL (x : List UInt8) : List (List UInt8) := [zerosS 256, x, zerosS 256, zerosS 256]
theorem sL_len (x : List UInt8) (hx : x.length = 256) : ∀ l ∈ sL x, l.length = 256 := by
  intro l hl
  unfold sL at hl
  simp only [List.mem_cons, List.not_mem_nil, or_false] at hl
  rcases hl with rfl | rfl | rfl | rfl
  · exact zerosS_len _
  · exact hx
  · exact zerosS_len _
  · exact zerosS_len _
theorem dL_s : Dk.new 4 = DQ (sL (zerosS 256)) := by rw [Dk.new_dq]; rfl
set_option maxRecDepth 100000 in
set_option maxHeartbeats 4000000 in
theorem live_s (w : World) : Calls Tryd.prog 5 #[] w fun e w' => e = .returned (.bool true) ∧ Gr w w' := by
  have cN := dk_newZ 4 4 rfl w (by decide) (by decide)
  rw [dL_s] at cN
  have hcv := fun (W : World) C n c => Lib.run_convert_bytes_const (P := Tryd.prog) W 22 5 C n c Tryd.underlying22 Tryd.underlying5
  have hc1 : (bvs [97]).toArray = #[.int .u8 97] := rfl
  have hl0 := sL_len (zerosS 256) (zerosS_len _)
  have hl1 := sL_len (secS 4 [97]) (secS_len 4 [97] (by decide))
  go_enter Tryd.func5, Tryd.ntmps5
  go_wp2_with (first
    | (go_at_call 9; (with_reducible refine cN.mono ?_); rintro e w1 ⟨g, gs, gm, K, rfl, hD1, hK, hg1⟩
       have cS := new_sl hD1 1 2 1 2 rfl rfl (by decide) (by decide) (by decide) (by decide)
       have hh : ¬ DkS g gs gm w1.heap.size := fun h => by have := hD1.lt _ h; omega)
    | (go_at_call 8; (with_reducible refine cS.mono ?_); rintro e w2 ⟨rfl, hs2, hg2⟩
       have hrd : RdB (w2.alloc (.cells #[.int .u8 97] 5 (1, 2))) (w2.alloc (.cells #[.int .u8 97] 5 (1, 2))).heap.size (.slice (some ⟨w2.heap.size, 0, none⟩) 1 1) [97] := rd_const w2 [97] (1, 2)
       have hgA : Gr w2 (w2.alloc (.cells #[.int .u8 97] 5 (1, 2))) := Gr.alloc _ _
       have cP := put_dq ((hD1.gr hg2).gr hgA) (hs2.gr hgA) hh 0 0 rfl (by decide) (by decide) (by decide) (by decide) hl0 _ _ hrd (by decide) (by decide))
    | (go_at_call 12; (with_reducible refine cP.mono ?_); rintro e w4 ⟨K4, m4, rfl, hD4, hm4, hb4⟩
       have hs4 := (hs2.gr hgA).but hb4 hh
       have cG := get_dq hD4 hs4 0 0 rfl (by decide) (by decide) (by decide) (by decide) [97] (by decide) rfl)
    | (go_at_call 6; (with_reducible refine cG.mono ?_); rintro e w5 ⟨⟨x, rfl, hx⟩, hg5⟩
       have cC := clear_dq (hD4.gr hg5) (hs4.gr hg5) hh 0 0 rfl (by decide) (by decide) (by decide) (by decide) hl1 (by omega))
    | (go_at_call 13; (with_reducible refine cC.mono ?_); rintro e w6 ⟨K6, m6, rfl, hD6, hm6, hb6⟩
       have hs6 := (hs4.gr hg5).but hb6 hh
       have cG2 := get_dq_zero hD6 hs6 0 0 rfl (by decide) (by decide) (by decide) (by decide) rfl
       clear cG)
    | (go_at_call 6; (with_reducible refine cG2.mono ?_); rintro e w7 ⟨rfl, hg7⟩
       have hx7 := (hx.but hb6 fun k hk => by have := hD4.lt k hk; exact this).gr hg7
       have hst := str_rdS hx7.rdD)
    | (go_at_call 11; (with_reducible refine (num_s _ _).mono ?_); rintro e w9 ⟨rfl, rfl⟩))
  go_ret
  have hA : But (fun k => w.heap.size ≤ k) w1 w7 := (((But.of_gr _ (Gr.trans hg2 hgA)).trans (hb4.mono fun k hk => hK k (.inl hk))).trans (But.of_gr _ hg5)).trans ((hb6.mono fun k hk => hK k (.inl hk)).trans (But.of_gr _ hg7))
  exact ⟨rfl, Below.trans hg1 (hA.below hg1.size fun k hk => hk)⟩
end Go.Proofs.YtlbldmpiaebeeaaDoor
