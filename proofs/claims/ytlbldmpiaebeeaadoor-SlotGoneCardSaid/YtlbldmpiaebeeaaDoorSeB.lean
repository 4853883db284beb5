/- Sealed sectors: the program's Zero, Empty, Put. -/
import Derived.Test.YtlbldmpiaebeeaaDoorGsC
import Derived.Test.YtlbldmpiaebeeaaDoorDkR
import Derived.Lib.SlBuf
namespace Go.Proofs.YtlbldmpiaebeeaaDoor
open Go Go.RowKit

/-- A block's whole row is a row of the call's own. -/
theorem own_of_blk {w : World} {g base : Nat} {l : List UInt8} (h : Blk w g 5 (bvs l).toArray) (hb : base ≤ g) (hl : l.length ≤ maxLen) : OwnB w base (.slice (some ⟨g, 0, none⟩) l.length l.length) l := by
  refine ⟨by simp [bvs], .inr ⟨g, l.length, (bvs l).toArray, rfl, hb, h, Nat.le_refl _, hl, by simp [bvs], ?_⟩⟩
  rw [Nat.mul_one, List.take_of_length_le (by simp [bvs])]
/-- The front of a block is read. -/
theorem rd_of_blk {w : World} {g : Nat} {l m : List UInt8} (c : Nat) (h : Blk w g 5 (bvs (l ++ m)).toArray) (hc : l.length ≤ c) : RdB w w.heap.size (.slice (some ⟨g, 0, none⟩) l.length c) l := by
  refine ⟨_, _, rfl, hc, by rw [bvs_length]; omega, fun _ => ⟨_, rfl, h.lt, fun j u hu => ?_⟩⟩
  rw [addrD, h.cell j, List.getElem?_toArray]
  unfold bvs at hu ⊢
  rw [List.map_append, List.getElem?_append_left (List.getElem?_eq_some_iff.1 hu).1, hu]
/-- Cells are set from one on. -/
def putA (cs : Array Value) : Nat → List Value → Array Value
  | _, [] => cs
  | o, v :: r => putA (cs.setIfInBounds o v) (o + 1) r
theorem Blk.setCells {t : TypeId} {g : Nat} : ∀ (vs : List Value) (o : Nat) {w : World} {cs : Array Value}, Blk w g t cs → Blk (w.setCells g o vs) g t (putA cs o vs)
  | [], _, _, _, h => h
  | v :: r, o, _, _, h => Blk.setCells r (o + 1) (h.set_ o v)
theorem putA_list : ∀ (vs pre mid post : List Value), mid.length = vs.length → putA (pre ++ (mid ++ post)).toArray pre.length vs = (pre ++ (vs ++ post)).toArray
  | [], pre, [], post, _ => rfl
  | [], _, _ :: _, _, h => by simp at h
  | _ :: _, _, [], _, h => by simp at h
  | v :: vs, pre, x :: mid, post, h => by
    unfold putA
    rw [List.setIfInBounds_toArray, List.set_append_right _ _ (Nat.le_refl _), Nat.sub_self, List.cons_append, List.set_cons_zero]
    have := putA_list vs (pre ++ [v]) mid post (by simpa using h)
    rw [List.length_append, List.length_singleton, List.append_assoc, List.append_assoc] at this
    exact this
theorem bvs_appS (l m : List UInt8) : bvs (l ++ m) = bvs l ++ bvs m := by unfold bvs; rw [List.map_append]
theorem bvs_lenS (l : List UInt8) : (bvs l).length = l.length := by unfold bvs; rw [List.length_map]
theorem below_cells {B : Nat} {a : World} (b : Nat) (hb : B ≤ b) : ∀ (vs : List Value) (o : Nat) {w : World}, Below B a w → Below B a (w.setCells b o vs)
  | [], _, _, h => h
  | v :: r, o, _, h => below_cells b hb r (o + 1) (h.setCell (p := ⟨b, o, none⟩) hb v)
/-- 'copy' into the midst of a block. -/
theorem copy_blk (w : World) (ty : TypeId) (g : Nat) (a : Value) (pre l mid post : List UInt8) (d dc : Nat) (hB : Blk w g 5 (bvs (pre ++ (mid ++ post))).toArray) (hr : RdB w w.heap.size a l) (hm : mid.length = l.length) (hd : l.length ≤ d) :
    (Builtin.copy_ #[22, 22] ty #[.slice (some ⟨g, pre.length, none⟩) d dc, a]).run Tryd.prog w = .ok (.int .i64 (l.length : Int)) (w.setCells g pre.length (bvs l)) ∧ Blk (w.setCells g pre.length (bvs l)) g 5 (bvs (pre ++ (l ++ post))).toArray := by
  have hs : (Tryd.prog.info? 5).map (·.size) = some 1 := by
    have hu := u8_info
    cases hi : Tryd.prog.info? 5 with
    | none => rw [hi] at hu; cases hu
    | some i =>
      rw [hi] at hu
      simp only [Option.map_some, Option.some.injEq, Prod.mk.injEq] at hu
      simp only [Option.map_some, hu.2.1]
  obtain ⟨A, c, rfl, hc, hA⟩ := hr
  have hblk : Blk (w.setCells g pre.length (bvs l)) g 5 (bvs (pre ++ (l ++ post))).toArray := by
    have h2 := Blk.setCells (bvs l) pre.length hB
    rw [bvs_appS, bvs_appS] at h2
    have h3 := putA_list (bvs l) (bvs pre) (bvs mid) (bvs post) (by rw [bvs_lenS, bvs_lenS, hm])
    rw [bvs_lenS] at h3
    rw [h3] at h2
    rw [bvs_appS, bvs_appS]
    exact h2
  refine ⟨?_, hblk⟩
  rcases Nat.eq_zero_or_pos l.length with h0 | h0
  · have hl : l = [] := List.eq_nil_of_length_eq_zero h0
    subst hl
    exact run_copy_none (P := Tryd.prog) w _ _ _ 5 _ _ _ _ _ _ Tryd.underlying22 hs (by simp)
  · obtain ⟨ad, rfl, hlt, hcell⟩ := hA.2 h0
    have hr := run_copy_cells (P := Tryd.prog) w 22 22 ty 5 g pre.length d dc ad l.length c (bvs l) Tryd.underlying22 hs (by rw [bvs_lenS]; exact (Nat.min_eq_left hd).symm) hcell
      (fun j hj => by
        rw [bvs_lenS] at hj
        rw [hB.cell, List.getElem?_toArray, List.getElem?_eq_getElem (by rw [bvs_lenS]; simp only [List.length_append]; omega)]
        rfl)
      (fun j _ => hB.frozen _) (fun v hv => by unfold bvs at hv; obtain ⟨x, _, rfl⟩ := List.mem_map.1 hv; rfl)
    rw [bvs_lenS] at hr
    exact hr
theorem zero_s (w : World) : Calls Tryd.prog 28 #[] w fun e w' => e = .returned (.slice (some ⟨w.heap.size, 0, none⟩) 256 256) ∧ Blk w' w.heap.size 5 (bvs (zerosS 256)).toArray ∧ Gr w w' := by
  have hmk := make256
  go_enter Tryd.func28, Tryd.ntmps28
  go_wp2
  go_ret
  refine ⟨rfl, ?_, Gr.alloc _ _⟩
  have := Blk.new w 5 (fillS 0 0)
  rw [fillS_zero] at this ⊢
  have e : (bvs (zerosS 256)).toArray = (List.replicate 256 (Value.int .u8 0)).toArray := by
    unfold bvs zerosS
    rw [List.map_replicate]
    rfl
  rw [e]
  exact this
theorem rd_zeros {w : World} {g : Nat} (h : Blk w g 5 (bvs (zerosS 256)).toArray) : RdB w w.heap.size (.slice (some ⟨g, 0, none⟩) 256 256) (zerosS 256) := by
  have := rd_of_blk (l := zerosS 256) (m := []) 256 (by rwa [List.append_nil]) (by rw [zerosS_len]; exact Nat.le_refl _)
  rwa [zerosS_len] at this
theorem empty_s (w : World) (v : Value) (l : List UInt8) (hr : RdB w w.heap.size v l) : Calls Tryd.prog 21 #[v] w fun e w' => e = .returned (.bool (decide (l = zerosS 256))) ∧ Gr w w' := by
  have cZ := zero_s w
  obtain ⟨A, c, rfl, hc, hA⟩ := id hr
  go_enter Tryd.func21, Tryd.ntmps21
  go_wp2_with (first
    | (go_at_call 28; (with_reducible refine cZ.mono ?_); rintro e w1 ⟨rfl, hB1, hg1⟩
       have cE := equal_b w1 _ _ _ _ ((hr.gr (Nat.le_refl _) hg1).more hg1.size) (rd_zeros hB1))
    | (go_at_call 35; (with_reducible refine cE.mono ?_); rintro e w1 ⟨rfl, rfl⟩))
  go_ret
  exact ⟨rfl, hg1⟩
end Go.Proofs.YtlbldmpiaebeeaaDoor
