/- Sealed sectors: the program's Put. -/
import Derived.Test.YtlbldmpiaebeeaaDoorSeB
namespace Go.Proofs.YtlbldmpiaebeeaaDoor
open Go Go.RowKit

theorem hd_zero (k : UInt8) (b : List UInt8) (hb : b.length ≤ 249) : (((zerosS 256).set 0 k).set 1 (UInt8.ofNat (b.length / 256))).set 2 (UInt8.ofNat b.length) = [k, UInt8.ofNat (b.length / 256), UInt8.ofNat b.length] ++ (zerosS b.length ++ zerosS (253 - b.length)) := by
  have e : zerosS 256 = 0 :: 0 :: 0 :: zerosS 253 := rfl
  rw [e]
  have e2 : zerosS b.length ++ zerosS (253 - b.length) = zerosS 253 := by
    unfold zerosS
    rw [List.replicate_append_replicate, show b.length + (253 - b.length) = 253 by omega]
  rw [e2]
  rfl
theorem hd_body (k : UInt8) (b : List UInt8) (hb : b.length ≤ 249) : [k, UInt8.ofNat (b.length / 256), UInt8.ofNat b.length] ++ (b ++ zerosS (253 - b.length)) = hdS k b ++ (zerosS 4 ++ []) := by
  unfold hdS
  rw [List.append_nil, List.append_assoc, List.append_assoc]
  congr 2
  unfold zerosS
  rw [List.replicate_append_replicate, show 249 - b.length + 4 = 253 - b.length by omega]
theorem bvs_set (l : List UInt8) (i : Nat) (x : UInt8) : (bvs l).toArray.setIfInBounds i (.int .u8 (x.toNat : Int)) = (bvs (l.set i x)).toArray := by
  rw [List.setIfInBounds_toArray]
  unfold bvs
  rw [List.map_set]
  rfl
set_option maxRecDepth 100000 in
set_option maxHeartbeats 4000000 in
theorem put_s (w : World) (v : Value) (b : List UInt8) (k : UInt8) (z : Int) (hz : z = (k.toNat : Int)) (hk : k ≠ 0) (hr : RdB w w.heap.size v b) (hb : b.length ≤ 249) : Calls Tryd.prog 26 #[.int .i64 z, v] w fun e w' => ∃ u, e = .returned (.tuple #[u, .int .i64 0]) ∧ OwnB w' w.heap.size u (secS k b) ∧ Gr w w' := by
  have cZ := zero_s w
  have hk0 : k.toNat ≠ 0 := fun h => hk (UInt8.toNat_inj.1 h)
  have hk1 := k.toNat_lt
  obtain ⟨A, c, rfl, hc, hA⟩ := id hr
  have e1 : ((UInt8.ofNat (b.length / 256)).toNat : Int) = (b.length : Int) / 256 := by rw [UInt8.toNat_ofNat']; omega
  have e2 : ((UInt8.ofNat b.length).toNat : Int) = (b.length : Int) := by rw [UInt8.toNat_ofNat']; omega
  subst hz
  go_enter Tryd.func26, Tryd.ntmps26
  go_wp2_with (go_at_call 28; (with_reducible refine cZ.mono ?_); rintro e w1 ⟨rfl, hB1, hg1⟩
               have hf0 := hB1.frozen 0
               have hf1 := hB1.frozen 1
               have hf2 := hB1.frozen 2
               have hc0 : w1.cell? ⟨w.heap.size, 0, none⟩ = some (.int .u8 0) := hB1.cell 0
               have hc1 : w1.cell? ⟨w.heap.size, 1, none⟩ = some (.int .u8 0) := hB1.cell 1
               have hc2 : w1.cell? ⟨w.heap.size, 2, none⟩ = some (.int .u8 0) := hB1.cell 2
               have hB2 := hB1.set_ 0 (.int .u8 (k.toNat : Int))
               rw [bvs_set] at hB2
               have hB3 := hB2.set_ 1 (.int .u8 ((b.length : Int) / 256))
               rw [← e1, bvs_set, e1] at hB3
               have hB4 := hB3.set_ 2 (.int .u8 (b.length : Int))
               rw [← e2, bvs_set, e2, hd_zero k b hb] at hB4
               have hb4 : Below w.heap.size w (((w1.setCell ⟨w.heap.size, 0, none⟩ (.int .u8 (k.toNat : Int))).setCell ⟨w.heap.size, 1, none⟩ (.int .u8 ((b.length : Int) / 256))).setCell ⟨w.heap.size, 2, none⟩ (.int .u8 (b.length : Int))) := ((hg1.setCell (p := ⟨w.heap.size, 0, none⟩) (Nat.le_refl _) _).setCell (p := ⟨w.heap.size, 1, none⟩) (Nat.le_refl _) _).setCell (p := ⟨w.heap.size, 2, none⟩) (Nat.le_refl _) _
               obtain ⟨hcp, hB5⟩ := copy_blk _ 3 w.heap.size (.slice A b.length c) [k, UInt8.ofNat (b.length / 256), UInt8.ofNat b.length] b (zerosS b.length) (zerosS (253 - b.length)) 253 253 hB4 ((hr.gr (Nat.le_refl _) hb4).more hb4.size) (zerosS_len _) (by omega)
               have hb5 := below_cells w.heap.size (Nat.le_refl _) (bvs b) 3 hb4
               rw [hd_body k b hb] at hB5
               simp only [List.length_cons, List.length_nil, Nat.zero_add, Nat.reduceAdd] at hcp hB5
               clear hB1 hB2 hB3 hB4 hb4 e1 e2)
  all_goals (try (exfalso; omega))
  clear hf0 hf1 hf2 hc0 hc1 hc2 hcp
  have hhd := hdS_len k b hb
  generalize ((((w1.setCell ⟨w.heap.size, 0, none⟩ (.int .u8 (k.toNat : Int))).setCell ⟨w.heap.size, 1, none⟩ (.int .u8 ((b.length : Int) / 256))).setCell ⟨w.heap.size, 2, none⟩ (.int .u8 (b.length : Int))).setCells w.heap.size 3 (bvs b)) = W2 at *
  obtain ⟨g, hg⟩ : ∃ g, w.heap.size = g := ⟨_, rfl⟩
  rw [hg] at hB5 hb5 ⊢
  let fM : Fact := ⟨fun u W => OwnB W W2.heap.size u (markB (hdS k b)), fun u W W' hp hg => hp.gr hg⟩
  let fE : Fact := ⟨fun _ W => Blk W g 5 (bvs (hdS k b ++ (markB (hdS k b) ++ []))).toArray ∧ Below g w W, fun _ W W' hp hg => ⟨hp.1.below hg hp.1.lt, Below.trans hp.2 (Below.mono hg (by have := hp.2.size; omega))⟩⟩
  refine wp_region_facts [.is (.slice (some ⟨g, 0, none⟩) 256 256), .is (.slice (some ⟨g, 252, none⟩) 4 4), .is (.slice (some ⟨g, 0, none⟩) 256 256), .is (.slice (some ⟨g, 0, none⟩) 252 256), fM, fE]
    (fun W => Blk W g 5 (bvs (hdS k b ++ (zerosS 4 ++ []))).toArray ∧ Below g w W ∧ Gr W2 W) (fun q j => q == 5 && decide (j < 5)) (fun q => q == 5) 0 (by kernel_rfl) rfl (by kernel_rfl) (by kernel_rfl) (Nat.zero_le _) ⟨hB5.drew, Below.drew hb5, Gr.drew _⟩ (fun vals => by simp [fillA, dstsOf, go_sem]; rfl) ?_ ?_
  · intro q hq6
    replace hq6 : q < 6 := hq6
    have hI : ∀ W W', (Blk W g 5 (bvs (hdS k b ++ (zerosS 4 ++ []))).toArray ∧ Below g w W ∧ Gr W2 W) → Gr W W' → (Blk W' g 5 (bvs (hdS k b ++ (zerosS 4 ++ []))).toArray ∧ Below g w W' ∧ Gr W2 W') := fun W W' hp hg => ⟨hp.1.below hg hp.1.lt, Below.trans hp.2.1 (Below.mono hg (by have := hp.2.1.size; omega)), Gr.trans hp.2.2 hg⟩
    rcases (by omega : q = 0 ∨ q = 1 ∨ q = 2 ∨ q = 3 ∨ q = 4 ∨ q = 5) with rfl | rfl | rfl | rfl | rfl | rfl
    · refine step_g 0 [] _ _ rfl rfl hI (by kernel_rfl) fun vals W hb_ hB_ hIw hd => ?_
      go_wp2
      exact ⟨rfl, _, rfl, Gr.refl _, rfl⟩
    · refine step_g 1 [0] _ _ rfl rfl hI (by kernel_rfl) fun vals W hb_ hB_ hIw hd => ?_
      have e0 : vals 0 = _ := hd 0 (by simp) _ rfl
      rw [e0]
      go_wp2
      exact ⟨rfl, _, rfl, Gr.refl _, rfl⟩
    · refine step_g 2 [] _ _ rfl rfl hI (by kernel_rfl) fun vals W hb_ hB_ hIw hd => ?_
      go_wp2
      exact ⟨rfl, _, rfl, Gr.refl _, rfl⟩
    · refine step_g 3 [2] _ _ rfl rfl hI (by kernel_rfl) fun vals W hb_ hB_ hIw hd => ?_
      have e2 : vals 2 = _ := hd 2 (by simp) _ rfl
      rw [e2]
      go_wp2
      exact ⟨rfl, _, rfl, Gr.refl _, rfl⟩
    · refine step_g 4 [3] _ _ rfl rfl hI (by kernel_rfl) fun vals W hb_ hB_ hIw hd => ?_
      have e3 : vals 3 = _ := hd 3 (by simp) _ rfl
      rw [e3]
      obtain ⟨hBW, hbW, hgW⟩ := hIw (by kernel_rfl)
      have hrW := rd_of_blk 256 hBW (by omega)
      rw [hhd] at hrW
      have cM := put_m W _ _ hrW (by omega)
      go_wp2_with (go_at_call 36; (with_reducible refine cM.mono ?_); rintro e w2 ⟨u, rfl, ho, hg⟩)
      exact ⟨rfl, _, rfl, hg, ho.lower hgW.size⟩
    · refine step_s 5 [1, 4] [] _ _ rfl rfl (by kernel_rfl) (by kernel_rfl) fun vals W hb_ hB_ hIw hd => ?_
      have e1 : vals 1 = _ := hd 1 (by simp) _ rfl
      have h4 : OwnB W W2.heap.size (vals 4) (markB (hdS k b)) := hd 4 (by simp) _ rfl
      obtain ⟨hBW, hbW, hgW⟩ := hIw (by kernel_rfl)
      rw [e1]
      generalize vals 4 = u at h4 ⊢
      obtain ⟨hcp, hB6⟩ := copy_blk W 3 g u (hdS k b) (markB (hdS k b)) (zerosS 4) [] 4 4 hBW h4.rdD (by rw [markB_len, zerosS_len]) (by rw [markB_len]; exact Nat.le_refl _)
      rw [hhd, markB_len] at hcp
      rw [hhd] at hB6
      obtain ⟨A4, n4, c4, rfl⟩ : ∃ A n c, u = .slice A n c := by
        obtain ⟨A4, c4, e, _⟩ := h4.rdD
        exact ⟨_, _, _, e⟩
      go_wp2
      have hbl : Below 0 W (W.setCells g 252 (bvs (markB (hdS k b)))) := below_cells g (Nat.zero_le _) _ _ (Below.refl _ _)
      exact ⟨rfl, _, rfl, hbl, ⟨hB6, below_cells g (Nat.le_refl _) _ _ hbW⟩, fun h _ => absurd h (by decide), fun j hj => absurd hj List.not_mem_nil⟩
  · intro vals W3 hb3 hf
    obtain ⟨hB3, hbl3⟩ := (show Blk W3 g 5 (bvs (hdS k b ++ (markB (hdS k b) ++ []))).toArray ∧ Below g w W3 from hf 5 _ rfl (fun k hk => by simp))
    go_wp2
    go_ret2
    rw [List.append_nil] at hB3
    have hO := own_of_blk (base := g) (l := secS k b) hB3 (Nat.le_refl _) (by rw [secS_len k b hb]; decide)
    rw [secS_len k b hb] at hO
    refine ⟨_, rfl, ?_, ?_⟩
    · rw [hg]; exact hO
    · show Below w.heap.size w W3
      rw [hg]; exact hbl3
set_option maxRecDepth 100000 in
theorem put_s_no (w : World) (A : Option Addr) (n c : Nat) (k : UInt8) (z : Int) (hz : z = (k.toNat : Int)) (hk : k ≠ 0) (hn : 249 < n) : Calls Tryd.prog 26 #[.int .i64 z, .slice A n c] w fun e w' => e = .returned (.tuple #[.slice none 0 0, .int .i64 3]) ∧ w = w' := by
  have hk0 : k.toNat ≠ 0 := fun h => hk (UInt8.toNat_inj.1 h)
  have hk1 := k.toNat_lt
  subst hz
  go_enter Tryd.func26, Tryd.ntmps26
  go_wp2
  all_goals (try (exfalso; omega))
  go_ret2
  exact ⟨rfl, rfl⟩
end Go.Proofs.YtlbldmpiaebeeaaDoor
