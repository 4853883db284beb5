/- The law EventGets: its walk. -/
import Derived.Test.YteoidkjiigjlaaaDoorEvRGet
import Derived.Test.YteoidkjiigjlaaaDoorEvLaw
namespace Go.Proofs.YteoidkjiigjlaaaDoor
open Go Go.RowKit Go.Sort

set_option maxRecDepth 100000 in
set_option maxHeartbeats 2000000 in
theorem law_evgets (v : Value) (l : List UInt8) (w : World) (hP : Pow w) (hr : RdB w w.heap.size v l) :
    Calls Tryd.prog 4 #[v] w fun e w' => e = .returned (.bool true) ∧ Gr w w' := by
  have HP := Lib.hid hP
  clear hP
  have hR := hr
  obtain ⟨A, c, rfl, hc, _⟩ := hr
  by_cases h : l.length ≤ 300
  · have cG := fun W hr => get_any W w.heap.size (.slice A l.length c) l (Below.size hr) (hR.gr (Nat.le_refl _) hr) (by omega)
    have cR := fun W hr => rget_any W w.heap.size (.slice A l.length c) l (Below.size hr) (hR.gr (Nat.le_refl _) hr) (by omega)
    generalize getD_ l = X at cG cR
    obtain ⟨⟨k, t, a, b⟩, E⟩ := X
    dsimp only at cG cR
    go_enter Tryd.func4, Tryd.ntmps4
    go_wp2_with (first
      | (go_at_call 20; (with_reducible refine (cG _ (by first | exact Gr.refl _ | exact Gr.alloc _ _)).mono ?_); rintro e w1 ⟨rfl, hb1⟩)
      | (go_at_call 21; (with_reducible refine (cR _ (by first | exact hb1 | exact Gr.new hb1 _)).mono ?_); rintro e w2 ⟨rfl, hb2⟩
         have hbx := (Blk.new w1 _ _).below hb2 (Blk.new w1 _ _).lt
         obtain ⟨d0, d1, d2, d3⟩ := four_cells (hbx.alloc (.cells #[.int .i64 k, .int .i64 t, .string a, .string b] 23))
         obtain ⟨f0, f1, f2, f3⟩ := four_cells (Blk.new w2 23 #[.int .i64 k, .int .i64 t, .string a, .string b])
         have hG : Gr w (w2.alloc (.cells #[.int .i64 k, .int .i64 t, .string a, .string b] 23)) := Gr.new (Gr.trans (Gr.new hb1 _) hb2) _)
      | (go_at_call 14; (with_reducible refine (num_any' E _).mono ?_); rintro e w3 ⟨rfl, rfl⟩)
      | (go_at_call 10; (with_reducible refine (evlive_any _ (HP.out.below hG)).mono ?_); rintro e w4 ⟨rfl, hb4⟩))
    go_ret
    exact ⟨rfl, Gr.trans hG hb4⟩
  · go_enter Tryd.func4, Tryd.ntmps4
    go_wp2_with (go_at_call 10; (with_reducible refine (evlive_any _ HP.out).mono ?_); rintro e w1 ⟨rfl, hb1⟩)
    all_goals (try (exfalso; omega))
    go_ret
    exact ⟨rfl, hb1⟩
theorem rd_of_row {W : World} {A : Option Addr} {n c : Nat} {zs : List Int} (h : (A = none ∧ n = 0 ∧ c = 0 ∧ zs = []) ∨ ∃ x, A = some x ∧ n ≤ c ∧ c ≤ maxLen ∧ zs.length = c ∧ (∀ i, i < zs.length → W.cell? (x.add i) = some (.int .u8 (zs.getD i 0))) ∧ ∀ z ∈ zs, (Lit.int .u8 z).wf = true) : ∃ l : List UInt8, l.length = n ∧ RdB W W.heap.size (.slice A n c) l := by
  rcases h with ⟨rfl, rfl, rfl, rfl⟩ | ⟨x, rfl, hnc, _, hz, hcell, hwf⟩
  · exact ⟨[], rfl, none, 0, rfl, Nat.le_refl _, Reads.none_⟩
  · have hlen : ((zs.take n).map fun z => UInt8.ofNat z.toNat).length = n := by simp; omega
    refine ⟨(zs.take n).map fun z => UInt8.ofNat z.toNat, hlen, some x, c, by rw [hlen], by omega, ?_⟩
    rw [hlen]
    refine ⟨by rw [bvs_length, hlen]; omega, fun h0 => ⟨x, rfl, ?_, fun j u hu => ?_⟩⟩
    · have := block_lt_of_cell (hcell 0 (by omega))
      rwa [block_of_add] at this
    have hj : j < n := by
      have := (List.getElem?_eq_some_iff.1 hu).1
      rw [bvs_length, hlen] at this
      exact this
    rw [hcell j (by omega)]
    have hzj : zs[j]? = some (zs[j]'(by omega)) := List.getElem?_eq_getElem (by omega)
    have hwfj := (Lit.wf_int_iff .u8 _).1 (hwf (zs[j]'(by omega)) (List.getElem_mem _))
    have h0 : 0 ≤ zs[j]'(by omega) := hwfj.1
    have h1 : zs[j]'(by omega) ≤ 255 := hwfj.2
    rw [← hu]
    simp only [bvs, List.getElem?_map, List.getElem?_take, if_pos hj, hzj, Option.map_some, List.getD_eq_getElem?_getD, Option.getD_some]
    rw [bv_nat _ (by omega), Int.toNat_of_nonneg h0]
theorem row_evgets (A : Option Addr) (n c : Nat) (zs : List Int) (W : World) (h : (A = none ∧ n = 0 ∧ c = 0 ∧ zs = []) ∨ ∃ x, A = some x ∧ n ≤ c ∧ c ≤ maxLen ∧ zs.length = c ∧ (∀ i, i < zs.length → W.cell? (x.add i) = some (.int .u8 (zs.getD i 0))) ∧ ∀ z ∈ zs, (Lit.int .u8 z).wf = true)
    (hP : Pow W) : Calls Tryd.prog 4 #[.slice A n c] W fun e w' => e = .returned (.bool true) ∧ Below W.heap.size W w' := by
  obtain ⟨l, _, hr⟩ := rd_of_row h
  exact law_evgets _ l W hP hr
end Go.Proofs.YteoidkjiigjlaaaDoor
