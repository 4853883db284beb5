/- Are commands, scripts the same? -/
import Derived.Test.YteoidkjiigjlaaaDoorGenS
import Derived.Test.YteoidkjiigjlaaaDoorGenT
namespace Go.Proofs.YteoidkjiigjlaaaDoor
open Go Go.RowKit Go.Sort

theorem RdCm.gr {w w' : World} {x : Cm} {v : Value} (h : RdCm w (· < w.heap.size) x v) (hg : Gr w w') : RdCm w' (· < w'.heap.size) x v :=
  (h.keep fun _ hp => hg.cell hp).mono fun _ hb => Nat.lt_of_lt_of_le hb hg.size
/-- The parts of a command in memory. -/
theorem RdCm.parts {w : World} {K : Nat → Prop} {x : Cm} {v : Value} (h : RdCm w K x v) : ∃ A1 k1 op nm fr to_ A2 n2 k2, v = .agg #[.int .i64 x.kind, .string x.a, .string x.b, .string x.c, .string x.d, .int .i64 x.n, .slice A1 x.data.length k1, .int .u64 x.salt, .int .u64 x.draw, .int .i64 op, .string nm, .int .i64 fr, .int .i64 to_, .slice A2 n2 k2] ∧
    RkB w K (.slice A1 x.data.length k1) x.data ∧ RdSc w K x.scope (.agg #[.int .i64 op, .string nm, .int .i64 fr, .int .i64 to_, .slice A2 n2 k2]) := by
  obtain ⟨vd, A, c, vs, op, nm, fr, to_, ks, e1, e2, h1, h2, h3, h4⟩ := h
  have h5 := h1
  obtain ⟨A2, c2, rfl, _⟩ := h1
  refine ⟨_, _, _, _, _, _, _, _, _, e2, h5, ?_⟩
  rw [e1, RdSc]
  exact ⟨A, c, vs, rfl, h2, h3, h4⟩
set_option maxRecDepth 100000 in
set_option maxHeartbeats 4000000 in
theorem csame_any (x : Cm) (v v' : Value) (w : World) (hd : x.data.length ≤ 1000) (hx : RdCm w (· < w.heap.size) x v) (hy : RdCm w (· < w.heap.size) x v') :
    Calls Tryd.prog 61 #[v, v'] w fun e w' => e = .returned (.bool true) ∧ Gr w w' := by
  obtain ⟨A1, k1, op, nm, fr, to_, A2, n2, k2, rfl, hd1, hs1⟩ := hx.parts
  obtain ⟨A3, k3, op', nm', fr', to_', A4, n4, k4, rfl, hd2, hs2⟩ := hy.parts
  clear hx hy
  have cS := fun W B hB h1 h2 => same_any W B (.slice A1 x.data.length k1) (.slice A3 x.data.length k3) x.data x.data hB h1 h2 (by omega)
  rw [decide_eq_true rfl] at cS
  have cT := fun W h1 h2 => ssame_n (SizeOf.sizeOf x.scope) x.scope x.scope (.agg #[.int .i64 op, .string nm, .int .i64 fr, .int .i64 to_, .slice A2 n2 k2]) (.agg #[.int .i64 op', .string nm', .int .i64 fr', .int .i64 to_', .slice A4 n4 k4]) W (Nat.le_refl _) h1 h2
  rw [scEq_refl] at cT
  have hrd1 := fun W (hg : Gr w W) => ((hd1.rd (B := w.heap.size) fun _ h => h).gr (Nat.le_refl _) hg).more hg.size
  have hrd2 := fun W (hg : Gr w W) => ((hd2.rd (B := w.heap.size) fun _ h => h).gr (Nat.le_refl _) hg).more hg.size
  obtain ⟨xk, xa, xb, xc, xd, xn, xl, xs, xw, xe⟩ := x
  dsimp only at *
  go_enter Tryd.func61, Tryd.ntmps61
  go_wp2_with (first
    | (go_at_call 13; (with_reducible refine (cS _ _ (Nat.le_refl _) (hrd1 _ (Gr.trans (Gr.alloc _ _) (Gr.alloc _ _))) (hrd2 _ (Gr.trans (Gr.alloc _ _) (Gr.alloc _ _)))).mono ?_); rintro e w2 ⟨rfl, hb2⟩
       have hG2 := Gr.trans (Gr.trans (Gr.alloc w _) (Gr.alloc _ _)) hb2
       have hB0 := ((Blk.new w _ _).alloc _).below hb2 ((Blk.new w _ _).alloc _).lt
       have hB1 := (Blk.new (w.alloc _) _ _).below hb2 (Blk.new (w.alloc _) _ _).lt
       rw [show (w.alloc (.cells (cmC xk xa xb xc xd xn (.slice A1 xl.length k1) xs xw op nm fr to_ (.slice A2 n2 k2)) 87)).heap.size = w.heap.size + 1 by simp] at hB1
       obtain ⟨e0, e1, e2, e3, e4, e5, e6, e7, e8, e9, e10, e11, e12, e13⟩ := cm_cells hB0
       obtain ⟨r0, r1, r2, r3, r4, r5, r6, r7, r8, r9, r10, r11, r12, r13⟩ := cm_cells hB1)
    | (go_at_call 78; (with_reducible refine (cT _ (hs1.gr hG2) (hs2.gr hG2)).mono ?_); rintro e w3 ⟨rfl, hb3⟩))
  go_ret
  exact ⟨rfl, Gr.trans hG2 hb3⟩
theorem RdCms.gr {w w' : World} {l : List Cm} {v : Value} (h : RdCms w (· < w.heap.size) v l) (hg : Gr w w') : RdCms w' (· < w'.heap.size) v l :=
  (h.keep fun _ hp => hg.cell hp).mono fun _ hb => Nat.lt_of_lt_of_le hb hg.size
/-- A command's cells in a slice. -/
theorem cmd_cells {w : World} {K : Nat → Prop} {A : Option Addr} {n : Nat} {cs : List Value} {l : List Cm} (hr : Rk w K 14 A n cs) (hl : CmsL w K l cs) (hn : n = l.length) (k : Nat) (x : Cm) (hx : l[k]? = some x) :
    ∃ ad P v0 v1 v2 v3 v4 v5 v6 v7 v8 v9 v10 v11 v12 v13, A = some ad ∧ ad.add (k * 14) = P ∧ K P.block ∧ w.cell? P = some v0 ∧ w.cell? ⟨P.block, P.off + 1, none⟩ = some v1 ∧ w.cell? ⟨P.block, P.off + 2, none⟩ = some v2 ∧ w.cell? ⟨P.block, P.off + 3, none⟩ = some v3 ∧ w.cell? ⟨P.block, P.off + 4, none⟩ = some v4 ∧ w.cell? ⟨P.block, P.off + 5, none⟩ = some v5 ∧ w.cell? ⟨P.block, P.off + 6, none⟩ = some v6 ∧ w.cell? ⟨P.block, P.off + 7, none⟩ = some v7 ∧ w.cell? ⟨P.block, P.off + 8, none⟩ = some v8 ∧ w.cell? ⟨P.block, P.off + 9, none⟩ = some v9 ∧ w.cell? ⟨P.block, P.off + 10, none⟩ = some v10 ∧ w.cell? ⟨P.block, P.off + 11, none⟩ = some v11 ∧ w.cell? ⟨P.block, P.off + 12, none⟩ = some v12 ∧ w.cell? ⟨P.block, P.off + 13, none⟩ = some v13 ∧ RdCm w K x (.agg #[v0, v1, v2, v3, v4, v5, v6, v7, v8, v9, v10, v11, v12, v13]) := by
  have hk : k < l.length := (List.getElem?_eq_some_iff.1 hx).1
  obtain ⟨ad, ea, hb, hc⟩ := hr.2 (by omega)
  obtain ⟨a, hs, hm, ha⟩ := CmsL.at_ l cs k x hl hx
  obtain ⟨a⟩ := a
  match a, hs with
  | [v0, v1, v2, v3, v4, v5, v6, v7, v8, v9, v10, v11, v12, v13], _ =>
    refine ⟨ad, ad.add (k * 14), v0, v1, v2, v3, v4, v5, v6, v7, v8, v9, v10, v11, v12, v13, ea, rfl, by rw [block_of_add]; exact hb, hc _ _ (ha 0 _ rfl), by rw [← add_field_ ad (k * 14) 1 (by omega)]; exact hc _ _ (ha 1 _ rfl), by rw [← add_field_ ad (k * 14) 2 (by omega)]; exact hc _ _ (ha 2 _ rfl), by rw [← add_field_ ad (k * 14) 3 (by omega)]; exact hc _ _ (ha 3 _ rfl), by rw [← add_field_ ad (k * 14) 4 (by omega)]; exact hc _ _ (ha 4 _ rfl), by rw [← add_field_ ad (k * 14) 5 (by omega)]; exact hc _ _ (ha 5 _ rfl), by rw [← add_field_ ad (k * 14) 6 (by omega)]; exact hc _ _ (ha 6 _ rfl), by rw [← add_field_ ad (k * 14) 7 (by omega)]; exact hc _ _ (ha 7 _ rfl), by rw [← add_field_ ad (k * 14) 8 (by omega)]; exact hc _ _ (ha 8 _ rfl), by rw [← add_field_ ad (k * 14) 9 (by omega)]; exact hc _ _ (ha 9 _ rfl), by rw [← add_field_ ad (k * 14) 10 (by omega)]; exact hc _ _ (ha 10 _ rfl), by rw [← add_field_ ad (k * 14) 11 (by omega)]; exact hc _ _ (ha 11 _ rfl), by rw [← add_field_ ad (k * 14) 12 (by omega)]; exact hc _ _ (ha 12 _ rfl), by rw [← add_field_ ad (k * 14) 13 (by omega)]; exact hc _ _ (ha 13 _ rfl), hm⟩

set_option maxRecDepth 100000 in
set_option maxHeartbeats 4000000 in
theorem lsame_any (l : List Cm) (v v' : Value) (w : World) (hd : ∀ x ∈ l, x.data.length ≤ 1000) (hl : l.length ≤ 1000) (hx : RdCms w (· < w.heap.size) v l) (hy : RdCms w (· < w.heap.size) v' l) :
    Calls Tryd.prog 26 #[v, v'] w fun e w' => e = .returned (.bool true) ∧ Gr w w' := by
  obtain ⟨A, c, cs, rfl, hc, hr, hm⟩ := hx
  obtain ⟨A', c', cs', rfl, hc', hr', hm'⟩ := hy
  go_enter Tryd.func26, Tryd.ntmps26
  go_wp2
  go_loopw [5] (fun v5 wr => ∃ k : Nat, v5 = .int .i64 k ∧ k ≤ l.length ∧ Gr w wr) (fun v5 _ => l.length - (intOf v5).toNat)
  case atStart => exact ⟨0, rfl, Nat.zero_le _, Gr.refl _⟩
  case round =>
    obtain ⟨k, rfl, hk, hg⟩ := hrel
    by_cases hlt : k < l.length
    · obtain ⟨x, hxk⟩ : ∃ x, l[k]? = some x := ⟨_, List.getElem?_eq_getElem hlt⟩
      have hdx := hd x (List.mem_of_getElem? hxk)
      obtain ⟨ad, P, v0, v1, v2, v3, v4, v5, v6, v7, v8, v9, v10, v11, v12, v13, rfl, eP, hP, c0, c1, c2, c3, c4, c5, c6, c7, c8, c9, c10, c11, c12, c13, hsx⟩ := cmd_cells (hr.gr hg) (CmsL.mono (fun _ hb => Nat.lt_of_lt_of_le hb hg.size) _ _ (CmsL.keep (fun _ hp => hg.cell hp) _ _ hm)) rfl k x hxk
      obtain ⟨ad', P', u0, u1, u2, u3, u4, u5, u6, u7, u8, u9, u10, u11, u12, u13, rfl, eP', hP', d0, d1, d2, d3, d4, d5, d6, d7, d8, d9, d10, d11, d12, d13, hsy⟩ := cmd_cells (hr'.gr hg) (CmsL.mono (fun _ hb => Nat.lt_of_lt_of_le hb hg.size) _ _ (CmsL.keep (fun _ hp => hg.cell hp) _ _ hm')) rfl k x hxk
      have k1 : ∀ d os, Calls Tryd.prog 61 #[.agg #[v0, v1, v2, v3, v4, v5, v6, v7, v8, v9, v10, v11, v12, v13], .agg #[u0, u1, u2, u3, u4, u5, u6, u7, u8, u9, u10, u11, u12, u13]] (grow (redrawn wr d) os) fun e w'' => e = .returned (.bool true) ∧ ∃ p : Regrown, w'' = grow (redrawn wr p.d) p.os := fun d os => Calls.regrown_of (csame_any x _ _ _ hdx (hsx.gr (below_regrown wr d os)) (hsy.gr (below_regrown wr d os)))
      clear hxk
      have qc0 := cell_regrown c0
      have qd0 := cell_regrown d0
      have qc1 := cell_regrown c1
      have qd1 := cell_regrown d1
      have qc2 := cell_regrown c2
      have qd2 := cell_regrown d2
      have qc3 := cell_regrown c3
      have qd3 := cell_regrown d3
      have qc4 := cell_regrown c4
      have qd4 := cell_regrown d4
      have qc5 := cell_regrown c5
      have qd5 := cell_regrown d5
      have qc6 := cell_regrown c6
      have qd6 := cell_regrown d6
      have qc7 := cell_regrown c7
      have qd7 := cell_regrown d7
      have qc8 := cell_regrown c8
      have qd8 := cell_regrown d8
      have qc9 := cell_regrown c9
      have qd9 := cell_regrown d9
      have qc10 := cell_regrown c10
      have qd10 := cell_regrown d10
      have qc11 := cell_regrown c11
      have qd11 := cell_regrown d11
      have qc12 := cell_regrown c12
      have qd12 := cell_regrown d12
      have qc13 := cell_regrown c13
      have qd13 := cell_regrown d13
      go_wp2
      refine wp_region_quiet_below (by kernel_rfl) (by kernel_rfl) ?_
      repeat (quiet_step (with_reducible exact k1 _ _))
      refine wpQuiet_nil ?_
      intro _ hw'
      obtain ⟨⟨dq, osq⟩, hw''⟩ := hw'
      subst hw''
      go_wp2
      go_roundw
      case rel => exact ⟨k + 1, by go_num, by omega, Gr.trans hg (below_regrown wr dq osq)⟩
      case measure => simp [intOf]; omega
    · obtain rfl : k = l.length := by omega
      go_wp2
      go_ret
      exact ⟨rfl, hg⟩
/-- No command has much data. -/
theorem gData_le (k s : Int) : (gData k s).length ≤ 1000 := by
  unfold gData
  split
  · split <;> decide
  · have := belowN_le 8 s (by omega)
    rw [gBytes_len]
    omega
theorem fieldP_data {salt : Int} {f : Nat} {x : Cm × Int} (h : x.1.data.length ≤ 1000) : (fieldP salt f x).1.data.length ≤ 1000 := by
  unfold fieldP
  repeat' split
  all_goals first | exact h | exact gData_le _ _
theorem fold_data (salt : Int) : ∀ (l : List Nat) (x : Cm × Int), x.1.data.length ≤ 1000 → (l.foldl (fun x f => fieldP salt f x) x).1.data.length ≤ 1000
  | [], _, h => h
  | _ :: l, _, h => fold_data salt l _ (fieldP_data h)
theorem scrL_data (seed : Int) : ∀ (k : Nat), ∀ x ∈ scrL seed k, x.data.length ≤ 1000
  | 0, x, h => by cases h
  | k + 1, x, h => by
    rw [scrL, List.mem_append] at h
    rcases h with h | h
    · exact scrL_data seed k x h
    · rw [List.mem_singleton] at h
      subst h
      exact fold_data _ _ _ (Nat.zero_le _)
end Go.Proofs.YteoidkjiigjlaaaDoor
