/- The law EventBack: its walk. -/
import Derived.Test.YteoidkjiigjlaaaDoorEvGetL
import Derived.Test.YteoidkjiigjlaaaDoorEvBackP
namespace Go.Proofs.YteoidkjiigjlaaaDoor
open Go Go.RowKit Go.Sort

theorem evB_yes {k t : Int} {a b : ByteArray} (h : mayD k t a b = true) : evB k t a b = evL k t a b := by rw [evB, if_pos h]
theorem evE_yes {k t : Int} {a b : ByteArray} (h : mayD k t a b = true) : evE k t a b = 0 := by rw [evE, if_pos h]
theorem evE_no {k t : Int} {a b : ByteArray} (h : mayD k t a b = false) : evE k t a b = 1 := by rw [evE, h]; rfl
theorem ba_list (s : ByteArray) : s.data.toList = s.toList := (ByteArray.toList_eq s).symm
theorem isE_true {s : ByteArray} (h : s.data.toList = []) : s.toList.isEmpty = true := by rw [ByteArray.toList_eq, h]; rfl
theorem isE_false {s : ByteArray} (h : s.data.toList ≠ []) : s.toList.isEmpty = false := by rw [ByteArray.toList_eq, Bool.eq_false_iff, ne_eq, List.isEmpty_iff]; exact h
/-- What the test of the texts comes to. -/
def TxT (k t : Int) (a b : ByteArray) (j u : Int) (c d : ByteArray) : Prop := (a.toList.isEmpty = true) ∨ (a.toList.isEmpty = false ∧ c.toList.isEmpty = true) ∨ (a.toList.isEmpty = false ∧ c.toList.isEmpty = false ∧ decide (evTextD k t a b = evTextD j u c d) = false ∧ ((evTextD k t a b).toList == (evTextD j u c d).toList) = false) ∨
  (a.toList.isEmpty = false ∧ c.toList.isEmpty = false ∧ k = j ∧ t = u ∧ a = c ∧ b = d)
theorem text_ways {k t j u : Int} {a b c d : ByteArray} (hm : mayD k t a b = true) : TxT k t a b j u c d := by
  unfold TxT
  by_cases ha : a.data.toList = []
  · exact .inl (isE_true ha)
  · by_cases hc : c.data.toList = []
    · exact .inr (.inl ⟨isE_false ha, isE_true hc⟩)
    · by_cases e : evTextD k t a b = evTextD j u c d
      · exact .inr (.inr (.inr ⟨isE_false ha, isE_false hc, text_inj hm ha hc e⟩))
      · exact .inr (.inr (.inl ⟨isE_false ha, isE_false hc, decide_eq_false e, by rw [beq_eq_false_iff_ne, ByteArray.toList_eq, ByteArray.toList_eq]; exact fun h => e (ba_ext h)⟩))

/-- What the second part of the law leans on: what the bytes are read as, and that these are its bytes. -/
def GetT (l : List UInt8) (k t : Int) (a b : ByteArray) (e : Int) : Prop := getD_ l = (⟨k, t, a, b⟩, e) ∧ (e = 2 ∨ e = 0 ∧ k ≤ 14 ∧ a.size ≤ 16 ∧ b.size ≤ 16 ∧ evB k t a b = l ∧ evE k t a b = 0)
theorem get_ways (l : List UInt8) : ∃ k t a b e, GetT l k t a b e := by
  rcases h : getD_ l with ⟨⟨k, t, a, b⟩, e⟩
  refine ⟨k, t, a, b, e, h, ?_⟩
  have h2 := getE_two l
  rw [h] at h2
  rcases h2 with h2 | h2
  · obtain rfl : e = 0 := h2
    obtain ⟨hm, hl⟩ := put_get h
    obtain ⟨_, k2, _, _, na, nb⟩ := may_true hm
    exact .inr ⟨rfl, k2, nm_size a na, nm_size b nb, by rw [evB_yes hm, hl], evE_yes hm⟩
  · exact .inl h2

set_option maxRecDepth 100000 in
set_option maxHeartbeats 4000000 in
theorem evback_some (k t : Int) (a b : ByteArray) (j u : Int) (c d : ByteArray) (A : Option Addr) (cp : Nat) (l : List UInt8) (w : World) (hP : Pow w) (hr : RdB w w.heap.size (.slice A l.length cp) l) (hk : k ≤ 9223372036854775807) (hj : j ≤ 9223372036854775807)
    (h : a.size ≤ 100 ∧ b.size ≤ 100 ∧ c.size ≤ 100 ∧ d.size ≤ 100 ∧ l.length ≤ 300) (hm : mayD k t a b = true) :
    Calls Tryd.prog 5 #[evV k t a b, evV j u c d, .slice A l.length cp] w fun e w' => e = .returned (.bool true) ∧ Gr w w' := by
  have HP := Lib.hid hP
  clear hP
  have hT := text_ways (j := j) (u := u) (c := c) (d := d) hm
  obtain ⟨k', t', a', b', E, hX, hE⟩ := get_ways l
  have cPut := fun W => put_any k t a b W hk (by omega) (by omega)
  have cGet := fun W B v hB hr => get_any W B v (evL k t a b) hB hr (Nat.le_trans (ev_len44 hm) (by omega))
  have cGet2 := fun W hr' => get_any W w.heap.size (.slice A l.length cp) l (Below.size hr') (hr.gr (Nat.le_refl _) hr') (by omega)
  rw [evB_yes hm, evE_yes hm] at cPut
  rw [get_put hm] at cGet
  rw [hX] at cGet2
  have hlen := ev_len44 hm
  have cText := fun W hP => evtext_any k t a b W hP hk (by omega) (by omega)
  have cText2 := fun W hP => evtext_any j u c d W hP hj (by omega) (by omega)
  generalize evL k t a b = L at cPut cGet hlen
  go_enter Tryd.func5, Tryd.ntmps5
  go_wp2_with (first
    | (go_at_call 11; (with_reducible refine (cPut _).mono ?_); rintro e w1 ⟨v1, rfl, ho1, hb1⟩
       have hB0 := ((Blk.new w _ _).alloc _).below hb1 ((Blk.new w _ _).alloc _).lt
       have hB1 := (Blk.new _ _ _).below hb1 (Blk.new _ _ _).lt
       rw [show (w.alloc (.cells (evC k t a b) 23)).heap.size = w.heap.size + 1 by simp] at hB1
       have hG1 := Gr.trans (Gr.trans (Gr.alloc w _) (Gr.alloc _ _)) hb1
       have hv1 := ho1.rd
       obtain ⟨A1, c1, rfl, _, _⟩ := ho1.rd)
    | (go_at_call 14; (with_reducible refine (num_any' 0 _).mono ?_); rintro e w2 ⟨rfl, rfl⟩)
    | (go_at_call 20; (with_reducible refine (cGet _ _ _ (Nat.le_refl _) hv1).mono ?_); rintro e w3 ⟨rfl, hb3⟩
       have hG3 := Gr.new (Gr.trans hG1 hb3) (.cells (evC k t a b) 23)
       obtain ⟨c00, c01, c02, c03⟩ := four_cells ((hB0.below hb3 hB0.lt).alloc (.cells (evC k t a b) 23))
       obtain ⟨c10, c11, c12, c13⟩ := four_cells ((hB1.below hb3 hB1.lt).alloc (.cells (evC k t a b) 23))
       obtain ⟨c20, c21, c22, c23⟩ := four_cells (Blk.new w3 23 (evC k t a b))))
  have q00 := cell_regrown c00
  have q01 := cell_regrown c01
  have q02 := cell_regrown c02
  have q03 := cell_regrown c03
  have q10 := cell_regrown c10
  have q11 := cell_regrown c11
  have q12 := cell_regrown c12
  have q13 := cell_regrown c13
  have q20 := cell_regrown c20
  have q21 := cell_regrown c21
  have q22 := cell_regrown c22
  have q23 := cell_regrown c23
  generalize w3.alloc (.cells (evC k t a b) 23) = W3 at *
  have k1 : ∀ d' os, Calls Tryd.prog 14 #[.int .i64 0] (grow (redrawn W3 d') os) fun e w'' => e = .returned (.int .i64 0) ∧ ∃ p : Regrown, w'' = grow (redrawn W3 p.d) p.os := fun d' os => (num_any' 0 _).mono fun _ _ h => ⟨h.1, ⟨d', os⟩, h.2.symm⟩
  have k2 : ∀ d' os, Calls Tryd.prog 16 #[evV k t a b] (grow (redrawn W3 d') os) fun e w'' => e = .returned (.string (evTextD k t a b)) ∧ ∃ p : Regrown, w'' = grow (redrawn W3 p.d) p.os := fun d' os => Calls.regrown_of (cText _ ((HP.out.below hG3).below (below_regrown W3 d' os)))
  have k3 : ∀ d' os, Calls Tryd.prog 16 #[evV j u c d] (grow (redrawn W3 d') os) fun e w'' => e = .returned (.string (evTextD j u c d)) ∧ ∃ p : Regrown, w'' = grow (redrawn W3 p.d) p.os := fun d' os => Calls.regrown_of (cText2 _ ((HP.out.below hG3).below (below_regrown W3 d' os)))
  have hlen' : ¬ (44 < (L.length : Int)) := by omega
  unfold TxT at hT
  rcases hT with hA | ⟨hA, hC⟩ | ⟨hA, hC, hN1, hN2⟩ | ⟨hA, hC, rfl, rfl, rfl, rfl⟩
  all_goals
    refine wp_region_quiet_below (by kernel_rfl) (by kernel_rfl) ?_
    repeat (first | quiet_step (with_reducible exact k1 _ _) | quiet_step (with_reducible exact k2 _ _) | quiet_step (with_reducible exact k3 _ _))
    refine wpQuiet_nil ?_
    intro _ hw'
    obtain ⟨⟨dq, osq⟩, hw''⟩ := hw'
    subst hw''
  all_goals
    have hG6 := Gr.trans hG3 (below_regrown W3 dq osq)
    clear q00 q01 q02 q03 q10 q11 q12 q13 q20 q21 q22 q23 k1 k2 k3
    generalize grow (redrawn W3 dq) osq = W6 at hG6 ⊢
    rcases hE with rfl | ⟨rfl, hk', sa', sb', hB', hE'⟩
    all_goals
      go_wp2_with (first
        | (go_at_call 20; (with_reducible refine (cGet2 _ hG6).mono ?_); rintro e w7 ⟨rfl, hb7⟩
           have hG7 := Gr.new (Gr.trans hG6 hb7) (.cells (evC k' t' a' b') 23)
           obtain ⟨f0, f1, f2, f3⟩ := four_cells (Blk.new w7 23 (evC k' t' a' b')))
        | (go_at_call 14; (with_reducible refine (num_any' 2 _).mono ?_); rintro e w8 ⟨rfl, rfl⟩)
        | (go_at_call 14; (with_reducible refine (num_any' 0 _).mono ?_); rintro e w8 ⟨rfl, rfl⟩)
        | (go_at_call 11; (with_reducible refine (put_any k' t' a' b' _ (by omega) (by omega) (by omega)).mono ?_); rw [hB', hE']; rintro e w9 ⟨v9, rfl, ho9, hb9⟩
           have hG9 := Gr.trans hG7 hb9
           have cS := same_any w9 w9.heap.size v9 (.slice A l.length cp) l l (Nat.le_refl _) ho9.rd ((hr.gr (Nat.le_refl _) hG9).more hG9.size) (by omega)
           rw [decide_eq_true rfl] at cS)
        | (go_at_call 13; (with_reducible refine cS.mono ?_); rintro e w10 ⟨rfl, hb10⟩
           have hG7 := Gr.trans hG9 hb10)
        | (go_at_call 10; (with_reducible refine (evlive_any _ (HP.out.below hG7)).mono ?_); rintro e w11 ⟨rfl, hb11⟩))
      go_ret
      exact ⟨rfl, Gr.trans hG7 hb11⟩

set_option maxRecDepth 100000 in
set_option maxHeartbeats 4000000 in
theorem evback_none (k t : Int) (a b : ByteArray) (j u : Int) (c d : ByteArray) (A : Option Addr) (cp : Nat) (l : List UInt8) (w : World) (hP : Pow w) (hr : RdB w w.heap.size (.slice A l.length cp) l) (hk : k ≤ 9223372036854775807) (_ : j ≤ 9223372036854775807)
    (h : a.size ≤ 100 ∧ b.size ≤ 100 ∧ c.size ≤ 100 ∧ d.size ≤ 100 ∧ l.length ≤ 300) (hm : mayD k t a b = false) :
    Calls Tryd.prog 5 #[evV k t a b, evV j u c d, .slice A l.length cp] w fun e w' => e = .returned (.bool true) ∧ Gr w w' := by
  have HP := Lib.hid hP
  clear hP
  obtain ⟨k', t', a', b', E, hX, hE⟩ := get_ways l
  have cPut := fun W => put_any k t a b W hk (by omega) (by omega)
  have cGet2 := fun W hr' => get_any W w.heap.size (.slice A l.length cp) l (Below.size hr') (hr.gr (Nat.le_refl _) hr') (by omega)
  rw [evE_no hm] at cPut
  rw [hX] at cGet2
  generalize evB k t a b = L at cPut
  rcases hE with rfl | ⟨rfl, hk', sa', sb', hB', hE'⟩
  all_goals
    go_enter Tryd.func5, Tryd.ntmps5
    go_wp2_with (first
      | (go_at_call 11; (with_reducible refine (cPut _).mono ?_); rintro e w1 ⟨v1, rfl, ho1, hb1⟩
         have hG6 := Gr.trans (Gr.trans (Gr.alloc w _) (Gr.alloc _ _)) hb1)
      | (go_at_call 14; (with_reducible refine (num_any' 1 _).mono ?_); rintro e w2 ⟨rfl, rfl⟩)
      | (go_at_call 20; (with_reducible refine (cGet2 _ hG6).mono ?_); rintro e w7 ⟨rfl, hb7⟩
         have hG7 := Gr.new (Gr.trans hG6 hb7) (.cells (evC k' t' a' b') 23)
         obtain ⟨f0, f1, f2, f3⟩ := four_cells (Blk.new w7 23 (evC k' t' a' b')))
      | (go_at_call 14; (with_reducible refine (num_any' 2 _).mono ?_); rintro e w8 ⟨rfl, rfl⟩)
      | (go_at_call 14; (with_reducible refine (num_any' 0 _).mono ?_); rintro e w8 ⟨rfl, rfl⟩)
      | (go_at_call 11; (with_reducible refine (put_any k' t' a' b' _ (by omega) (by omega) (by omega)).mono ?_); rw [hB', hE']; rintro e w9 ⟨v9, rfl, ho9, hb9⟩
         have hG9 := Gr.trans hG7 hb9
         have cS := same_any w9 w9.heap.size v9 (.slice A l.length cp) l l (Nat.le_refl _) ho9.rd ((hr.gr (Nat.le_refl _) hG9).more hG9.size) (by omega)
         rw [decide_eq_true rfl] at cS)
      | (go_at_call 13; (with_reducible refine cS.mono ?_); rintro e w10 ⟨rfl, hb10⟩
         have hG7 := Gr.trans hG9 hb10)
      | (go_at_call 10; (with_reducible refine (evlive_any _ (HP.out.below hG7)).mono ?_); rintro e w11 ⟨rfl, hb11⟩))
    go_ret
    exact ⟨rfl, Gr.trans hG7 hb11⟩

set_option maxRecDepth 100000 in
set_option maxHeartbeats 4000000 in
theorem law_evback (k t : Int) (a b : ByteArray) (j u : Int) (c d : ByteArray) (v : Value) (l : List UInt8) (w : World) (hP : Pow w) (hr : RdB w w.heap.size v l) (hk : k ≤ 9223372036854775807) (hj : j ≤ 9223372036854775807) (_ : a.size ≤ maxLen) (_ : b.size ≤ maxLen) (_ : c.size ≤ maxLen) (_ : d.size ≤ maxLen) :
    Calls Tryd.prog 5 #[evV k t a b, evV j u c d, v] w fun e w' => e = .returned (.bool true) ∧ Gr w w' := by
  have HP := Lib.hid hP
  clear hP
  have hR := hr
  obtain ⟨A, cp, rfl, hcp, _⟩ := hr
  rcases (by omega : 100 < a.size ∨ a.size ≤ 100 ∧ 100 < b.size ∨ a.size ≤ 100 ∧ b.size ≤ 100 ∧ 100 < c.size ∨ a.size ≤ 100 ∧ b.size ≤ 100 ∧ c.size ≤ 100 ∧ 100 < d.size ∨ a.size ≤ 100 ∧ b.size ≤ 100 ∧ c.size ≤ 100 ∧ d.size ≤ 100 ∧ 300 < l.length ∨ a.size ≤ 100 ∧ b.size ≤ 100 ∧ c.size ≤ 100 ∧ d.size ≤ 100 ∧ l.length ≤ 300) with h | h | h | h | h | h
  iterate 5
    · go_enter Tryd.func5, Tryd.ntmps5
      go_wp2_with (go_at_call 10; (with_reducible refine (evlive_any _ (HP.out.below (Gr.trans (Gr.alloc _ _) (Gr.alloc _ _)))).mono ?_); rintro e w1 ⟨rfl, hb1⟩)
      go_ret
      exact ⟨rfl, Gr.trans (Gr.trans (Gr.alloc _ _) (Gr.alloc _ _)) hb1⟩
  cases hm : mayD k t a b with
  | true => exact evback_some k t a b j u c d A cp l w HP.out hR hk hj h hm
  | false => exact evback_none k t a b j u c d A cp l w HP.out hR hk hj h hm
theorem row_evback (k t : Int) (a b : ByteArray) (j u : Int) (c d : ByteArray) (A : Option Addr) (n cp : Nat) (zs : List Int) (W : World) (hk : (Lit.int .i64 k).wf = true) (_ : (Lit.int .i64 t).wf = true) (ha : a.size ≤ maxLen) (hb : b.size ≤ maxLen) (hj : (Lit.int .i64 j).wf = true) (_ : (Lit.int .i64 u).wf = true) (hc : c.size ≤ maxLen) (hd : d.size ≤ maxLen)
    (h : (A = none ∧ n = 0 ∧ cp = 0 ∧ zs = []) ∨ ∃ x, A = some x ∧ n ≤ cp ∧ cp ≤ maxLen ∧ zs.length = cp ∧ (∀ i, i < zs.length → W.cell? (x.add i) = some (.int .u8 (zs.getD i 0))) ∧ ∀ z ∈ zs, (Lit.int .u8 z).wf = true)
    (hP : Pow W) : Calls Tryd.prog 5 #[evV k t a b, evV j u c d, .slice A n cp] W fun e w' => e = .returned (.bool true) ∧ Below W.heap.size W w' := by
  obtain ⟨l, _, hr⟩ := rd_of_row h
  exact law_evback k t a b j u c d _ l W hP hr ((Lit.wf_int_iff .i64 k).1 hk).2 ((Lit.wf_int_iff .i64 j).1 hj).2 ha hb hc hd
end Go.Proofs.YteoidkjiigjlaaaDoor
