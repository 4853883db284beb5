/- Rules as a text: plain laws, the program's Print. -/
import Derived.Test.YtogpmihepfnoaaaDoorRuV
import Derived.Test.YtogpmihepfnoaaaDoorRuB
import Derived.Test.YtogpmihepfnoaaaDoorFacts
namespace Go.Proofs.YtogpmihepfnoaaaDoor
open Go Go.RowKit Go.Sort

def clsL (c : ByteArray) : List UInt8 := if c.size = 0 then [100, 101, 102, 97, 117, 108, 116] else [99, 108, 97, 115, 115, 32, 34] ++ c.data.toList ++ [34]
/-- A rule as a text. -/
def ruleL (r : Ru) : List UInt8 := clsL r.cls ++ ([32, 107, 101, 101, 112, 32] ++ exprL r.wh ++ [32, 116, 104, 101, 110, 32] ++ actL r.act ++ [59, 10])
def printL (rs : List Ru) : List UInt8 := (rs.map ruleL).flatten
/-- Rules as a text, or the error. -/
def printD (rs : List Ru) : List UInt8 × Int := if checkD rs ≠ 0 then ([], checkD rs) else if 600 < (printL rs).length then ([], 3) else (printL rs, 0)
theorem printL_take {rs : List Ru} {k : Nat} {x : Ru} (h : rs[k]? = some x) : printL (rs.take (k + 1)) = printL (rs.take k) ++ ruleL x := by
  obtain ⟨hl, e⟩ := List.getElem?_eq_some_iff.1 h
  unfold printL
  rw [List.take_succ_eq_append_getElem hl, e, List.map_append, List.flatten_append]
  simp
theorem actL_len (n : Int) : (actL n).length ≤ 7 := by unfold actL; split <;> (try split) <;> decide
theorem okR_parts {r : Ru} (h : okR r = true) : r.cls.size ≤ 16 ∧ ∃ m, mayX r.wh 24 8 = some m := by
  unfold okR at h
  simp only [Bool.and_eq_true, Bool.or_eq_true, decide_eq_true_eq] at h
  obtain ⟨⟨_, hc⟩, hm⟩ := h
  refine ⟨?_, Option.isSome_iff_exists.1 hm⟩
  rcases hc with hc | hc
  · omega
  · unfold nameD at hc
    simp only [Bool.and_eq_true, decide_eq_true_eq] at hc
    omega
theorem ruleL_len {r : Ru} (h : okR r = true) : (ruleL r).length ≤ 61000 := by
  obtain ⟨hc, m, hm⟩ := okR_parts h
  have h1 := ex_bound hm (by omega)
  have h2 := actL_len r.act
  have h3 : (clsL r.cls).length ≤ 24 := by
    unfold clsL
    split
    · decide
    · simp only [List.length_append, List.length_cons, List.length_nil, Array.length_toList]
      have : r.cls.data.size = r.cls.size := rfl
      omega
  unfold ruleL
  simp only [List.length_append, List.length_cons, List.length_nil]
  omega
theorem printL_len {rs : List Ru} (h : ∀ r ∈ rs, okR r = true) : (printL rs).length ≤ 61000 * rs.length := by
  induction rs with
  | nil => exact Nat.le_refl _
  | cons a r ih =>
    have h1 := ruleL_len (h a (by simp))
    have h2 := ih (fun r hr => h r (by simp [hr]))
    have e : printL (a :: r) = ruleL a ++ printL r := rfl
    rw [e, List.length_append, List.length_cons]
    omega
theorem checkD_ok {rs : List Ru} (h : checkD rs = 0) : rs.length ≤ 12 ∧ ∀ r ∈ rs, okR r = true := by
  unfold checkD at h
  split at h
  · cases h
  · rename_i h12
    split at h
    · rename_i ha
      exact ⟨by omega, List.all_eq_true.1 ha⟩
    · cases h
theorem strCells_ba (l : List UInt8) : Lib.strCells (ba l) = Lib.byteCells l := rfl
theorem byteCells_app (a b : List UInt8) : Lib.byteCells a ++ Lib.byteCells b = Lib.byteCells (a ++ b) := by
  unfold Lib.byteCells
  rw [List.map_append]
theorem byteCells_len (l : List UInt8) : (Lib.byteCells l).length = l.length := by
  unfold Lib.byteCells
  rw [List.length_map]
/-- What stands behind a rule's class. -/
def tailL (r : Ru) : List UInt8 := [32, 107, 101, 101, 112, 32] ++ exprL r.wh ++ [32, 116, 104, 101, 110, 32] ++ actL r.act ++ [59, 10]
theorem tail_ba {E T : ByteArray} {r : Ru} (hE : ba (exprL r.wh) = E) (hT : ba (actL r.act) = T) : (⟨#[32, 107, 101, 101, 112, 32]⟩ : ByteArray) ++ E ++ ⟨#[32, 116, 104, 101, 110, 32]⟩ ++ T ++ ⟨#[59, 10]⟩ = ba (tailL r) := by
  rw [← hE, ← hT]
  show ba [32, 107, 101, 101, 112, 32] ++ _ ++ ba [32, 116, 104, 101, 110, 32] ++ _ ++ ba [59, 10] = _
  rw [ba_app, ba_app, ba_app, ba_app]
  rfl
theorem cls_ba {c : ByteArray} (h : c.size ≠ 0) : (⟨#[99, 108, 97, 115, 115, 32, 34]⟩ : ByteArray) ++ c ++ ⟨#[34]⟩ = ba (clsL c) := by
  unfold clsL
  rw [if_neg h]
  show ba [99, 108, 97, 115, 115, 32, 34] ++ ba c.data.toList ++ ba [34] = _
  rw [ba_app, ba_app]
theorem cls_ba0 : (⟨#[100, 101, 102, 97, 117, 108, 116]⟩ : ByteArray) = ba (clsL ⟨#[]⟩) := rfl
/-- A builder's bytes. -/
def fBld (B g : Nat) (l : List UInt8) : Fact := ⟨fun _ w => Lib.IsBuilder 74 5 B g (Lib.byteCells l) w, fun _ _ _ h hg => isb_gr h hg⟩
set_option maxRecDepth 100000 in
set_option maxHeartbeats 8000000 in
theorem pprint_any (rs : List Ru) (v : Value) (w : World) (hPw : Pow w) (h : RdRus w (· < w.heap.size) v rs) : Calls Tryd.prog 18 #[v] w fun e w' => e = .returned (.tuple #[.string (ba (printD rs).1), .int .i64 (printD rs).2]) ∧ Gr w w' := by
  obtain ⟨A, c, rfl, hc, hcm⟩ := h.form
  have cC := pcheck_any rs _ w h
  have HPW := Lib.hid hPw
  clear hPw
  by_cases h0 : checkD rs = 0
  · obtain ⟨h12, hok⟩ := checkD_ok h0
    have hlenP : ∀ k, (printL (rs.take k)).length ≤ 800000 := fun k => by
      have h1 := printL_len (rs := rs.take k) (fun r hr => hok r (List.mem_of_mem_take hr))
      rw [List.length_take] at h1
      omega
    have HOK := Lib.hid hok
    have HLP := Lib.hid hlenP
    have hpd : printD rs = if 600 < (printL rs).length then ([], 3) else (printL rs, 0) := by rw [printD, if_neg (fun h => h h0)]
    rw [h0] at cC
    rw [hpd]
    have htk : rs.take rs.length = rs := List.take_length
    have HTK := Lib.hid htk
    clear hok hlenP h0 hpd htk
    generalize hOut : (if 600 < (printL rs).length then (([], 3) : List UInt8 × Int) else (printL rs, 0)) = out
    have HOut := Lib.hid hOut
    clear hOut
    go_enter Tryd.func18, Tryd.ntmps18
    go_wp2_with (go_at_call 21; (with_reducible refine cC.mono ?_); rintro e w1 ⟨rfl, hb1⟩)
    go_loopw [15] (fun v15 wr => ∃ k : Nat, v15 = .int .i64 (k : Int) ∧ k ≤ rs.length ∧ Lib.IsBuilder 74 5 w1.heap.size w1.heap.size (Lib.byteCells (printL (rs.take k))) wr ∧ Gr w1 wr) (fun v15 _ => rs.length - (intOf v15).toNat)
    case atStart => exact ⟨0, rfl, Nat.zero_le _, isb_new w1 _ (Nat.le_refl _), Gr.alloc _ _⟩
    case round =>
      obtain ⟨k, rfl, hk, hI, hg1⟩ := hrel
      have hgw := Gr.trans hb1 hg1
      by_cases hlt : k < rs.length
      · obtain ⟨x, hxk⟩ : ∃ x, rs[k]? = some x := ⟨_, List.getElem?_eq_getElem hlt⟩
        have hokx := HOK.out x (List.mem_of_getElem? hxk)
        obtain ⟨hcs, m, hmx⟩ := okR_parts hokx
        have hEb := ex_bound hmx (by omega)
        have hAb := actL_len x.act
        have hPT := printL_take hxk
        have hPb := HLP.out k
        have hPb1 := HLP.out (k + 1)
        obtain ⟨ad, P, v0, v1, v2, v3, rfl, eP, hP, c0', c1', c2', c3', c4', c5', hs, hsx⟩ := h.at_ k _ hxk
        have c0 := (hgw.cell (p := P) hP).trans c0'
        have c1 := (hgw.cell (p := ⟨P.block, P.off + 1, none⟩) hP).trans c1'
        have c2 := (hgw.cell (p := ⟨P.block, P.off + 2, none⟩) hP).trans c2'
        have c3 := (hgw.cell (p := ⟨P.block, P.off + 3, none⟩) hP).trans c3'
        have c4 := (hgw.cell (p := ⟨P.block, P.off + 4, none⟩) hP).trans c4'
        have c5 := (hgw.cell (p := ⟨P.block, P.off + 5, none⟩) hP).trans c5'
        clear c0' c1' c2' c3' c4' c5'
        have hEE : (ba (exprL x.wh)).size ≤ 60000 := by rw [ba_size]; exact hEb
        have hAA : (ba (actL x.act)).size ≤ 7 := by rw [ba_size]; exact hAb
        have htl := fun E T (h1 : ba (exprL x.wh) = E) (h2 : ba (actL x.act) = T) => tail_ba (r := x) h1 h2
        have cE := fun W hg hP => pwritten_n _ x.wh _ W 24 8 m (Nat.le_refl _) (hsx.gr hg) hP (by omega) hmx
        have cA := fun W => pact_any x.act W
        have hcb := @cls_ba x.cls
        generalize hE : ba (exprL x.wh) = E at *
        generalize hT : ba (actL x.act) = T at *
        have htl2 := Lib.hid (htl E T rfl rfl)
        have hxr : ruleL x = clsL x.cls ++ tailL x := rfl
        rw [hxr] at hPT
        have hlx : (clsL x.cls).length ≤ 24 ∧ (tailL x).length ≤ 60021 := by
          constructor
          · unfold clsL
            split
            · decide
            · simp only [List.length_append, List.length_cons, List.length_nil, Array.length_toList]
              have : x.cls.data.size = x.cls.size := rfl
              omega
          · unfold tailL
            simp only [List.length_append, List.length_cons, List.length_nil]
            omega
        obtain ⟨cl, wx, ac⟩ := x
        dsimp only at *
        obtain ⟨op_, dy_, ml_, A_, n_, c_, rfl, rfl, rfl, rfl⟩ := hsx.four
        have hB := Blk.new wr 50 #[.string cl, .int .i64 op_, .int .i64 dy_, .string ml_, .slice A_ n_ c_, .int .i64 ac]
        have hG1 := Gr.alloc wr (.cells #[.string cl, .int .i64 op_, .int .i64 dy_, .string ml_, .slice A_ n_ c_, .int .i64 ac] 50)
        have hI1 := isb_gr hI hG1
        have HPT := Lib.hid hPT
        generalize hQ : tailL ⟨cl, wx, ac⟩ = Q at *
        generalize hR : clsL cl = R at *
        have hle1 := hg1.size
        have cW1 := fun (S : ByteArray) (hS : S = ba R) => wstr_any w1.heap.size w1.heap.size (Lib.byteCells (printL (rs.take k))) S (wr.alloc (.cells #[.string cl, .int .i64 op_, .int .i64 dy_, .string ml_, .slice A_ n_ c_, .int .i64 ac] 50)) hI1 (by rw [byteCells_len, hS, ba_size]; omega) (by simp; omega)
        have z1 : ¬ 9223372036854775807 < 7 + cl.size := by omega
        have z2 : ¬ 9223372036854775807 < 7 + cl.size + 1 := by omega
        have y1 : ¬ 9223372036854775807 < 6 + E.size := by omega
        have y2 : ¬ 9223372036854775807 < 6 + E.size + 6 := by omega
        have y3 : ¬ 9223372036854775807 < 6 + E.size + 6 + T.size := by omega
        have y4 : ¬ 9223372036854775807 < 6 + E.size + 6 + T.size + 2 := by omega
        clear hokx hPT hxk htl hmx hI
        by_cases hz : cl.size = 0
        · have hSd : (⟨#[100, 101, 102, 97, 117, 108, 116]⟩ : ByteArray) = ba R := by rw [← hR]; unfold clsL; rw [if_pos hz]; rfl
          obtain rfl := str_zero hz
          clear hcb hz hR hQ
          go_wp2_with (go_at_call 40; (with_reducible refine (cW1 _ rfl).mono ?_); rintro e w2 ⟨⟨vv, rfl⟩, hI2, hb2, hk2⟩)
          rw [strCells_ba, byteCells_app] at hI2
          have hB2 := hk2.blk hB (by decide) (by decide)
          have hle2 : w1.heap.size ≤ w2.heap.size := Nat.le_trans (by simp; omega) hb2.size
          have hgr2 : Gr w1 w2 := Below.trans (Gr.trans hg1 hG1) hb2
          refine wp_region_facts [.is (.pointer (some ⟨wr.heap.size, 1, none⟩)), .is (.agg #[.int .i64 op_, .int .i64 dy_, .string ml_, .slice A_ n_ c_]), .is (.string E), .is (.string (⟨#[32, 107, 101, 101, 112, 32]⟩ ++ E)), .is (.string (⟨#[32, 107, 101, 101, 112, 32]⟩ ++ E ++ ⟨#[32, 116, 104, 101, 110, 32]⟩)), .is (.pointer (some ⟨wr.heap.size, 5, none⟩)), .is (.int .i64 ac), .is (.string T), .is (.string (⟨#[32, 107, 101, 101, 112, 32]⟩ ++ E ++ ⟨#[32, 116, 104, 101, 110, 32]⟩ ++ T)), .is (.string (⟨#[32, 107, 101, 101, 112, 32]⟩ ++ E ++ ⟨#[32, 116, 104, 101, 110, 32]⟩ ++ T ++ ⟨#[59, 10]⟩)), fBld w1.heap.size w1.heap.size (printL (rs.take k) ++ (R ++ Q))]
            (fun W => Blk W wr.heap.size 50 #[.string ⟨#[]⟩, .int .i64 op_, .int .i64 dy_, .string ml_, .slice A_ n_ c_, .int .i64 ac] ∧ Lib.IsBuilder 74 5 w1.heap.size w1.heap.size (Lib.byteCells (printL (rs.take k) ++ R)) W) (fun i j => i == 10 && !(j == 10)) (fun i => i == 10) w1.heap.size (by kernel_rfl) rfl (by kernel_rfl) (by kernel_rfl) hle2 ⟨hB2.drew, isb_gr hI2 (Gr.drew _)⟩ (fun vals => by simp [fillA, dstsOf, go_sem]; rfl) ?_ ?_
          · intro i hi
            replace hi : i < 11 := hi
            have hI : ∀ W W', (Blk W wr.heap.size 50 #[.string ⟨#[]⟩, .int .i64 op_, .int .i64 dy_, .string ml_, .slice A_ n_ c_, .int .i64 ac] ∧ Lib.IsBuilder 74 5 w1.heap.size w1.heap.size (Lib.byteCells (printL (rs.take k) ++ R)) W) → Gr W W' → (Blk W' wr.heap.size 50 #[.string ⟨#[]⟩, .int .i64 op_, .int .i64 dy_, .string ml_, .slice A_ n_ c_, .int .i64 ac] ∧ Lib.IsBuilder 74 5 w1.heap.size w1.heap.size (Lib.byteCells (printL (rs.take k) ++ R)) W') := fun W W' h hg => ⟨h.1.below hg h.1.lt, isb_gr h.2 hg⟩
            rcases (by omega : i = 0 ∨ i = 1 ∨ i = 2 ∨ i = 3 ∨ i = 4 ∨ i = 5 ∨ i = 6 ∨ i = 7 ∨ i = 8 ∨ i = 9 ∨ i = 10) with rfl | rfl | rfl | rfl | rfl | rfl | rfl | rfl | rfl | rfl | rfl
            · refine step_g 0 [] _ _ rfl rfl hI (by kernel_rfl) fun vals W hb hB hIw hd => ?_
              go_wp2
              exact ⟨rfl, _, rfl, Gr.refl _, rfl⟩
            · refine step_g 1 [0] _ _ rfl rfl hI (by kernel_rfl) fun vals W hb hB hIw hd => ?_
              have e0 : vals 0 = _ := hd 0 (by simp) _ rfl
              rw [e0]
              obtain ⟨hIW, -⟩ := hIw (by kernel_rfl)
              obtain ⟨q0, q1, q2, q3, q4, q5⟩ := six_cells hIW
              go_wp2
              exact ⟨rfl, _, rfl, Gr.refl _, rfl⟩
            · refine step_g 2 [1] _ _ rfl rfl hI (by kernel_rfl) fun vals W hb hB hIw hd => ?_
              have e1 : vals 1 = _ := hd 1 (by simp) _ rfl
              rw [e1]
              have hGW : Gr w W := Gr.trans hb1 (Below.trans hgr2 hb)
              go_wp2_with (go_at_call 41; (with_reducible refine (cE W hGW (HPW.out.below hGW)).mono ?_); rintro e w3 ⟨rfl, hb3⟩)
              exact ⟨rfl, _, rfl, hb3, rfl⟩
            · refine step_g 3 [2] _ _ rfl rfl hI (by kernel_rfl) fun vals W hb hB hIw hd => ?_
              have e2 : vals 2 = _ := hd 2 (by simp) _ rfl
              rw [e2]
              go_wp2
              exact ⟨rfl, _, rfl, Gr.refl _, rfl⟩
            · refine step_g 4 [3] _ _ rfl rfl hI (by kernel_rfl) fun vals W hb hB hIw hd => ?_
              have e3 : vals 3 = _ := hd 3 (by simp) _ rfl
              rw [e3]
              go_wp2
              exact ⟨rfl, _, rfl, Gr.refl _, rfl⟩
            · refine step_g 5 [] _ _ rfl rfl hI (by kernel_rfl) fun vals W hb hB hIw hd => ?_
              go_wp2
              exact ⟨rfl, _, rfl, Gr.refl _, rfl⟩
            · refine step_g 6 [5] _ _ rfl rfl hI (by kernel_rfl) fun vals W hb hB hIw hd => ?_
              have e5 : vals 5 = _ := hd 5 (by simp) _ rfl
              rw [e5]
              obtain ⟨hIW, -⟩ := hIw (by kernel_rfl)
              obtain ⟨q0, q1, q2, q3, q4, q5⟩ := six_cells hIW
              go_wp2
              exact ⟨rfl, _, rfl, Gr.refl _, rfl⟩
            · refine step_g 7 [6] _ _ rfl rfl hI (by kernel_rfl) fun vals W hb hB hIw hd => ?_
              have e6 : vals 6 = _ := hd 6 (by simp) _ rfl
              rw [e6]
              go_wp2_with (go_at_call 42; (with_reducible refine (cA W).mono ?_); rintro e w3 ⟨rfl, rfl⟩)
              exact ⟨rfl, _, rfl, Gr.refl _, rfl⟩
            · refine step_g 8 [4, 7] _ _ rfl rfl hI (by kernel_rfl) fun vals W hb hB hIw hd => ?_
              have e4 : vals 4 = _ := hd 4 (by simp) _ rfl
              rw [e4]
              have e7 : vals 7 = _ := hd 7 (by simp) _ rfl
              rw [e7]
              go_wp2
              exact ⟨rfl, _, rfl, Gr.refl _, rfl⟩
            · refine step_g 9 [8] _ _ rfl rfl hI (by kernel_rfl) fun vals W hb hB hIw hd => ?_
              have e8 : vals 8 = _ := hd 8 (by simp) _ rfl
              rw [e8]
              go_wp2
              exact ⟨rfl, _, rfl, Gr.refl _, rfl⟩
            · refine step_s 10 [9] [] _ _ rfl rfl (by kernel_rfl) (by kernel_rfl) fun vals W hb hB hIw hd => ?_
              have e9 : vals 9 = _ := hd 9 (by simp) _ rfl
              rw [e9]
              obtain ⟨-, hIW⟩ := hIw (by kernel_rfl)
              have cS := wstr_any w1.heap.size w1.heap.size _ (⟨#[32, 107, 101, 101, 112, 32]⟩ ++ E ++ ⟨#[32, 116, 104, 101, 110, 32]⟩ ++ T ++ ⟨#[59, 10]⟩) W hIW (by rw [htl2.out, byteCells_len, ba_size, List.length_append]; omega) hB
              rw [htl2.out, strCells_ba, byteCells_app, List.append_assoc] at cS
              rw [htl2.out]
              go_wp2_with (go_at_call 40; (with_reducible refine cS.mono ?_); rintro e w3 ⟨⟨vv, rfl⟩, hi3, hb3, -⟩)
              exact ⟨rfl, _, rfl, hb3, hi3, fun h _ => absurd (show true = false from h) (by decide), fun j hj => by cases hj⟩
          · intro vals W hb hf
            have h10 : Lib.IsBuilder 74 5 w1.heap.size w1.heap.size (Lib.byteCells (printL (rs.take k) ++ (R ++ Q))) W := hf 10 _ rfl (fun k hk => by simp)
            go_wp2
            go_roundw
            case rel => exact ⟨k + 1, by go_num, by omega, by rw [HPT.out]; exact h10, Below.trans hgr2 hb⟩
            case measure => simp [intOf]; omega
        · have hSc := hcb hz
          obtain ⟨s1, s2, s3⟩ := str_nil hz
          clear hcb hz hR hQ
          go_wp2_with (go_at_call 40; (with_reducible refine (cW1 _ rfl).mono ?_); rintro e w2 ⟨⟨vv, rfl⟩, hI2, hb2, hk2⟩)
          rw [strCells_ba, byteCells_app] at hI2
          have hB2 := hk2.blk hB (by decide) (by decide)
          have hle2 : w1.heap.size ≤ w2.heap.size := Nat.le_trans (by simp; omega) hb2.size
          have hgr2 : Gr w1 w2 := Below.trans (Gr.trans hg1 hG1) hb2
          refine wp_region_facts [.is (.pointer (some ⟨wr.heap.size, 1, none⟩)), .is (.agg #[.int .i64 op_, .int .i64 dy_, .string ml_, .slice A_ n_ c_]), .is (.string E), .is (.string (⟨#[32, 107, 101, 101, 112, 32]⟩ ++ E)), .is (.string (⟨#[32, 107, 101, 101, 112, 32]⟩ ++ E ++ ⟨#[32, 116, 104, 101, 110, 32]⟩)), .is (.pointer (some ⟨wr.heap.size, 5, none⟩)), .is (.int .i64 ac), .is (.string T), .is (.string (⟨#[32, 107, 101, 101, 112, 32]⟩ ++ E ++ ⟨#[32, 116, 104, 101, 110, 32]⟩ ++ T)), .is (.string (⟨#[32, 107, 101, 101, 112, 32]⟩ ++ E ++ ⟨#[32, 116, 104, 101, 110, 32]⟩ ++ T ++ ⟨#[59, 10]⟩)), fBld w1.heap.size w1.heap.size (printL (rs.take k) ++ (R ++ Q))]
            (fun W => Blk W wr.heap.size 50 #[.string cl, .int .i64 op_, .int .i64 dy_, .string ml_, .slice A_ n_ c_, .int .i64 ac] ∧ Lib.IsBuilder 74 5 w1.heap.size w1.heap.size (Lib.byteCells (printL (rs.take k) ++ R)) W) (fun i j => i == 10 && !(j == 10)) (fun i => i == 10) w1.heap.size (by kernel_rfl) rfl (by kernel_rfl) (by kernel_rfl) hle2 ⟨hB2.drew, isb_gr hI2 (Gr.drew _)⟩ (fun vals => by simp [fillA, dstsOf, go_sem]; rfl) ?_ ?_
          · intro i hi
            replace hi : i < 11 := hi
            have hI : ∀ W W', (Blk W wr.heap.size 50 #[.string cl, .int .i64 op_, .int .i64 dy_, .string ml_, .slice A_ n_ c_, .int .i64 ac] ∧ Lib.IsBuilder 74 5 w1.heap.size w1.heap.size (Lib.byteCells (printL (rs.take k) ++ R)) W) → Gr W W' → (Blk W' wr.heap.size 50 #[.string cl, .int .i64 op_, .int .i64 dy_, .string ml_, .slice A_ n_ c_, .int .i64 ac] ∧ Lib.IsBuilder 74 5 w1.heap.size w1.heap.size (Lib.byteCells (printL (rs.take k) ++ R)) W') := fun W W' h hg => ⟨h.1.below hg h.1.lt, isb_gr h.2 hg⟩
            rcases (by omega : i = 0 ∨ i = 1 ∨ i = 2 ∨ i = 3 ∨ i = 4 ∨ i = 5 ∨ i = 6 ∨ i = 7 ∨ i = 8 ∨ i = 9 ∨ i = 10) with rfl | rfl | rfl | rfl | rfl | rfl | rfl | rfl | rfl | rfl | rfl
            · refine step_g 0 [] _ _ rfl rfl hI (by kernel_rfl) fun vals W hb hB hIw hd => ?_
              go_wp2
              exact ⟨rfl, _, rfl, Gr.refl _, rfl⟩
            · refine step_g 1 [0] _ _ rfl rfl hI (by kernel_rfl) fun vals W hb hB hIw hd => ?_
              have e0 : vals 0 = _ := hd 0 (by simp) _ rfl
              rw [e0]
              obtain ⟨hIW, -⟩ := hIw (by kernel_rfl)
              obtain ⟨q0, q1, q2, q3, q4, q5⟩ := six_cells hIW
              go_wp2
              exact ⟨rfl, _, rfl, Gr.refl _, rfl⟩
            · refine step_g 2 [1] _ _ rfl rfl hI (by kernel_rfl) fun vals W hb hB hIw hd => ?_
              have e1 : vals 1 = _ := hd 1 (by simp) _ rfl
              rw [e1]
              have hGW : Gr w W := Gr.trans hb1 (Below.trans hgr2 hb)
              go_wp2_with (go_at_call 41; (with_reducible refine (cE W hGW (HPW.out.below hGW)).mono ?_); rintro e w3 ⟨rfl, hb3⟩)
              exact ⟨rfl, _, rfl, hb3, rfl⟩
            · refine step_g 3 [2] _ _ rfl rfl hI (by kernel_rfl) fun vals W hb hB hIw hd => ?_
              have e2 : vals 2 = _ := hd 2 (by simp) _ rfl
              rw [e2]
              go_wp2
              exact ⟨rfl, _, rfl, Gr.refl _, rfl⟩
            · refine step_g 4 [3] _ _ rfl rfl hI (by kernel_rfl) fun vals W hb hB hIw hd => ?_
              have e3 : vals 3 = _ := hd 3 (by simp) _ rfl
              rw [e3]
              go_wp2
              exact ⟨rfl, _, rfl, Gr.refl _, rfl⟩
            · refine step_g 5 [] _ _ rfl rfl hI (by kernel_rfl) fun vals W hb hB hIw hd => ?_
              go_wp2
              exact ⟨rfl, _, rfl, Gr.refl _, rfl⟩
            · refine step_g 6 [5] _ _ rfl rfl hI (by kernel_rfl) fun vals W hb hB hIw hd => ?_
              have e5 : vals 5 = _ := hd 5 (by simp) _ rfl
              rw [e5]
              obtain ⟨hIW, -⟩ := hIw (by kernel_rfl)
              obtain ⟨q0, q1, q2, q3, q4, q5⟩ := six_cells hIW
              go_wp2
              exact ⟨rfl, _, rfl, Gr.refl _, rfl⟩
            · refine step_g 7 [6] _ _ rfl rfl hI (by kernel_rfl) fun vals W hb hB hIw hd => ?_
              have e6 : vals 6 = _ := hd 6 (by simp) _ rfl
              rw [e6]
              go_wp2_with (go_at_call 42; (with_reducible refine (cA W).mono ?_); rintro e w3 ⟨rfl, rfl⟩)
              exact ⟨rfl, _, rfl, Gr.refl _, rfl⟩
            · refine step_g 8 [4, 7] _ _ rfl rfl hI (by kernel_rfl) fun vals W hb hB hIw hd => ?_
              have e4 : vals 4 = _ := hd 4 (by simp) _ rfl
              rw [e4]
              have e7 : vals 7 = _ := hd 7 (by simp) _ rfl
              rw [e7]
              go_wp2
              exact ⟨rfl, _, rfl, Gr.refl _, rfl⟩
            · refine step_g 9 [8] _ _ rfl rfl hI (by kernel_rfl) fun vals W hb hB hIw hd => ?_
              have e8 : vals 8 = _ := hd 8 (by simp) _ rfl
              rw [e8]
              go_wp2
              exact ⟨rfl, _, rfl, Gr.refl _, rfl⟩
            · refine step_s 10 [9] [] _ _ rfl rfl (by kernel_rfl) (by kernel_rfl) fun vals W hb hB hIw hd => ?_
              have e9 : vals 9 = _ := hd 9 (by simp) _ rfl
              rw [e9]
              obtain ⟨-, hIW⟩ := hIw (by kernel_rfl)
              have cS := wstr_any w1.heap.size w1.heap.size _ (⟨#[32, 107, 101, 101, 112, 32]⟩ ++ E ++ ⟨#[32, 116, 104, 101, 110, 32]⟩ ++ T ++ ⟨#[59, 10]⟩) W hIW (by rw [htl2.out, byteCells_len, ba_size, List.length_append]; omega) hB
              rw [htl2.out, strCells_ba, byteCells_app, List.append_assoc] at cS
              rw [htl2.out]
              go_wp2_with (go_at_call 40; (with_reducible refine cS.mono ?_); rintro e w3 ⟨⟨vv, rfl⟩, hi3, hb3, -⟩)
              exact ⟨rfl, _, rfl, hb3, hi3, fun h _ => absurd (show true = false from h) (by decide), fun j hj => by cases hj⟩
          · intro vals W hb hf
            have h10 : Lib.IsBuilder 74 5 w1.heap.size w1.heap.size (Lib.byteCells (printL (rs.take k) ++ (R ++ Q))) W := hf 10 _ rfl (fun k hk => by simp)
            go_wp2
            go_roundw
            case rel => exact ⟨k + 1, by go_num, by omega, by rw [HPT.out]; exact h10, Below.trans hgr2 hb⟩
            case measure => simp [intOf]; omega
      · obtain rfl : k = rs.length := by omega
        rw [HTK.out] at hI
        have hl := HLP.out rs.length
        rw [HTK.out] at hl
        have cL := fun W (hW : Lib.IsBuilder 74 5 w1.heap.size w1.heap.size (Lib.byteCells (printL rs)) W) => Tryd.Builder_Len w1.heap.size w1.heap.size _ W hW
        have cS := Tryd.Builder_String_any w1.heap.size w1.heap.size (printL rs) wr hI hg1.size
        have cL1 := cL wr hI
        rw [byteCells_len] at cL1
        have hout := HOut.out
        clear cL
        by_cases h600 : 600 < (printL rs).length
        · rw [if_pos h600] at hout
          have HO := Lib.hid hout
          have h6 : (600 : Int) < ((printL rs).length : Int) := by omega
          clear hout cS
          generalize (printL rs).length = n at *
          go_wp2_with (go_at_call 43; (with_reducible refine cL1.mono ?_); rintro e w3 ⟨rfl, rfl⟩)
          all_goals (try (exfalso; omega))
          exact bodyPost_ret (v := .tuple #[.string ⟨#[]⟩, .int .i64 3]) (by simp [results, Tryd.results18, go_sem]) rfl ⟨by rw [← HO.out]; rfl, hgw⟩
        · rw [if_neg h600] at hout
          have HO := Lib.hid hout
          have h6 : ((printL rs).length : Int) ≤ 600 := by omega
          have hST : (⟨(printL rs).toArray⟩ : ByteArray) = ba (printL rs) := rfl
          rw [hST] at cS
          clear hout hST
          generalize hn : (printL rs).length = n at *
          generalize hS : ba (printL rs) = S at *
          have HS := Lib.hid hS
          clear hS hn
          go_wp2_with (first
            | (go_at_call 43; (with_reducible refine cL1.mono ?_); rintro e w3 ⟨rfl, rfl⟩)
            | (go_at_call 44; (with_reducible refine cS.mono ?_); rintro e w3 ⟨rfl, hb3⟩))
          all_goals (try (exfalso; omega))
          exact bodyPost_ret (v := .tuple #[.string S, .int .i64 0]) (by simp [results, Tryd.results18, go_sem]) rfl ⟨by rw [← HO.out, ← HS.out], Gr.trans hb1 (Below.trans hg1 hb3)⟩
  · have hpd : printD rs = ([], checkD rs) := by rw [printD, if_pos h0]
    rw [hpd]
    generalize checkD rs = q at *
    have e1 : (q == 0) = false := by simp [h0]
    have e2 : (q != 0) = true := by simp [h0]
    have e3 : decide (q = 0) = false := by simp [h0]
    clear h0 hpd
    go_enter Tryd.func18, Tryd.ntmps18
    go_wp2_with (go_at_call 21; (with_reducible refine cC.mono ?_); rintro e w1 ⟨rfl, hb1⟩)
    exact bodyPost_ret (v := .tuple #[.string ⟨#[]⟩, .int .i64 q]) (by simp [results, Tryd.results18, go_sem]) rfl ⟨rfl, hb1⟩
end Go.Proofs.YtogpmihepfnoaaaDoor
