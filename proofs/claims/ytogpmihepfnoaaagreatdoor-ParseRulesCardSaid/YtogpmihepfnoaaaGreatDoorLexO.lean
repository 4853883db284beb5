/- A schedule's words: one token. -/
import Derived.Test.YtogpmihepfnoaaaGreatDoorLexR
import Derived.Test.YtogpmihepfnoaaaGreatDoorEvName
import Derived.Test.YtogpmihepfnoaaaGreatDoorShelf3
import Derived.Test.YtogpmihepfnoaaaGreatDoorBytes
namespace Go.Proofs.YtogpmihepfnoaaaGreatDoor
open Go Go.RowKit

theorem ba_list_ (l : List UInt8) : (ba l).data.toList = l := rfl
theorem ba_size (l : List UInt8) : (ba l).size = l.length := by
  show l.toArray.size = _
  simp
theorem ba_of (s : ByteArray) : ba s.data.toList = s := rfl
theorem ba_ext_ (l : List UInt8) (a b : Nat) : (ba l).extract a b = ba ((l.take b).drop a) := by
  rw [← ba_of ((ba l).extract a b)]
  congr 1
  rw [ByteArray.data_extract, Array.toList_extract]
  simp [ba, List.extract_eq_take_drop, List.drop_take]
theorem index_run : ∀ l : List UInt8, Lib.indexByte l 34 = if runL qtB l < l.length then (runL qtB l : Int) else -1
  | [] => rfl
  | c :: r => by
    have ih := index_run r
    rw [Lib.indexByte]
    by_cases h : c = 34
    · subst h
      rw [runL_cons_no (by rfl), if_pos (by rfl), if_pos (by simp)]
      try rfl
    · have hq : qtB c = true := by unfold qtB; rw [bne_iff_ne]; exact h
      rw [runL_cons_yes hq, if_neg (by simpa using h), ih]
      by_cases hl : runL qtB r < r.length
      · rw [if_pos hl, if_neg (by simp only [beq_iff_eq]; omega), if_pos (by rw [List.length_cons]; omega)]
        try omega
      · rw [if_neg hl, if_pos (by rfl), if_neg (fun h => hl (by simpa using h))]
theorem index_any (s : ByteArray) (w : World) : Calls Tryz.prog 75 #[.string s, .int .u8 34] w fun e w' => e = .returned (.int .i64 (if runL qtB s.data.toList < s.data.toList.length then (runL qtB s.data.toList : Int) else -1)) ∧ w = w' :=
  (Tryz.strings_IndexByte s 34 w).mono fun _ _ ⟨h1, h2⟩ => ⟨by rw [h1, ← index_run]; rfl, h2.symm⟩
abbrev tkC (k : Int) (t : ByteArray) (n a : Int) : Array Value := #[.int .i64 k, .string t, .int .i64 n, .int .i64 a]
theorem tk_cells {W : World} {g : Nat} {T : TypeId} {x0 x1 x2 x3 : Value} (h : Blk W g T #[x0, x1, x2, x3]) : W.cell? ⟨g, 0, none⟩ = some x0 ∧ W.cell? ⟨g, 1, none⟩ = some x1 ∧ W.cell? ⟨g, 2, none⟩ = some x2 ∧ W.cell? ⟨g, 3, none⟩ = some x3 ∧
    W.frozen? ⟨g, 0, none⟩ = false ∧ W.frozen? ⟨g, 1, none⟩ = false ∧ W.frozen? ⟨g, 2, none⟩ = false ∧ W.frozen? ⟨g, 3, none⟩ = false :=
  ⟨h.cell 0, h.cell 1, h.cell 2, h.cell 3, h.frozen 0, h.frozen 1, h.frozen 2, h.frozen 3⟩
abbrev set4w (w : World) (g : Nat) (y0 y1 y2 y3 : Value) : World := (((w.setCell ⟨g, 0, none⟩ y0).setCell ⟨g, 1, none⟩ y1).setCell ⟨g, 2, none⟩ y2).setCell ⟨g, 3, none⟩ y3
theorem Blk.tk4 {w : World} {g : Nat} {T : TypeId} {x0 x1 x2 x3 y0 y1 y2 y3 : Value} (h : Blk w g T #[x0, x1, x2, x3]) : Blk (set4w w g y0 y1 y2 y3) g T #[y0, y1, y2, y3] := by
  simpa using (((h.set_ 0 y0).set_ 1 y1).set_ 2 y2).set_ 3 y3
theorem gr_tk4 {a w : World} {g : Nat} {y0 y1 y2 y3 : Value} (h : Gr a w) (hg : a.heap.size ≤ g) : Gr a (set4w w g y0 y1 y2 y3) :=
  Below.setCell (Below.setCell (Below.setCell (Below.setCell h hg _) hg _) hg _) hg _
set_option maxRecDepth 100000 in
theorem quoted_any (r : List UInt8) (w : World) (hl : r.length ≤ 10000) : Calls Tryz.prog 52 #[.string (ba (34 :: r))] w fun e w' =>
    e = .returned (.tuple #[.agg (tkC (lexOne (34 :: r)).1.kind (lexOne (34 :: r)).1.text (lexOne (34 :: r)).1.n 0), .int .i64 (lexOne (34 :: r)).2.1, .int .i64 (lexOne (34 :: r)).2.2]) ∧ Gr w w' := by
  rw [lexOne_quote rfl]
  have hle := runL_le qtB r
  have cI := index_any (ba r) (w.alloc (.cells (tkC 0 ⟨#[]⟩ 0 0) 73))
  rw [ba_list_] at cI
  have hsz : (ba (34 :: r)).size = r.length + 1 := by rw [ba_size, List.length_cons]
  have hx1 : (ba (34 :: r)).extract 1 (r.length + 1) = ba r := by
    rw [ba_ext_]; congr 1; simp
  have hx2 : ∀ k, (ba (34 :: r)).extract 1 (1 + k) = ba (r.take k) := by
    intro k
    rw [ba_ext_, Nat.add_comm]; congr 1
  have cN := fun W => name_any (ba (r.take (runL qtB r))) W (by rw [ba_size]; simp; omega)
  by_cases h1 : runL qtB r < r.length
  · rw [if_pos h1] at cI
    generalize runL qtB r = k at *
    generalize nameD (ba (r.take k)) = b at *
    cases b
    · rw [if_neg (by simp)]
      go_enter Tryz.func52, Tryz.ntmps52
      go_wp2_with (first
        | (go_at_call 75; (with_reducible refine cI.mono ?_); rintro e w1 ⟨rfl, rfl⟩)
        | (go_at_call 40; (with_reducible refine (cN _).mono ?_); rintro e w2 ⟨rfl, hb2⟩
           have hB := (Blk.new w 73 (tkC 0 ⟨#[]⟩ 0 0)).below hb2 (Blk.new w _ _).lt
           obtain ⟨c0, c1, c2, c3, f0, f1, f2, f3⟩ := tk_cells hB))
      obtain ⟨z0, z1, z2, z3, -⟩ := tk_cells (hB.tk4 (y0 := .int .i64 0) (y1 := .string ⟨#[]⟩) (y2 := .int .i64 0) (y3 := .int .i64 0))
      exact bodyPost_ret (v := .tuple #[.agg (tkC 0 ⟨#[]⟩ 0 0), .int .i64 0, .int .i64 2]) (by simp [results, Tryz.results52, go_sem, z0, z1, z2, z3]) rfl ⟨rfl, gr_tk4 (Gr.trans (Gr.alloc _ _) hb2) (Nat.le_refl _)⟩
    · rw [if_pos ⟨h1, rfl⟩]
      have hbig : (k : Int) ≤ 10000 := by omega
      go_enter Tryz.func52, Tryz.ntmps52
      go_wp2_with (first
        | (go_at_call 75; (with_reducible refine cI.mono ?_); rintro e w1 ⟨rfl, rfl⟩)
        | (go_at_call 40; (with_reducible refine (cN _).mono ?_); rintro e w2 ⟨rfl, hb2⟩
           have hB := (Blk.new w 73 (tkC 0 ⟨#[]⟩ 0 0)).below hb2 (Blk.new w _ _).lt
           obtain ⟨c0, c1, c2, c3, f0, f1, f2, f3⟩ := tk_cells hB))
      obtain ⟨z0, z1, z2, z3, -⟩ := tk_cells (hB.tk4 (y0 := .int .i64 2) (y1 := .string (ba (r.take k))) (y2 := .int .i64 0) (y3 := .int .i64 0))
      exact bodyPost_ret (v := .tuple #[.agg (tkC 2 (ba (r.take k)) 0 0), .int .i64 ((k : Int) + 2), .int .i64 0]) (by simp [results, Tryz.results52, go_sem, z0, z1, z2, z3]) rfl ⟨by simp, gr_tk4 (Gr.trans (Gr.alloc _ _) hb2) (Nat.le_refl _)⟩
  · rw [if_neg h1] at cI
    rw [if_neg (fun h => h1 h.1)]
    have hB := Blk.new w 73 (tkC 0 ⟨#[]⟩ 0 0)
    go_enter Tryz.func52, Tryz.ntmps52
    go_wp2_with (go_at_call 75; (with_reducible refine cI.mono ?_); rintro e w1 ⟨rfl, rfl⟩)
    obtain ⟨z0, z1, z2, z3, -⟩ := tk_cells hB
    exact bodyPost_ret (v := .tuple #[.agg (tkC 0 ⟨#[]⟩ 0 0), .int .i64 0, .int .i64 2]) (by simp [results, Tryz.results52, go_sem]) rfl ⟨rfl, Gr.alloc _ _⟩
theorem ba_get (l : List UInt8) (k : Nat) (h : k < (ba l).size) : (ba l)[k]'h = l.getD k 0 := by
  rw [List.getD_eq_getElem?_getD, List.getElem?_eq_getElem (by rw [← ba_size]; exact h)]
  rfl
theorem Errs.gr {w w' : World} (h : Errs w) (hb : Below w.heap.size w w') : Errs w' := by
  have one : ∀ {name : String} {v : Array Value}, w.var? Tryz.prog name = some v → w'.var? Tryz.prog name = some v := by
    intro name v h
    unfold World.var? at *
    cases hg : Tryz.prog.globalNamed name with
    | none => simp [hg] at h
    | some g =>
      simp only [hg, Option.bind_some] at h ⊢
      have hlt : g < w.heap.size := by
        rcases Nat.lt_or_ge g w.heap.size with h' | h'
        · exact h'
        · rw [Array.getElem?_eq_none h'] at h; simp at h
      rw [hb.block g hlt]
      exact h
  obtain ⟨⟨a, b, h1⟩, ⟨c, d, h2⟩⟩ := h
  exact ⟨⟨a, b, one h1⟩, ⟨c, d, one h2⟩⟩
set_option maxRecDepth 100000 in
set_option maxHeartbeats 1000000 in
theorem spanned_any (c : UInt8) (r : List UInt8) (w : World) (hP : Pow w) (hE : Errs w) (hd : digB c = true) (hl : r.length ≤ 10000) : Calls Tryz.prog 54 #[.string (ba (c :: r))] w fun e w' =>
    e = .returned (.tuple #[.agg (tkC (lexOne (c :: r)).1.kind (lexOne (c :: r)).1.text (lexOne (c :: r)).1.n 0), .int .i64 (lexOne (c :: r)).2.1, .int .i64 (lexOne (c :: r)).2.2]) ∧ Gr w w' := by
  have HP := Lib.hid hP
  have HE := Lib.hid hE
  clear hP hE
  rw [lexOne_dig hd]
  have hle := runL_le digB (c :: r)
  have cR := run_dig (ba (c :: r)) (w.alloc (.cells (tkC 0 ⟨#[]⟩ 0 0) 73)) (by rw [ba_size, List.length_cons]; omega)
  rw [ba_list_] at cR
  have hsz : (ba (c :: r)).size = r.length + 1 := by rw [ba_size, List.length_cons]
  have hB := Blk.new w 73 (tkC 0 ⟨#[]⟩ 0 0)
  rw [List.length_cons] at hle ⊢
  by_cases h1 : runL digB (c :: r) < r.length + 1
  · have hgt := ba_get (c :: r) (runL digB (c :: r)) (by rw [hsz]; exact h1)
    have hx1 : (ba (c :: r)).extract 0 (runL digB (c :: r) + 1) = ba ((c :: r).take (runL digB (c :: r) + 1)) := by rw [ba_ext_]; rfl
    have cS := small_any ((c :: r).getD (runL digB (c :: r)) 0) (w.alloc (.cells (tkC 0 ⟨#[]⟩ 0 0) 73))
    have cP := parse_any (ba ((c :: r).take (runL digB (c :: r) + 1))) (w.alloc (.cells (tkC 0 ⟨#[]⟩ 0 0) 73)) (by rw [ba_size, List.length_take, List.length_cons]; omega) (HP.out.below (Gr.alloc _ _)) (HE.out.gr (Gr.alloc _ _))
    have h1' : ¬ (r.length : Int) + 1 ≤ (runL digB (c :: r) : Int) := by omega
    have h1b : (runL digB (c :: r) : Int) ≤ 10001 := by omega
    generalize runL digB (c :: r) = k at *
    generalize (c :: r).getD k 0 = x at *
    generalize lowB x = b at *
    generalize ba ((c :: r).take (k + 1)) = tx at *
    generalize parseD tx = pd at *
    obtain ⟨pv, pe⟩ := pd
    dsimp only at *
    cases b
    · rw [if_neg (by simp)]
      go_enter Tryz.func54, Tryz.ntmps54
      go_wp2_with (first
        | (go_at_call 32; (with_reducible refine cR.mono ?_); rintro e w1 ⟨rfl, rfl⟩)
        | (go_at_call 50; (with_reducible refine cS.mono ?_); rintro e w2 ⟨rfl, rfl⟩)
        | (go_at_call 76; (with_reducible refine cP.mono ?_); rintro e w3 ⟨rfl, hb3⟩
           have hB3 := hB.below hb3 hB.lt
           obtain ⟨c0, c1, c2, c3, f0, f1, f2, f3⟩ := tk_cells hB3))
      obtain ⟨z0, z1, z2, z3, -⟩ := tk_cells hB
      exact bodyPost_ret (v := .tuple #[.agg (tkC 0 ⟨#[]⟩ 0 0), .int .i64 0, .int .i64 2]) (by simp [results, Tryz.results54, go_sem]) rfl ⟨rfl, Gr.alloc _ _⟩
    · rw [if_pos ⟨h1, rfl⟩]
      by_cases hpe : pe = 0
      · rw [if_pos hpe]
        subst hpe
        go_enter Tryz.func54, Tryz.ntmps54
        go_wp2_with (first
          | (go_at_call 32; (with_reducible refine cR.mono ?_); rintro e w1 ⟨rfl, rfl⟩)
          | (go_at_call 50; (with_reducible refine cS.mono ?_); rintro e w2 ⟨rfl, rfl⟩)
          | (go_at_call 76; (with_reducible refine cP.mono ?_); rintro e w3 ⟨rfl, hb3⟩
             have hB3 := hB.below hb3 hB.lt
             obtain ⟨c0, c1, c2, c3, f0, f1, f2, f3⟩ := tk_cells hB3))
        obtain ⟨z0, z1, z2, z3, -⟩ := tk_cells (hB3.tk4 (y0 := .int .i64 3) (y1 := .string tx) (y2 := .int .i64 pv) (y3 := .int .i64 0))
        exact bodyPost_ret (v := .tuple #[.agg (tkC 3 tx pv 0), .int .i64 ((k : Int) + 1), .int .i64 0]) (by simp [results, Tryz.results54, go_sem, z0, z1, z2, z3]) rfl ⟨by simp, gr_tk4 (Gr.trans (Gr.alloc _ _) hb3) (Nat.le_refl _)⟩
      · rw [if_neg hpe]
        have t1 : (pe == 0) = false := by simp [hpe]
        have t2 : (pe != 0) = true := by simp [hpe]
        have t3 : decide (pe = 0) = false := by simp [hpe]
        clear hpe
        go_enter Tryz.func54, Tryz.ntmps54
        go_wp2_with (first
          | (go_at_call 32; (with_reducible refine cR.mono ?_); rintro e w1 ⟨rfl, rfl⟩)
          | (go_at_call 50; (with_reducible refine cS.mono ?_); rintro e w2 ⟨rfl, rfl⟩)
          | (go_at_call 76; (with_reducible refine cP.mono ?_); rintro e w3 ⟨rfl, hb3⟩
             have hB3 := hB.below hb3 hB.lt
             obtain ⟨c0, c1, c2, c3, f0, f1, f2, f3⟩ := tk_cells hB3))
        obtain ⟨z0, z1, z2, z3, -⟩ := tk_cells (hB3.tk4 (y0 := .int .i64 0) (y1 := .string ⟨#[]⟩) (y2 := .int .i64 0) (y3 := .int .i64 0))
        exact bodyPost_ret (v := .tuple #[.agg (tkC 0 ⟨#[]⟩ 0 0), .int .i64 0, .int .i64 pe]) (by simp [results, Tryz.results54, go_sem, z0, z1, z2, z3]) rfl ⟨rfl, gr_tk4 (Gr.trans (Gr.alloc _ _) hb3) (Nat.le_refl _)⟩
  · rw [if_neg (fun h => h1 h.1)]
    have h1' : (r.length : Int) + 1 ≤ (runL digB (c :: r) : Int) := by omega
    generalize runL digB (c :: r) = k at *
    go_enter Tryz.func54, Tryz.ntmps54
    go_wp2_with (go_at_call 32; (with_reducible refine cR.mono ?_); rintro e w1 ⟨rfl, rfl⟩)
    obtain ⟨z0, z1, z2, z3, -⟩ := tk_cells hB
    exact bodyPost_ret (v := .tuple #[.agg (tkC 0 ⟨#[]⟩ 0 0), .int .i64 0, .int .i64 2]) (by simp [results, Tryz.results54, go_sem]) rfl ⟨rfl, Gr.alloc _ _⟩
end Go.Proofs.YtogpmihepfnoaaaGreatDoor
