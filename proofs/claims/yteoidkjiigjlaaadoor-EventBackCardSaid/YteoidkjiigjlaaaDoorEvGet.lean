/- Events: the event of bytes. -/
import Derived.Test.YteoidkjiigjlaaaDoorRoNum
import Derived.Test.YteoidkjiigjlaaaDoorFactsV
namespace Go.Proofs.YteoidkjiigjlaaaDoor
open Go Go.RowKit

theorem RdrT.far {w : World} {g gx i : Nat} {s : Rs} {u : Value} (h : RdrT w g s) (hg : g < gx) : RdrT (w.setCell ⟨gx, i, none⟩ u) g s := by
  obtain ⟨v, h1, A, c, e, hc, hr⟩ := h
  exact ⟨v, h1.far (by intro e; simp at e; omega) u, A, c, e, hc, hr.setCell (by show g ≤ gx; omega) u⟩
abbrev put4 (w : World) (g : Nat) (y0 y1 y2 y3 : Value) : World := (((w.setCell ⟨g, 0, none⟩ y0).setCell ⟨g, 1, none⟩ y1).setCell ⟨g, 2, none⟩ y2).setCell ⟨g, 3, none⟩ y3
theorem Blk.put4 {w : World} {g : Nat} {T : TypeId} {x0 x1 x2 x3 y0 y1 y2 y3 : Value} (h : Blk w g T #[x0, x1, x2, x3]) : Blk (put4 w g y0 y1 y2 y3) g T #[y0, y1, y2, y3] := by
  simpa using (((h.set_ 0 y0).set_ 1 y1).set_ 2 y2).set_ 3 y3
theorem below_put4 {B : Nat} {a w : World} {g : Nat} {y0 y1 y2 y3 : Value} (h : Below B a w) (hg : B ≤ g) : Below B a (put4 w g y0 y1 y2 y3) :=
  Below.setCell (Below.setCell (Below.setCell (Below.setCell h hg _) hg _) hg _) hg _
theorem RdrT.put4 {w : World} {g gx : Nat} {s : Rs} {y0 y1 y2 y3 : Value} (h : RdrT w g s) (hg : g < gx) : RdrT (put4 w gx y0 y1 y2 y3) g s := (((h.far hg).far hg).far hg).far hg
structure Ev where
  k : Int
  t : Int
  a : ByteArray
  b : ByteArray
abbrev Ev.zero : Ev := ⟨0, 0, ⟨#[]⟩, ⟨#[]⟩⟩
/-- What stands in bytes, behind the kind. -/
def bodyR (k : Int) (s : Rs) : Ev × Rs :=
  let c := countR s 1099511627776
  let ta := textR c.2 16
  let tb := textR ta.2 16
  (⟨k, c.1, ⟨ta.1.toArray⟩, ⟨tb.1.toArray⟩⟩, tb.2)
/-- The event of bytes, and the error. -/
def getD_ (l : List UInt8) : Ev × Int :=
  let t := takeD (false, l) 1
  if t.2.1 = true then (Ev.zero, 2) else
  let x := bodyR ((t.1.getD 0 0).toNat : Int) t.2
  if x.2.1 = true ∨ 0 < x.2.2.length ∨ mayD x.1.k x.1.t x.1.a x.1.b = false then (Ev.zero, 2) else (x.1, 0)

theorem count40 (w : World) (g : Nat) (s : Rs) (h : RdrT w g s) (hl : s.2.length ≤ 1073741824) : Calls Tryd.prog 54 #[.pointer (some ⟨g, 0, none⟩), .int .i64 1099511627776] w fun e w' => e = .returned (.int .i64 (countR s 1099511627776).1) ∧ RdrT w' g (countR s 1099511627776).2 ∧ GrX w w' g :=
  rcount_any w g s 1099511627776 (by omega) h hl
theorem text16 (w : World) (g : Nat) (s : Rs) (h : RdrT w g s) (hl : s.2.length ≤ 1073741824) : Calls Tryd.prog 55 #[.pointer (some ⟨g, 0, none⟩), .int .i64 16] w fun e w' => ∃ v, e = .returned v ∧ OwnB w' w.heap.size v (textR s 16).1 ∧ RdrT w' g (textR s 16).2 ∧ GrX w w' g :=
  rtext_any w g s 16 (by omega) h hl
theorem takeD_le (s : Rs) (n : Nat) : (takeD s n).1.length ≤ n := by
  cases h : (takeD s n).2.1 with
  | false => rw [takeD_ok h]; exact Nat.le_refl _
  | true => rw [takeD_bad h]; simp
theorem textR_le (s : Rs) (m : Nat) : (textR s m).1.length ≤ m := Nat.le_trans (takeD_le _ _) (countR_le s m)
theorem four_ice {W : World} {g : Nat} {T : TypeId} {x0 x1 x2 x3 : Value} (h : Blk W g T #[x0, x1, x2, x3]) : W.frozen? ⟨g, 0, none⟩ = false ∧ W.frozen? ⟨g, 1, none⟩ = false ∧ W.frozen? ⟨g, 2, none⟩ = false ∧ W.frozen? ⟨g, 3, none⟩ = false :=
  ⟨h.frozen 0, h.frozen 1, h.frozen 2, h.frozen 3⟩
set_option maxRecDepth 100000 in
set_option maxHeartbeats 4000000 in
/-- The event, where its bytes have a kind: the walk, given what the reader tells. -/
theorem get_some (w : World) (B : Nat) (v : Value) (l : List UInt8) (hB : B ≤ w.heap.size) (hr : RdB w B v l) (hl : l.length ≤ 1073741824) (b : UInt8) (tr al bl br : List UInt8) (cn : Nat) (sc sa : Rs) (bf : Bool)
    (ht : takeD (false, l) 1 = ([b], false, tr)) (hc : countR (false, tr) 1099511627776 = (cn, sc)) (hta : textR sc 16 = (al, sa)) (htb : textR sa 16 = (bl, bf, br)) (X : Ev × Int)
    (hX : (bf = true ∧ X = (Ev.zero, 2)) ∨ (bf = false ∧ 0 < br.length ∧ X = (Ev.zero, 2)) ∨ (bf = false ∧ br.length = 0 ∧ mayD b.toNat cn ⟨al.toArray⟩ ⟨bl.toArray⟩ = false ∧ X = (Ev.zero, 2)) ∨ (bf = false ∧ br.length = 0 ∧ mayD b.toNat cn ⟨al.toArray⟩ ⟨bl.toArray⟩ = true ∧ X = (⟨b.toNat, cn, ⟨al.toArray⟩, ⟨bl.toArray⟩⟩, 0))) :
    Calls Tryd.prog 20 #[v] w fun e w' => e = .returned (.tuple #[evV X.1.k X.1.t X.1.a X.1.b, .int .i64 X.2]) ∧ Gr w w' := by
  have hlt : tr.length ≤ l.length := by have := takeD_len (false, l) 1; rw [ht] at this; exact this
  have hlc : sc.2.length ≤ tr.length := by have := countR_len (false, tr) 1099511627776; rw [hc] at this; exact this
  have hC : cn ≤ 1099511627776 := by have := countR_le (false, tr) 1099511627776; rw [hc] at this; exact this
  have hla : sa.2.length ≤ sc.2.length := by have := textR_len sc 16; rw [hta] at this; exact this
  have hsa : al.length ≤ 16 := by have := textR_le sc 16; rw [hta] at this; exact this
  have hsb : bl.length ≤ 16 := by have := textR_le sa 16; rw [htb] at this; exact this
  have HT := Lib.hid (fun w g h => take_any w g 1 (false, l) h hl)
  have HC := Lib.hid (fun w g h => count40 w g (false, tr) h (by dsimp only; omega))
  have HX1 := Lib.hid (fun w g h => text16 w g sc h (by omega))
  have HX2 := Lib.hid (fun w g h => text16 w g sa h (by omega))
  have HOk := Lib.hid rok_any
  have HL := Lib.hid rleft_any
  rw [ht] at HT
  rw [hc] at HC
  rw [hta] at HX1
  rw [htb] at HX2
  have HCk := Lib.hid (fun W => check_any b.toNat cn ⟨al.toArray⟩ ⟨bl.toArray⟩ W (by have := b.toNat_lt; omega) (by show al.toArray.size ≤ _; simp; omega) (by show bl.toArray.size ≤ _; simp; omega))
  dsimp only at *
  have hb256 : b.toNat < 256 := b.toNat_lt
  have hwb : wrap64 (b.toNat : Int) = b.toNat := by unfold wrap64; omega
  clear ht hc hta htb
  have HXX := Lib.hid hX
  clear hX
  go_enter Tryd.func20, Tryd.ntmps20
  go_wp2_with (first
    | (go_at_call 51; (with_reducible refine (new_any _ B v l (Nat.le_trans hB (Gr.alloc w _).size) (hr.gr hB (Gr.alloc w _)) hl).mono ?_); rintro e w1 ⟨g, rfl, hg, hr1, hb1⟩
       have hB1 := (Blk.new w _ _).below hb1 (Blk.new w _ _).lt
       have hgn : w.heap.size < g := Nat.lt_of_lt_of_le (Blk.new w _ _).lt hg)
    | (go_at_call 52; (with_reducible refine (HT.out _ g hr1).mono ?_); rintro e w2 ⟨v2, rfl, ho2, hr2, hx2⟩
       have hB2 := hB1.grown hx2 (by simp; omega)
       have hg1 : g < w1.heap.size := (by obtain ⟨_, h, _⟩ := hr1; exact h.lt)
       obtain ⟨A2, k2, rfl, hc2, hR2⟩ := ho2.rd
       have hown := ho2
       obtain ⟨ad2, x2, rfl, hlt2, hx, hcell2⟩ := hR2.byte rfl 0 (by simp)
       have had2 : w1.heap.size ≤ ad2.block := by
         rcases hown.2 with ⟨h0, _⟩ | ⟨g', cap, cur, e1, e2, _⟩
         · cases h0
         · injection e1 with e1 _ _
           obtain rfl := Option.some.inj e1
           exact e2
       simp only [List.getElem?_cons_zero, Option.some.injEq] at hx
       subst hx
       rw [add0] at hcell2)
    | (go_at_call 53; (with_reducible refine (HOk.out _ g _ hr2).mono ?_); rintro e w3 ⟨rfl, rfl⟩))
  have hg2 : g < w2.heap.size := (by obtain ⟨_, h, _⟩ := hr2; exact h.lt)
  refine wp_region_factsV [.at_ 0 (.is (.slice (some ad2) 1 k2)), .at_ 1 (.is (.pointer (some ad2))), .at_ 2 (.is (.int .u8 (b.toNat : Int))), .at_ 3 (.is (.int .i64 (b.toNat : Int))), .at_ 4 (.is (.pointer (some ⟨g, 0, none⟩))),
      .at_ 5 ⟨fun v w => v = .int .i64 (cn : Int) ∧ RdrT w g sc, fun _ _ _ h hg => ⟨h.1, h.2.gr hg⟩⟩,
      .at_ 6 (.is (.agg #[.int .i64 (b.toNat : Int), .int .i64 (cn : Int), .string ⟨#[]⟩, .string ⟨#[]⟩])),
      .at_ 7 ⟨fun v w => ∃ gx, v = .pointer (some ⟨gx, 0, none⟩) ∧ w2.heap.size ≤ gx ∧ Blk w gx 23 #[.int .i64 0, .int .i64 0, .string ⟨#[]⟩, .string ⟨#[]⟩], fun _ _ _ ⟨gx, h1, h2, h3⟩ hg => ⟨gx, h1, h2, h3.below hg h3.lt⟩⟩,
      ⟨fun vals w => ∃ gx, vals 7 = .pointer (some ⟨gx, 0, none⟩) ∧ w2.heap.size ≤ gx ∧ Blk w gx 23 #[.int .i64 (b.toNat : Int), .int .i64 (cn : Int), .string ⟨#[]⟩, .string ⟨#[]⟩], fun _ _ _ ⟨gx, h1, h2, h3⟩ hg => ⟨gx, h1, h2, h3.below hg h3.lt⟩, [7], fun vals vals' w h hp => by have := h 7 (by simp); rwa [← this]⟩]
      (fun n w => match n with | 0 => w.cell? ad2 = some (.int .u8 (b.toNat : Int)) ∧ w2.heap.size ≤ w.heap.size | 1 => RdrT w g (false, tr) | _ => True)
      (fun i j => i == 8 && j == 7) (fun i n => i == 5 && n == 1) g (by kernel_rfl) rfl (by kernel_rfl) (by kernel_rfl) (by kernel_rfl) (Nat.le_of_lt hg2)
      (fun n => by
        match n with
        | 0 => exact ⟨hcell2, Nat.le_refl _⟩
        | 1 => exact hr2.gr (Gr.drew _)
        | n + 2 => trivial) (fun vals => by simp [fillA, dstsOf, go_sem]; rfl) ?_ ?_
  · intro i hi
    replace hi : i < 9 := hi
    have hI : ∀ (n : Nat) (w w' : World), (match n with | 0 => w.cell? ad2 = some (.int .u8 (b.toNat : Int)) ∧ w2.heap.size ≤ w.heap.size | 1 => RdrT w g (false, tr) | _ => True) → Gr w w' → (match n with | 0 => w'.cell? ad2 = some (.int .u8 (b.toNat : Int)) ∧ w2.heap.size ≤ w'.heap.size | 1 => RdrT w' g (false, tr) | _ => True) := by
        intro n w w' h hg
        match n, h with
        | 0, h => exact ⟨(hg.cell (by have := h.2; omega)).trans h.1, Nat.le_trans h.2 hg.size⟩
        | 1, h => exact RdrT.gr h hg
        | n + 2, _ => trivial
    rcases (by omega : i = 0 ∨ i = 1 ∨ i = 2 ∨ i = 3 ∨ i = 4 ∨ i = 5 ∨ i = 6 ∨ i = 7 ∨ i = 8) with rfl | rfl | rfl | rfl | rfl | rfl | rfl | rfl | rfl
    · refine step_gV 0 [] _ _ rfl rfl hI (by kernel_rfl) fun vals W hb hB hIw hd => ?_
      go_wp2
      exact ⟨rfl, _, rfl, Gr.refl _, rfl⟩
    · refine step_gV 1 [0] _ _ rfl rfl hI (by kernel_rfl) fun vals W hb hB hIw hd => ?_
      have h0 : vals 0 = _ := hd 0 (by simp) _ rfl
      rw [h0]
      go_wp2
      exact ⟨rfl, _, rfl, Gr.refl _, rfl⟩
    · refine step_gV 2 [1] _ _ rfl rfl hI (by kernel_rfl) fun vals W hb hB hIw hd => ?_
      have h1 : vals 1 = _ := hd 1 (by simp) _ rfl
      rw [h1]
      have hc : W.cell? ad2 = some (.int .u8 (b.toNat : Int)) := (hIw 0 (by kernel_rfl)).1
      go_wp2
      exact ⟨rfl, _, rfl, Gr.refl _, rfl⟩
    · refine step_gV 3 [2] _ _ rfl rfl hI (by kernel_rfl) fun vals W hb hB hIw hd => ?_
      have h2 : vals 2 = _ := hd 2 (by simp) _ rfl
      rw [h2]
      go_wp2
      exact ⟨rfl, _, rfl, Gr.refl _, rfl⟩
    · refine step_gV 4 [] _ _ rfl rfl hI (by kernel_rfl) fun vals W hb hB hIw hd => ?_
      go_wp2
      exact ⟨rfl, _, rfl, Gr.refl _, rfl⟩
    · refine step_sV 5 [4] [0, 1, 2, 3, 4, 7] _ _ rfl rfl (by kernel_rfl) (by kernel_rfl) fun vals W hb hB hIw hd => ?_
      have h4 : vals 4 = _ := hd 4 (by simp) _ rfl
      rw [h4]
      have hr3 : RdrT W g (false, tr) := hIw 1 (by kernel_rfl)
      go_wp2_with (go_at_call 54; (with_reducible refine (HC.out W g hr3).mono ?_); rintro e w3 ⟨rfl, hr4, hx4⟩)
      refine ⟨rfl, _, rfl, ⟨hx4.os, hx4.tape, hx4.output, hx4.size, fun k hk => hx4.block k (by omega) (by simp; omega)⟩, ⟨rfl, hr4⟩, fun n hn hI => ?_, fun j hj => ?_⟩
      · rcases n with _ | _ | n
        · obtain ⟨hI1, hI2⟩ := (show W.cell? ad2 = some (.int .u8 (b.toNat : Int)) ∧ w2.heap.size ≤ W.heap.size from hI)
          exact ⟨(World.grownBy.cell_far hx4 ad2 (by omega) (by simp; omega)).trans hI1, Nat.le_trans hI2 hx4.size⟩
        · cases hn
        · trivial
      · simp only [List.mem_cons, List.not_mem_nil, or_false] at hj
        rcases hj with rfl | rfl | rfl | rfl | rfl | rfl
        all_goals
          intro g' hg' hp
          obtain rfl := Option.some.inj hg'
        · exact hp
        · exact hp
        · exact hp
        · exact hp
        · exact hp
        · obtain ⟨gx, e, hge, hbk⟩ := hp
          exact ⟨gx, e, hge, hbk.grown hx4 (by simp; omega)⟩
    · refine step_gV 6 [3, 5] _ _ rfl rfl hI (by kernel_rfl) fun vals W hb hB hIw hd => ?_
      have h3 : vals 3 = _ := hd 3 (by simp) _ rfl
      obtain ⟨h5, _⟩ := (show vals 5 = _ ∧ _ from hd 5 (by simp) _ rfl)
      rw [h3, h5]
      go_wp2
      exact ⟨rfl, _, rfl, Gr.refl _, rfl⟩
    · refine step_gV 7 [] _ _ rfl rfl hI (by kernel_rfl) fun vals W hb hB hIw hd => ?_
      have hsz : w2.heap.size ≤ W.heap.size := (hIw 0 (by kernel_rfl)).2
      go_wp2
      exact ⟨rfl, _, rfl, Gr.alloc _ _, _, rfl, hsz, Blk.new W _ _⟩
    · refine step_sV 8 [6, 7] [0, 1, 2, 3, 4, 5, 6] _ _ rfl rfl (by kernel_rfl) (by kernel_rfl) fun vals W hb hB hIw hd => ?_
      have h6 : vals 6 = _ := hd 6 (by simp) _ rfl
      obtain ⟨gx, h7, hge, hbk⟩ := (show ∃ gx, vals 7 = .pointer (some ⟨gx, 0, none⟩) ∧ w2.heap.size ≤ gx ∧ Blk W gx _ _ from hd 7 (by simp) _ rfl)
      rw [h6, h7]
      obtain ⟨d0, d1, d2, d3⟩ := four_cells hbk
      obtain ⟨i0, i1, i2, i3⟩ := four_ice hbk
      go_wp2
      have hgx : g < gx := by omega
      refine ⟨rfl, .nilIface, rfl, below_put4 (Below.refl _ _) (by omega), ⟨gx, by simpa [setV] using h7, hge, hbk.put4⟩, fun n hn hI => ?_, fun j hj => ?_⟩
      · match n, hI with
        | 0, hI => exact ⟨((below_put4 (B := w2.heap.size) (Below.refl _ W) hge).cell (by omega)).trans hI.1, Nat.le_trans hI.2 (below_put4 (B := w2.heap.size) (Below.refl _ W) hge).size⟩
        | 1, hI => exact RdrT.put4 hI hgx
        | n + 2, _ => trivial
      · simp only [List.mem_cons, List.not_mem_nil, or_false] at hj
        rcases hj with rfl | rfl | rfl | rfl | rfl | rfl | rfl
        all_goals
          intro g' hg' hp
          obtain rfl := Option.some.inj hg'
        · exact hp
        · exact hp
        · exact hp
        · exact hp
        · exact hp
        · exact ⟨hp.1, RdrT.put4 hp.2 hgx⟩
        · exact hp
  · intro vals W3 hb3 hf
    obtain ⟨_, hr3⟩ := (show vals 5 = _ ∧ RdrT W3 g _ from hf 5 _ rfl (fun k hk => by simp))
    obtain ⟨gx, h7, hge, hbk⟩ := (show ∃ gx, vals 7 = .pointer (some ⟨gx, 0, none⟩) ∧ w2.heap.size ≤ gx ∧ Blk W3 gx _ _ from hf 8 _ rfl (fun k hk => by simp))
    rw [h7]
    clear hf
    have hgx : g < gx := by omega
    have hB3 := hB2.below hb3 hgn
    have hne1 : ¬ gx = w.heap.size := by omega
    have hne2 : ¬ w.heap.size = gx := by omega
    have hG1 : Gr w w1 := Gr.trans (Gr.alloc w _) hb1
    have hG2 : Gr w w2 := hG1.grown hx2 hG1.size (fun k hk => by simp at hk; omega)
    have hG3 : Gr w W3 := Below.trans hG2 (hb3.mono (show w.heap.size ≤ g by omega))
    obtain ⟨d0, d1, d2, d3⟩ := four_cells hbk
    obtain ⟨i0, i1, i2, i3⟩ := four_ice hbk
    rcases HXX.out with ⟨rfl, rfl⟩ | ⟨rfl, hbr, rfl⟩ | ⟨rfl, hbr, hm, rfl⟩ | ⟨rfl, hbr, hm, rfl⟩
    all_goals
      try rw [hm] at HCk
      clear HXX
      skip
      go_wp2_with (first
        | (go_at_call 55; (with_reducible refine (HX1.out W3 g hr3).mono ?_); rintro e w4 ⟨v4, rfl, ho4, hr4, hx4⟩
           have q4 := str_of_rd ho4.rd
           have hbk4 := hbk.grown hx4 (by simp; omega)
           have hB4 := hB3.grown hx4 (by simp; omega)
           obtain ⟨d40, d41, d42, d43⟩ := four_cells hbk4
           obtain ⟨i40, i41, i42, i43⟩ := four_ice hbk4
           obtain ⟨A4, k4, rfl, _, _⟩ := ho4.rd)
        | (go_at_call 55; (with_reducible refine (HX2.out _ g (hr4.far hgx)).mono ?_); rintro e w5 ⟨v5, rfl, ho5, hr5, hx5⟩
           have q5 := str_of_rd ho5.rd
           have hbk5 := (show Blk _ _ _ #[.int .i64 (b.toNat : Int), .int .i64 (cn : Int), .string ⟨al.toArray⟩, .string ⟨#[]⟩] from by simpa using (hbk4.set_ 2 (.string ⟨al.toArray⟩)).grown hx5 (by simp; omega))
           have hB5 := (hB4.far (p := ⟨gx, 2, none⟩) (by simp; omega) (.string ⟨al.toArray⟩)).grown hx5 (by simp; omega)
           obtain ⟨d50, d51, d52, d53⟩ := four_cells hbk5
           obtain ⟨i50, i51, i52, i53⟩ := four_ice hbk5
           obtain ⟨r50, r51, r52, r53⟩ := four_cells hB5
           obtain ⟨s50, s51, s52, s53⟩ := four_ice hB5
           have hG5 : Gr w w5 := (Below.setCell (hG3.grown hx4 hG3.size (fun k hk => by simp at hk; omega)) (p := ⟨gx, 2, none⟩) (by simp; omega) (.string ⟨al.toArray⟩)).grown hx5 (by have := hG3.size; have := hx4.size; simp [World.setCell]; omega) (fun k hk => by simp at hk; omega)
           obtain ⟨A5, k5, rfl, _, _⟩ := ho5.rd)
        | (go_at_call 15; (with_reducible refine (HCk.out _).mono ?_); rintro e w7 ⟨rfl, hb7⟩
           have hB7 := (hB5.far (p := ⟨gx, 3, none⟩) (by simp; omega) (.string ⟨bl.toArray⟩)).below hb7 (hB5.far (p := ⟨gx, 3, none⟩) (by simp; omega) (.string ⟨bl.toArray⟩)).lt
           have hbk6 := (show Blk (w5.setCell ⟨gx, 3, none⟩ (.string ⟨bl.toArray⟩)) _ _ #[.int .i64 (b.toNat : Int), .int .i64 (cn : Int), .string ⟨al.toArray⟩, .string ⟨bl.toArray⟩] from by simpa using hbk5.set_ 3 (.string ⟨bl.toArray⟩))
           have hbk7 := hbk6.below hb7 hbk6.lt
           obtain ⟨r70, r71, r72, r73⟩ := four_cells hB7
           obtain ⟨s70, s71, s72, s73⟩ := four_ice hB7
           obtain ⟨d70, d71, d72, d73⟩ := four_cells hbk7)
        | (go_at_call 53; (with_reducible refine (HOk.out _ g _ (hr5.far hgx)).mono ?_); rintro e w6 ⟨rfl, rfl⟩)
        | (go_at_call 56; (with_reducible refine (HL.out _ g _ (hr5.far hgx)).mono ?_); rintro e w6 ⟨rfl, rfl⟩)
        | fail)
      have hG6 : Gr w (w5.setCell ⟨gx, 3, none⟩ (.string ⟨bl.toArray⟩)) := Below.setCell hG5 (by simp; omega) _
      have hBz := hB5.far (p := ⟨gx, 3, none⟩) (by simp; omega) (.string ⟨bl.toArray⟩)
      first
        | (obtain ⟨z0, z1, z2, z3⟩ := four_cells (hB7.put4 (y0 := .int .i64 0) (y1 := .int .i64 0) (y2 := .string ⟨#[]⟩) (y3 := .string ⟨#[]⟩))
           exact bodyPost_ret (v := .tuple #[.agg #[.int .i64 0, .int .i64 0, .string ⟨#[]⟩, .string ⟨#[]⟩], .int .i64 2]) (by simp [results, Tryd.results20, go_sem, z0, z1, z2, z3]) rfl ⟨rfl, below_put4 (Gr.trans hG6 hb7) (Nat.le_refl _)⟩)
        | (obtain ⟨z0, z1, z2, z3⟩ := four_cells (hB7.put4 (y0 := .int .i64 (b.toNat : Int)) (y1 := .int .i64 (cn : Int)) (y2 := .string ⟨al.toArray⟩) (y3 := .string ⟨bl.toArray⟩))
           exact bodyPost_ret (v := .tuple #[.agg #[.int .i64 (b.toNat : Int), .int .i64 (cn : Int), .string ⟨al.toArray⟩, .string ⟨bl.toArray⟩], .int .i64 0]) (by simp [results, Tryd.results20, go_sem, z0, z1, z2, z3]) rfl ⟨rfl, below_put4 (Gr.trans hG6 hb7) (Nat.le_refl _)⟩)
        | (obtain ⟨z0, z1, z2, z3⟩ := four_cells (hBz.put4 (y0 := .int .i64 0) (y1 := .int .i64 0) (y2 := .string ⟨#[]⟩) (y3 := .string ⟨#[]⟩))
           exact bodyPost_ret (v := .tuple #[.agg #[.int .i64 0, .int .i64 0, .string ⟨#[]⟩, .string ⟨#[]⟩], .int .i64 2]) (by simp [results, Tryd.results20, go_sem, z0, z1, z2, z3]) rfl ⟨rfl, below_put4 hG6 (Nat.le_refl _)⟩)

set_option maxRecDepth 100000 in
set_option maxHeartbeats 2000000 in
theorem get_none (w : World) (B : Nat) (v : Value) (l : List UInt8) (hB : B ≤ w.heap.size) (hr : RdB w B v l) (hl : l.length ≤ 1073741824) (s : Rs) (ht : takeD (false, l) 1 = ([], true, s.2)) :
    Calls Tryd.prog 20 #[v] w fun e w' => e = .returned (.tuple #[evV 0 0 ⟨#[]⟩ ⟨#[]⟩, .int .i64 2]) ∧ Gr w w' := by
  have HT := Lib.hid (fun w g h => take_any w g 1 (false, l) h hl)
  have HOk := Lib.hid rok_any
  rw [ht] at HT
  go_enter Tryd.func20, Tryd.ntmps20
  go_wp2_with (first
    | (go_at_call 51; (with_reducible refine (new_any _ B v l (Nat.le_trans hB (Gr.alloc w _).size) (hr.gr hB (Gr.alloc w _)) hl).mono ?_); rintro e w1 ⟨g, rfl, hg, hr1, hb1⟩
       have hB1 := (Blk.new w _ _).below hb1 (Blk.new w _ _).lt
       have hgn : w.heap.size < g := Nat.lt_of_lt_of_le (Blk.new w _ _).lt hg)
    | (go_at_call 52; (with_reducible refine (HT.out _ g hr1).mono ?_); rintro e w2 ⟨v2, rfl, ho2, hr2, hx2⟩
       have hB2 := hB1.grown hx2 (by simp; omega)
       obtain ⟨c20, c21, c22, c23⟩ := four_cells hB2
       obtain ⟨i20, i21, i22, i23⟩ := four_ice hB2)
    | (go_at_call 53; (with_reducible refine (HOk.out _ g _ hr2).mono ?_); rintro e w3 ⟨rfl, rfl⟩))
  have hG1 : Gr w w1 := Gr.trans (Gr.alloc w _) hb1
  have hG2 : Gr w w2 := hG1.grown hx2 hG1.size (fun k hk => by simp at hk; omega)
  obtain ⟨z0, z1, z2, z3⟩ := four_cells (hB2.put4 (y0 := .int .i64 0) (y1 := .int .i64 0) (y2 := .string ⟨#[]⟩) (y3 := .string ⟨#[]⟩))
  exact bodyPost_ret (v := .tuple #[.agg #[.int .i64 0, .int .i64 0, .string ⟨#[]⟩, .string ⟨#[]⟩], .int .i64 2]) (by simp [results, Tryd.results20, go_sem, z0, z1, z2, z3]) rfl ⟨rfl, below_put4 hG2 (Nat.le_refl _)⟩

theorem head_ways (l : List UInt8) : (takeD (false, l) 1 = ([], true, l)) ∨ ∃ b tr, takeD (false, l) 1 = ([b], false, tr) := by
  cases l with
  | nil => left; rfl
  | cons b r =>
    right
    refine ⟨b, r, ?_⟩
    rw [takeD, if_neg (by simp; omega)]
    simp
theorem getD_none {l : List UInt8} (h : takeD (false, l) 1 = ([], true, l)) : getD_ l = (Ev.zero, 2) := by
  unfold getD_
  rw [h]
  rfl
theorem getD_some {l tr al bl br : List UInt8} {b : UInt8} {cn : Nat} {sc sa : Rs} {bf : Bool} (ht : takeD (false, l) 1 = ([b], false, tr)) (hc : countR (false, tr) 1099511627776 = (cn, sc)) (hta : textR sc 16 = (al, sa)) (htb : textR sa 16 = (bl, bf, br)) :
    getD_ l = if bf = true ∨ 0 < br.length ∨ mayD b.toNat cn ⟨al.toArray⟩ ⟨bl.toArray⟩ = false then (Ev.zero, 2) else (⟨b.toNat, cn, ⟨al.toArray⟩, ⟨bl.toArray⟩⟩, 0) := by
  unfold getD_ bodyR
  rw [ht]
  dsimp only
  rw [List.getD_cons_zero, hc]
  dsimp only
  rw [hta]
  dsimp only
  rw [htb]
  simp only [Bool.false_eq_true, if_false]
theorem getD_ways {l tr al bl br : List UInt8} {b : UInt8} {cn : Nat} {sc sa : Rs} {bf : Bool} (ht : takeD (false, l) 1 = ([b], false, tr)) (hc : countR (false, tr) 1099511627776 = (cn, sc)) (hta : textR sc 16 = (al, sa)) (htb : textR sa 16 = (bl, bf, br)) :
    (bf = true ∧ getD_ l = (Ev.zero, 2)) ∨ (bf = false ∧ 0 < br.length ∧ getD_ l = (Ev.zero, 2)) ∨ (bf = false ∧ br.length = 0 ∧ mayD b.toNat cn ⟨al.toArray⟩ ⟨bl.toArray⟩ = false ∧ getD_ l = (Ev.zero, 2)) ∨ (bf = false ∧ br.length = 0 ∧ mayD b.toNat cn ⟨al.toArray⟩ ⟨bl.toArray⟩ = true ∧ getD_ l = (⟨b.toNat, cn, ⟨al.toArray⟩, ⟨bl.toArray⟩⟩, 0)) := by
  rw [getD_some ht hc hta htb]
  cases bf with
  | true => exact .inl ⟨rfl, by rw [if_pos (.inl rfl)]⟩
  | false =>
    rcases Nat.eq_zero_or_pos br.length with h0 | h0
    · cases hm : mayD b.toNat cn ⟨al.toArray⟩ ⟨bl.toArray⟩ with
      | false => exact .inr (.inr (.inl ⟨rfl, h0, rfl, by rw [if_pos (.inr (.inr rfl))]⟩))
      | true => exact .inr (.inr (.inr ⟨rfl, h0, rfl, by rw [if_neg (by rintro (h | h | h) <;> first | cases h | omega)]⟩))
    · exact .inr (.inl ⟨rfl, h0, by rw [if_pos (.inr (.inl h0))]⟩)
theorem get_any (w : World) (B : Nat) (v : Value) (l : List UInt8) (hB : B ≤ w.heap.size) (hr : RdB w B v l) (hl : l.length ≤ 1073741824) :
    Calls Tryd.prog 20 #[v] w fun e w' => e = .returned (.tuple #[evV (getD_ l).1.k (getD_ l).1.t (getD_ l).1.a (getD_ l).1.b, .int .i64 (getD_ l).2]) ∧ Gr w w' := by
  rcases head_ways l with ht | ⟨b, tr, ht⟩
  · rw [getD_none ht]
    exact get_none w B v l hB hr hl (false, l) ht
  · rcases hc : countR (false, tr) 1099511627776 with ⟨cn, sc⟩
    rcases hta : textR sc 16 with ⟨al, sa⟩
    rcases htb : textR sa 16 with ⟨bl, bf, br⟩
    exact get_some w B v l hB hr hl b tr al bl br cn sc sa bf ht hc hta htb (getD_ l) (getD_ways ht hc hta htb)
end Go.Proofs.YteoidkjiigjlaaaDoor
