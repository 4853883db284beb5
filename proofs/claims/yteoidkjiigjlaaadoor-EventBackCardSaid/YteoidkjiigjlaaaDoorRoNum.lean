/- The reference's readers of bytes: Value, Num, Count, Text. -/
import Derived.Test.YteoidkjiigjlaaaDoorRo
namespace Go.Proofs.YteoidkjiigjlaaaDoor
open Go Go.RowKit

set_option maxRecDepth 100000 in
set_option maxHeartbeats 2000000 in
theorem value_any (w : World) (B : Nat) (v : Value) (l : List UInt8) (hB : B ≤ w.heap.size) (hr : RdB w B v l) (hl : l.length ≤ 8) : Calls Tryd.prog 100 #[v] w fun e w' => e = .returned (.int .u64 (valN 0 l)) ∧ Gr w w' := by
  obtain ⟨A, c, rfl, hc, hR⟩ := hr
  go_enter Tryd.func100, Tryd.ntmps100
  go_wp2
  go_loopw [3, 4] (fun v3 v4 wr => ∃ k : Nat, v4 = .int .i64 k ∧ k ≤ l.length ∧ v3 = .int .u64 (valN 0 (l.take k) : Nat) ∧ Gr w wr) (fun _ v4 _ => l.length - (intOf v4).toNat)
  case atStart => exact ⟨0, rfl, by omega, rfl, Gr.refl _⟩
  case round =>
    obtain ⟨k, rfl, hk, rfl, hg⟩ := hrel
    by_cases hlt : k < l.length
    · obtain ⟨ad3, y, rfl, hlt3, hx, hc3⟩ := hR.byte rfl k hlt
      rw [← hg.cell (by rw [block_of_add]; omega)] at hc3
      have hv := valN_lt8 (l.take k) 7 (by omega) (by rw [List.length_take]; omega)
      have hn := take_next hx
      have hsn := valN_snoc 0 (l.take k) y
      rw [← hn] at hsn
      have hy256 := y.toNat_lt
      generalize valN 0 (l.take k) = n at *
      go_wp2
      all_goals (try (go_quiet (fail); go_wp2))
      go_roundw
      case rel => exact ⟨k + 1, by go_num, by omega, by rw [hsn]; go_num, by first | exact hg | exact Gr.trans hg (Gr.drewN _ _)⟩
      case measure => simp [intOf]; omega
    · obtain rfl : k = l.length := by omega
      rw [List.take_length]
      go_wp2
      go_ret
      exact ⟨rfl, hg⟩

section
variable (w : World) (g : Nat) (s : Rs)
set_option maxRecDepth 100000 in
set_option maxHeartbeats 2000000 in
theorem onum_any (h : RdrO w g s) (hl : s.2.length ≤ 1073741824) : Calls Tryd.prog 77 #[.pointer (some ⟨g, 0, none⟩)] w fun e w' => e = .returned (.int .u64 (numR s).1) ∧ RdrO w' g (numR s).2 ∧ GrX w w' g := by
  have HT := Lib.hid (otake_any w g 1 s h hl)
  have hlt := takeD_len s 1
  have hbad := @takeD_bad s 1
  have hok := @takeD_ok s 1
  have eN : numR s = (if (takeD s 1).2.1 = true ∨ 8 < ((takeD s 1).1.getD 0 0).toNat then (0, (true, (takeD s 1).2.2)) else
    if (takeD (takeD s 1).2 ((takeD s 1).1.getD 0 0).toNat).2.1 = true ∨ (0 < (takeD (takeD s 1).2 ((takeD s 1).1.getD 0 0).toNat).1.length ∧ (takeD (takeD s 1).2 ((takeD s 1).1.getD 0 0).toNat).1.getD 0 0 = 0) then (0, (true, (takeD (takeD s 1).2 ((takeD s 1).1.getD 0 0).toNat).2.2)) else (valN 0 (takeD (takeD s 1).2 ((takeD s 1).1.getD 0 0).toNat).1, (takeD (takeD s 1).2 ((takeD s 1).1.getD 0 0).toNat).2)) := rfl
  rw [eN]
  clear eN
  generalize takeD s 1 = t at *
  obtain ⟨tl, tf, tr⟩ := t
  dsimp only at *
  clear h
  cases tf
  · have h1 := hok rfl
    obtain ⟨b, rfl⟩ : ∃ b, tl = [b] := by
      match tl, h1 with
      | [b], _ => exact ⟨b, rfl⟩
    clear hbad hok
    simp only [List.getD_cons_zero, Bool.false_eq_true, false_or]
    have hb256 := b.toNat_lt
    rcases (by omega : 8 < b.toNat ∨ b.toNat ≤ 8) with hb8 | hb8
    · rw [if_pos hb8]
      go_enter Tryd.func77, Tryd.ntmps77
      go_wp2_with (first
        | (go_at_call 58; (with_reducible refine (HT.out).mono ?_); rintro e w1 ⟨v1, rfl, ho1, hr1, hx1⟩
           have hf1 := hr1.fail
           obtain ⟨l1, hb1, _⟩ := hr1
           obtain ⟨c0, c1, f0, f1⟩ := two_cells hb1
           obtain ⟨A1, k1, rfl, hc1, hR1⟩ := ho1.rd
           obtain ⟨ad1, x1, rfl, hlt1, hx, hcell⟩ := hR1.byte rfl 0 (by simp)
           simp only [List.getElem?_cons_zero, Option.some.injEq] at hx
           subst hx
           rw [add0] at hcell)
        | fail)
      go_ret
      exact ⟨rfl, hf1.1, GrX.trans hx1 hf1.2⟩
    · rw [if_neg (by omega)]
      have HT2 := Lib.hid (fun w1 h => otake_any w1 g b.toNat (false, tr) h (by dsimp only; omega))
      have hlu := takeD_len (false, tr) b.toNat
      have hbadu := @takeD_bad (false, tr) b.toNat
      have hoku := @takeD_ok (false, tr) b.toNat
      generalize takeD (false, tr) b.toNat = u at *
      obtain ⟨ul, uf, ur⟩ := u
      dsimp only at *
      cases uf
      · have h2 := hoku rfl
        clear hbadu hoku
        simp only [Bool.false_eq_true, false_or]
        rcases ul with _ | ⟨x, r⟩
        · simp only [List.length_nil, Nat.lt_irrefl, false_and, if_false]
          have HB0 := Lib.hid (show b.toNat = 0 by simpa using h2.symm)
          clear h2
          go_enter Tryd.func77, Tryd.ntmps77
          go_wp2_with (first
        | (go_at_call 58; (with_reducible refine (HT.out).mono ?_); rintro e w1 ⟨v1, rfl, ho1, hr1, hx1⟩
           have hf1 := hr1.fail
           have hr1' := hr1
           obtain ⟨l1, hb1, _⟩ := hr1
           obtain ⟨c0, c1, f0, f1⟩ := two_cells hb1
           obtain ⟨A1, k1, rfl, hc1, hR1⟩ := ho1.rd
           obtain ⟨ad1, x1, rfl, hlt1, hx, hcell⟩ := hR1.byte rfl 0 (by simp)
           simp only [List.getElem?_cons_zero, Option.some.injEq] at hx
           subst hx
           rw [add0] at hcell)
        | (go_at_call 58; (with_reducible refine (HT2.out _ (by assumption)).mono ?_); rintro e w2 ⟨v2, rfl, ho2, hr2, hx2⟩
           have hf2 := hr2.fail
           have hr2' := hr2
           obtain ⟨l2, hb2, _⟩ := hr2
           obtain ⟨d0, d1, g0, g1⟩ := two_cells hb2
           have hR2' := ho2.rd
           obtain ⟨A2, k2, rfl, hc2, hR2⟩ := ho2.rd)
        | (go_at_call 100; (with_reducible refine (value_any w2 w2.heap.size (.slice A2 0 k2) [] (Nat.le_refl _) (by simpa using hR2') (by simp)).mono ?_); rintro e w3 ⟨rfl, hb3⟩))
          all_goals (try (exfalso; have := HB0.out; omega))
          go_ret
          exact ⟨rfl, hr2'.gr hb3, GrX.trans (GrX.trans hx1 hx2) (GrX.of_gr hb3 g)⟩
        · have hb0 : 0 < b.toNat := by simp only [List.length_cons] at h2; omega
          simp only [List.getD_cons_zero, List.length_cons, Nat.zero_lt_succ, true_and]
          by_cases hx0 : x = 0
          · rw [if_pos hx0]
            subst hx0
            have hx0 : (UInt8.toNat 0 : Int) = 0 := rfl
            go_enter Tryd.func77, Tryd.ntmps77
            go_wp2_with (first
        | (go_at_call 58; (with_reducible refine (HT.out).mono ?_); rintro e w1 ⟨v1, rfl, ho1, hr1, hx1⟩
           have hf1 := hr1.fail
           have hr1' := hr1
           obtain ⟨l1, hb1, _⟩ := hr1
           obtain ⟨c0, c1, f0, f1⟩ := two_cells hb1
           obtain ⟨A1, k1, rfl, hc1, hR1⟩ := ho1.rd
           obtain ⟨ad1, x1, rfl, hlt1, hx, hcell⟩ := hR1.byte rfl 0 (by simp)
           simp only [List.getElem?_cons_zero, Option.some.injEq] at hx
           subst hx
           rw [add0] at hcell)
        | (go_at_call 58; (with_reducible refine (HT2.out _ (by assumption)).mono ?_); rintro e w2 ⟨v2, rfl, ho2, hr2, hx2⟩
           have hf2 := hr2.fail
           have hr2' := hr2
           obtain ⟨l2, hb2, _⟩ := hr2
           obtain ⟨d0, d1, g0, g1⟩ := two_cells hb2
           have hR2' := ho2.rd
           obtain ⟨A2, k2, rfl, hc2, hR2⟩ := ho2.rd
           obtain ⟨ad2, x2, rfl, hlt2, hx, hcell2⟩ := hR2.byte rfl 0 (by simp)
           simp only [List.getElem?_cons_zero, Option.some.injEq] at hx
           subst hx
           rw [add0] at hcell2)
        | fail)
            go_ret
            exact ⟨rfl, hf2.1, GrX.trans (GrX.trans hx1 hx2) hf2.2⟩
          · rw [if_neg hx0]
            have hx1 : ¬ (x.toNat : Int) = 0 := fun e => hx0 (UInt8.toNat_inj.1 (by simpa using (by omega : x.toNat = 0)))
            go_enter Tryd.func77, Tryd.ntmps77
            go_wp2_with (first
        | (go_at_call 58; (with_reducible refine (HT.out).mono ?_); rintro e w1 ⟨v1, rfl, ho1, hr1, hx1⟩
           have hf1 := hr1.fail
           have hr1' := hr1
           obtain ⟨l1, hb1, _⟩ := hr1
           obtain ⟨c0, c1, f0, f1⟩ := two_cells hb1
           obtain ⟨A1, k1, rfl, hc1, hR1⟩ := ho1.rd
           obtain ⟨ad1, x1, rfl, hlt1, hx, hcell⟩ := hR1.byte rfl 0 (by simp)
           simp only [List.getElem?_cons_zero, Option.some.injEq] at hx
           subst hx
           rw [add0] at hcell)
        | (go_at_call 58; (with_reducible refine (HT2.out _ (by assumption)).mono ?_); rintro e w2 ⟨v2, rfl, ho2, hr2, hx2⟩
           have hf2 := hr2.fail
           have hr2' := hr2
           obtain ⟨l2, hb2, _⟩ := hr2
           obtain ⟨d0, d1, g0, g1⟩ := two_cells hb2
           have hR2' := ho2.rd
           obtain ⟨A2, k2, rfl, hc2, hR2⟩ := ho2.rd
           obtain ⟨ad2, x2, rfl, hlt2, hx, hcell2⟩ := hR2.byte rfl 0 (by simp)
           simp only [List.getElem?_cons_zero, Option.some.injEq] at hx
           subst hx
           rw [add0] at hcell2)
        | (go_at_call 100; (with_reducible refine (value_any w2 w2.heap.size (.slice (some ad2) b.toNat k2) (x :: r) (Nat.le_refl _) (by rw [h2] at hR2'; exact hR2') (by rw [h2]; omega)).mono ?_); rintro e w3 ⟨rfl, hb3⟩))
            go_ret
            exact ⟨rfl, hr2'.gr hb3, GrX.trans (GrX.trans hx1 hx2) (GrX.of_gr hb3 g)⟩
      · have h2 := hbadu rfl
        subst h2
        simp only [true_or, if_true]
        go_enter Tryd.func77, Tryd.ntmps77
        go_wp2_with (first
        | (go_at_call 58; (with_reducible refine (HT.out).mono ?_); rintro e w1 ⟨v1, rfl, ho1, hr1, hx1⟩
           have hf1 := hr1.fail
           have hr1' := hr1
           obtain ⟨l1, hb1, _⟩ := hr1
           obtain ⟨c0, c1, f0, f1⟩ := two_cells hb1
           obtain ⟨A1, k1, rfl, hc1, hR1⟩ := ho1.rd
           obtain ⟨ad1, x1, rfl, hlt1, hx, hcell⟩ := hR1.byte rfl 0 (by simp)
           simp only [List.getElem?_cons_zero, Option.some.injEq] at hx
           subst hx
           rw [add0] at hcell)
        | (go_at_call 58; (with_reducible refine (HT2.out _ (by assumption)).mono ?_); rintro e w2 ⟨v2, rfl, ho2, hr2, hx2⟩
           have hf2 := hr2.fail
           have hr2' := hr2
           obtain ⟨l2, hb2, _⟩ := hr2
           obtain ⟨d0, d1, g0, g1⟩ := two_cells hb2)
        | fail)
        go_ret
        exact ⟨rfl, hf2.1, GrX.trans (GrX.trans hx1 hx2) hf2.2⟩
  · have h1 := hbad rfl
    subst h1
    simp only [if_true, true_or]
    go_enter Tryd.func77, Tryd.ntmps77
    go_wp2_with (first
        | (go_at_call 58; (with_reducible refine (HT.out).mono ?_); rintro e w1 ⟨v1, rfl, ho1, hr1, hx1⟩
           have hf1 := hr1.fail
           obtain ⟨l1, hb1, _⟩ := hr1
           obtain ⟨c0, c1, f0, f1⟩ := two_cells hb1)
        | fail)
    go_ret
    exact ⟨rfl, hf1.1, GrX.trans hx1 hf1.2⟩
set_option maxRecDepth 100000 in
theorem ocount_any (m : Nat) (hm : m ≤ 9223372036854775807) (h : RdrO w g s) (hl : s.2.length ≤ 1073741824) : Calls Tryd.prog 59 #[.pointer (some ⟨g, 0, none⟩), .int .i64 m] w fun e w' => e = .returned (.int .i64 (countR s m).1) ∧ RdrO w' g (countR s m).2 ∧ GrX w w' g := by
  have HN := Lib.hid (onum_any w g s h hl)
  have h8 := numR_lt s
  have eC : countR s m = (if m < (numR s).1 then (0, (true, (numR s).2.2)) else numR s) := rfl
  rw [eC]
  clear eC
  generalize numR s = t at *
  obtain ⟨n, f, r⟩ := t
  dsimp only at *
  by_cases hn : m < n
  · rw [if_pos hn]
    go_enter Tryd.func59, Tryd.ntmps59
    go_wp2_with (go_at_call 77; (with_reducible refine (HN.out).mono ?_); rintro e w1 ⟨rfl, hr1, hx1⟩
                 have hf1 := hr1.fail
                 obtain ⟨l1, hb1, _⟩ := hr1
                 obtain ⟨c0, c1, f0, f1⟩ := two_cells hb1)
    all_goals (try (exfalso; omega))
    go_ret
    exact ⟨rfl, hf1.1, GrX.trans hx1 hf1.2⟩
  · rw [if_neg hn]
    go_enter Tryd.func59, Tryd.ntmps59
    go_wp2_with (go_at_call 77; (with_reducible refine (HN.out).mono ?_); rintro e w1 ⟨rfl, hr1, hx1⟩)
    all_goals (try (exfalso; omega))
    go_ret
    exact ⟨rfl, hr1, hx1⟩
set_option maxRecDepth 100000 in
theorem otext_any (m : Nat) (hm : m ≤ 9223372036854775807) (h : RdrO w g s) (hl : s.2.length ≤ 1073741824) : Calls Tryd.prog 60 #[.pointer (some ⟨g, 0, none⟩), .int .i64 m] w fun e w' => ∃ v, e = .returned v ∧ OwnB w' w.heap.size v (textR s m).1 ∧ RdrO w' g (textR s m).2 ∧ GrX w w' g := by
  have HC := Lib.hid (ocount_any w g s m hm h hl)
  have hle := countR_len s m
  have HT := Lib.hid otake_any
  have eT : textR s m = takeD (countR s m).2 (countR s m).1 := rfl
  rw [eT]
  clear eT
  generalize countR s m = t at *
  obtain ⟨n, f, r⟩ := t
  dsimp only at *
  go_enter Tryd.func60, Tryd.ntmps60
  go_wp2_with (first
    | (go_at_call 59; (with_reducible refine (HC.out).mono ?_); rintro e w1 ⟨rfl, hr1, hx1⟩)
    | (go_at_call 58; (with_reducible refine (HT.out _ g _ _ hr1 (by dsimp only; omega)).mono ?_); rintro e w2 ⟨v2, rfl, ho2, hr2, hx2⟩))
  go_ret
  exact ⟨_, rfl, ho2.lower hx1.size, hr2, GrX.trans hx1 hx2⟩
end
end Go.Proofs.YteoidkjiigjlaaaDoor
