/- Readers of bytes: Num, Count, Text. -/
import Derived.Test.YteoidkjiigjlaaaDoorRdTake
import Derived.Laws.Bits64b
namespace Go.Proofs.YteoidkjiigjlaaaDoor
open Go Go.RowKit

theorem takeD_len (s : Rs) (n : Int) : (takeD s n).2.2.length ≤ s.2.length := by
  unfold takeD
  split
  · exact Nat.le_refl _
  · simp
theorem takeD_ok {s : Rs} {n : Nat} (h : (takeD s n).2.1 = false) : (takeD s n).1.length = n := by
  unfold takeD at *
  split at h
  · cases h
  · rename_i h0
    rw [if_neg h0]
    simp; omega
theorem takeD_bad {s : Rs} {n : Int} (h : (takeD s n).2.1 = true) : (takeD s n).1 = [] := by
  unfold takeD at *
  split at h
  · rename_i h0; rw [if_pos h0]
  · cases h
theorem GrX.trans {a b c : World} {g : Nat} (h : GrX a b g) (k : GrX b c g) : GrX a c g := World.grownBy.trans h k

theorem valN_snoc (n : Nat) (l : List UInt8) (c : UInt8) : valN n (l ++ [c]) = valN n l * 256 + c.toNat := by simp [valN]
theorem valN_lt : ∀ (l : List UInt8), valN 0 l < 256 ^ l.length := by
  intro l
  rw [← List.reverse_reverse l]
  induction l.reverse with
  | nil => simp [valN]
  | cons c r ih =>
    rw [List.reverse_cons, valN_snoc, List.length_append, Nat.pow_add]
    have := c.toNat_lt
    simp only [List.length_cons, List.length_nil, Nat.zero_add, Nat.pow_one]
    omega
theorem valN_lt8 (l : List UInt8) (k : Nat) (_ : k ≤ 8) (hl : l.length ≤ k) : valN 0 l < 256 ^ k := Nat.lt_of_lt_of_le (valN_lt l) (Nat.pow_le_pow_right (by omega) hl)
theorem or_byte (n y : Nat) (hn : n < 256 ^ 7) (hy : y < 256) : bits BinOp.or IntKind.u64 ((n : Int) * 256) (y : Int) = ((n * 256 + y : Nat) : Int) := by
  have h := bits_or_u64_nat (n * 256) y (by omega) (by omega)
  rw [Int.natCast_mul] at h
  have e : n * 256 ||| y = n * 256 + y := by
    have := Nat.shiftLeft_add_eq_or_of_lt (b := y) (i := 8) (by omega) n
    rw [Nat.shiftLeft_eq, show 2 ^ 8 = 256 from rfl] at this
    omega
  rw [e] at h
  exact h
theorem add0 (a : Addr) : a.add 0 = a := by simp [Addr.add]

section
variable (w : World) (g : Nat) (s : Rs)
set_option maxRecDepth 100000 in
set_option maxHeartbeats 2000000 in
theorem rnum_any (h : RdrT w g s) (hl : s.2.length ≤ 1073741824) : Calls Tryd.prog 76 #[.pointer (some ⟨g, 0, none⟩)] w fun e w' => e = .returned (.int .u64 (numR s).1) ∧ RdrT w' g (numR s).2 ∧ GrX w w' g := by
  have HT := Lib.hid (take_any w g 1 s h hl)
  have HOk := Lib.hid rok_any
  have HFail := Lib.hid rfail_any
  have hlt := takeD_len s 1
  have hbad := @takeD_bad s 1
  have hok := @takeD_ok s 1
  have eN : numR s = (if (takeD s 1).2.1 = true ∨ 8 < ((takeD s 1).1.getD 0 0).toNat then (0, (true, (takeD s 1).2.2)) else
    if (takeD (takeD s 1).2 ((takeD s 1).1.getD 0 0).toNat).2.1 = true ∨ (0 < (takeD (takeD s 1).2 ((takeD s 1).1.getD 0 0).toNat).1.length ∧ (takeD (takeD s 1).2 ((takeD s 1).1.getD 0 0).toNat).1.getD 0 0 = 0) then (0, (true, (takeD (takeD s 1).2 ((takeD s 1).1.getD 0 0).toNat).2.2)) else (valN 0 (takeD (takeD s 1).2 ((takeD s 1).1.getD 0 0).toNat).1, (takeD (takeD s 1).2 ((takeD s 1).1.getD 0 0).toNat).2)) := rfl
  rw [eN]
  clear eN
  generalize takeD s 1 = t at *
  obtain ⟨tl, tf, tr⟩ := t
  dsimp only at *
  cases tf
  · have h1 := hok rfl
    obtain ⟨b, rfl⟩ : ∃ b, tl = [b] := by
      match tl, h1 with
      | [b], _ => exact ⟨b, rfl⟩
    clear hbad hok
    simp only [List.getD_cons_zero, Bool.false_eq_true, false_or]
    have hb256 := b.toNat_lt
    rcases (by omega : 8 < b.toNat ∨ b.toNat ≤ 8) with hb8 | hb8
    · rw [if_pos hb8]
      go_enter Tryd.func76, Tryd.ntmps76
      go_wp2_with (first
        | (go_at_call 52; (with_reducible refine (HT.out).mono ?_); rintro e w1 ⟨v1, rfl, ho1, hr1, hx1⟩
           obtain ⟨A1, c1, rfl, hc1, hR1⟩ := ho1.rd
           obtain ⟨ad1, x1, rfl, hlt1, hx, hcell⟩ := hR1.byte rfl 0 (by simp)
           simp only [List.getElem?_cons_zero, Option.some.injEq] at hx
           subst hx
           rw [add0] at hcell)
        | (go_at_call 53; (with_reducible refine (HOk.out _ g _ hr1).mono ?_); rintro e w2 ⟨rfl, rfl⟩)
        | (go_at_call 75; (with_reducible refine (HFail.out _ g _ hr1).mono ?_); rintro e w3 ⟨⟨v3, rfl⟩, hr3, hx3⟩))
      go_ret
      exact ⟨rfl, hr3, GrX.trans hx1 hx3⟩
    · rw [if_neg (by omega)]
      have HT2 := Lib.hid (fun w1 h => take_any w1 g b.toNat (false, tr) h (by dsimp only; omega))
      have hlu := takeD_len (false, tr) b.toNat
      have hbadu := @takeD_bad (false, tr) b.toNat
      have hoku := @takeD_ok (false, tr) b.toNat
      generalize takeD (false, tr) b.toNat = u at *
      obtain ⟨ul, uf, ur⟩ := u
      dsimp only at *
      cases uf
      · have h2 := hoku rfl
        clear hbadu hoku
        simp only [Bool.false_eq_true, false_or]
        rcases ul with _ | ⟨x, r⟩
        · simp only [List.length_nil, Nat.lt_irrefl, false_and, if_false]
          have HB0 := Lib.hid (show b.toNat = 0 by simpa using h2.symm)
          clear h2
          go_enter Tryd.func76, Tryd.ntmps76
          go_wp2_with (first
              | (go_at_call 52; (with_reducible refine (HT.out).mono ?_); rintro e w1 ⟨v1, rfl, ho1, hr1, hx1⟩
                 obtain ⟨A1, c1, rfl, hc1, hR1⟩ := ho1.rd
                 obtain ⟨ad1, x1, rfl, hlt1, hx, hcell⟩ := hR1.byte rfl 0 (by simp)
                 simp only [List.getElem?_cons_zero, Option.some.injEq] at hx
                 subst hx
                 rw [add0] at hcell)
              | (go_at_call 52; (with_reducible refine (HT2.out _ hr1).mono ?_); rintro e w2 ⟨v2, rfl, ho2, hr2, hx2⟩
                 obtain ⟨A2, c2, rfl, hc2, hR2⟩ := ho2.rd)
              | (go_at_call 53; (with_reducible refine (HOk.out _ g _ hr2).mono ?_); rintro e w3 ⟨rfl, rfl⟩)
              | (go_at_call 53; (with_reducible refine (HOk.out _ g _ hr1).mono ?_); rintro e w3 ⟨rfl, rfl⟩))
          all_goals (try (exfalso; have := HB0.out; omega))
          refine wp_loop_rounds 1 ?_
          rw [rounds_succ]
          go_wp2
          go_ret
          exact ⟨rfl, hr2, GrX.trans hx1 hx2⟩
        · have hb0 : 0 < b.toNat := by simp only [List.length_cons] at h2; omega
          simp only [List.getD_cons_zero, List.length_cons, Nat.zero_lt_succ, true_and]
          by_cases hx0 : x = 0
          · rw [if_pos hx0]
            subst hx0
            have hx0 : (UInt8.toNat 0 : Int) = 0 := rfl
            go_enter Tryd.func76, Tryd.ntmps76
            go_wp2_with (first
              | (go_at_call 52; (with_reducible refine (HT.out).mono ?_); rintro e w1 ⟨v1, rfl, ho1, hr1, hx1⟩
                 obtain ⟨A1, c1, rfl, hc1, hR1⟩ := ho1.rd
                 obtain ⟨ad1, x1, rfl, hlt1, hx, hcell⟩ := hR1.byte rfl 0 (by simp)
                 simp only [List.getElem?_cons_zero, Option.some.injEq] at hx
                 subst hx
                 rw [add0] at hcell)
              | (go_at_call 52; (with_reducible refine (HT2.out _ hr1).mono ?_); rintro e w2 ⟨v2, rfl, ho2, hr2, hx2⟩
                 obtain ⟨A2, c2, rfl, hc2, hR2⟩ := ho2.rd
                 obtain ⟨ad2, x2, rfl, hlt2, hx, hcell2⟩ := hR2.byte rfl 0 (by simp)
                 simp only [List.getElem?_cons_zero, Option.some.injEq] at hx
                 subst hx
                 rw [add0] at hcell2)
              | (go_at_call 53; (with_reducible refine (HOk.out _ g _ hr2).mono ?_); rintro e w3 ⟨rfl, rfl⟩)
              | (go_at_call 53; (with_reducible refine (HOk.out _ g _ hr1).mono ?_); rintro e w3 ⟨rfl, rfl⟩)
              | (go_at_call 75; (with_reducible refine (HFail.out _ g _ hr2).mono ?_); rintro e w4 ⟨⟨v3, rfl⟩, hr3, hx3⟩))
            go_ret
            exact ⟨rfl, hr3, GrX.trans (GrX.trans hx1 hx2) hx3⟩
          · rw [if_neg hx0]
            have hx1 : ¬ (x.toNat : Int) = 0 := fun e => hx0 (UInt8.toNat_inj.1 (by simpa using (by omega : x.toNat = 0)))
            go_enter Tryd.func76, Tryd.ntmps76
            go_wp2_with (first
              | (go_at_call 52; (with_reducible refine (HT.out).mono ?_); rintro e w1 ⟨v1, rfl, ho1, hr1, hx1⟩
                 obtain ⟨A1, c1, rfl, hc1, hR1⟩ := ho1.rd
                 obtain ⟨ad1, x1, rfl, hlt1, hx, hcell⟩ := hR1.byte rfl 0 (by simp)
                 simp only [List.getElem?_cons_zero, Option.some.injEq] at hx
                 subst hx
                 rw [add0] at hcell)
              | (go_at_call 52; (with_reducible refine (HT2.out _ hr1).mono ?_); rintro e w2 ⟨v2, rfl, ho2, hr2, hx2⟩
                 obtain ⟨A2, c2, rfl, hc2, hR2⟩ := ho2.rd
                 obtain ⟨ad2, x2, rfl, hlt2, hx, hcell2⟩ := hR2.byte rfl 0 (by simp)
                 simp only [List.getElem?_cons_zero, Option.some.injEq] at hx
                 subst hx
                 rw [add0] at hcell2)
              | (go_at_call 53; (with_reducible refine (HOk.out _ g _ hr2).mono ?_); rintro e w3 ⟨rfl, rfl⟩)
              | (go_at_call 53; (with_reducible refine (HOk.out _ g _ hr1).mono ?_); rintro e w3 ⟨rfl, rfl⟩))
            have hlen : (x :: r).length = b.toNat := h2
            go_loop [5, 45] (fun v5 v45 => ∃ k : Nat, v45 = .int .i64 k ∧ k ≤ b.toNat ∧ v5 = .int .u64 (valN 0 ((x :: r).take k) : Nat)) (fun _ v45 => b.toNat - (intOf v45).toNat)
            case atStart => exact ⟨0, rfl, by omega, rfl⟩
            case round =>
              obtain ⟨k, rfl, hk, rfl⟩ := hrel
              by_cases hlt : k < b.toNat
              · obtain ⟨ad3, y, hy, hlt3, hx, hc3⟩ := hR2.byte rfl k (by omega)
                obtain rfl := Option.some.inj hy
                have hv := valN_lt8 ((x :: r).take k) 7 (by omega) (by rw [List.length_take]; omega)
                have hn := take_next hx
                have hsn := valN_snoc 0 ((x :: r).take k) y
                rw [← hn] at hsn
                have hy256 := y.toNat_lt
                generalize valN 0 ((x :: r).take k) = n at *
                go_wp2
                go_round
                case rel => exact ⟨k + 1, by go_num, by omega, by rw [or_byte n y.toNat hv hy256, hsn]⟩
                case measure => simp [intOf]; omega
              · obtain rfl : k = b.toNat := by omega
                rw [← hlen, List.take_length]
                go_wp2
                go_ret
                exact ⟨rfl, hr2, GrX.trans hx1 hx2⟩
      · have h2 := hbadu rfl
        subst h2
        simp only [true_or, if_true]
        go_enter Tryd.func76, Tryd.ntmps76
        go_wp2_with (first
          | (go_at_call 52; (with_reducible refine (HT.out).mono ?_); rintro e w1 ⟨v1, rfl, ho1, hr1, hx1⟩
             obtain ⟨A1, c1, rfl, hc1, hR1⟩ := ho1.rd
             obtain ⟨ad1, x1, rfl, hlt1, hx, hcell⟩ := hR1.byte rfl 0 (by simp)
             simp only [List.getElem?_cons_zero, Option.some.injEq] at hx
             subst hx
             rw [add0] at hcell)
          | (go_at_call 52; (with_reducible refine (HT2.out _ hr1).mono ?_); rintro e w2 ⟨v2, rfl, ho2, hr2, hx2⟩)
          | (go_at_call 53; (with_reducible refine (HOk.out _ g _ hr2).mono ?_); rintro e w3 ⟨rfl, rfl⟩)
          | (go_at_call 53; (with_reducible refine (HOk.out _ g _ hr1).mono ?_); rintro e w3 ⟨rfl, rfl⟩)
          | (go_at_call 75; (with_reducible refine (HFail.out _ g _ hr2).mono ?_); rintro e w4 ⟨⟨v3, rfl⟩, hr3, hx3⟩))
        go_ret
        exact ⟨rfl, hr3, GrX.trans (GrX.trans hx1 hx2) hx3⟩
  · have h1 := hbad rfl
    subst h1
    simp only [if_true, true_or]
    go_enter Tryd.func76, Tryd.ntmps76
    go_wp2_with (first
      | (go_at_call 52; (with_reducible refine (HT.out).mono ?_); rintro e w1 ⟨v1, rfl, ho1, hr1, hx1⟩)
      | (go_at_call 53; (with_reducible refine (HOk.out _ g _ hr1).mono ?_); rintro e w2 ⟨rfl, rfl⟩)
      | (go_at_call 75; (with_reducible refine (HFail.out _ g _ hr1).mono ?_); rintro e w3 ⟨⟨v3, rfl⟩, hr3, hx3⟩))
    go_ret
    exact ⟨rfl, hr3, GrX.trans hx1 hx3⟩

theorem numR_lt (s : Rs) : (numR s).1 < 256 ^ 8 := by
  unfold numR
  dsimp only
  split
  · exact Nat.pow_pos (by omega)
  · rename_i h0
    split
    · exact Nat.pow_pos (by omega)
    · rename_i h1
      refine valN_lt8 _ 8 (by omega) ?_
      have := takeD_ok (s := (takeD s 1).2) (n := ((takeD s 1).1.getD 0 0).toNat) (by
        cases h : (takeD (takeD s 1).2 ((takeD s 1).1.getD 0 0).toNat).2.1 with
        | false => rfl
        | true => exact absurd (Or.inl h) h1)
      omega
theorem numR_len (s : Rs) : (numR s).2.2.length ≤ s.2.length := by
  have h1 := takeD_len s 1
  have h2 := takeD_len (takeD s 1).2 ((takeD s 1).1.getD 0 0).toNat
  unfold numR
  dsimp only
  split
  · exact h1
  · split <;> dsimp only <;> omega
theorem countR_len (s : Rs) (m : Nat) : (countR s m).2.2.length ≤ s.2.length := by
  have := numR_len s
  unfold countR
  dsimp only
  split <;> exact this
theorem countR_le (s : Rs) (m : Nat) : (countR s m).1 ≤ m := by
  unfold countR
  dsimp only
  split
  · exact Nat.zero_le _
  · omega
theorem textR_len (s : Rs) (m : Nat) : (textR s m).2.2.length ≤ s.2.length := Nat.le_trans (takeD_len _ _) (countR_len s m)

set_option maxRecDepth 100000 in
theorem rcount_any (m : Nat) (hm : m ≤ 9223372036854775807) (h : RdrT w g s) (hl : s.2.length ≤ 1073741824) : Calls Tryd.prog 54 #[.pointer (some ⟨g, 0, none⟩), .int .i64 m] w fun e w' => e = .returned (.int .i64 (countR s m).1) ∧ RdrT w' g (countR s m).2 ∧ GrX w w' g := by
  have HN := Lib.hid (rnum_any w g s h hl)
  have HFail := Lib.hid rfail_any
  have h8 := numR_lt s
  have eC : countR s m = (if m < (numR s).1 then (0, (true, (numR s).2.2)) else numR s) := rfl
  rw [eC]
  clear eC
  generalize numR s = t at *
  obtain ⟨n, f, r⟩ := t
  dsimp only at *
  by_cases hn : m < n
  · rw [if_pos hn]
    go_enter Tryd.func54, Tryd.ntmps54
    go_wp2_with (first
      | (go_at_call 76; (with_reducible refine (HN.out).mono ?_); rintro e w1 ⟨rfl, hr1, hx1⟩)
      | (go_at_call 75; (with_reducible refine (HFail.out _ g _ hr1).mono ?_); rintro e w3 ⟨⟨v3, rfl⟩, hr3, hx3⟩))
    all_goals (try (exfalso; omega))
    go_ret
    exact ⟨rfl, hr3, GrX.trans hx1 hx3⟩
  · rw [if_neg hn]
    go_enter Tryd.func54, Tryd.ntmps54
    go_wp2_with (first
      | (go_at_call 76; (with_reducible refine (HN.out).mono ?_); rintro e w1 ⟨rfl, hr1, hx1⟩))
    all_goals (try (exfalso; omega))
    go_ret
    exact ⟨rfl, hr1, hx1⟩
set_option maxRecDepth 100000 in
theorem rtext_any (m : Nat) (hm : m ≤ 9223372036854775807) (h : RdrT w g s) (hl : s.2.length ≤ 1073741824) : Calls Tryd.prog 55 #[.pointer (some ⟨g, 0, none⟩), .int .i64 m] w fun e w' => ∃ v, e = .returned v ∧ OwnB w' w.heap.size v (textR s m).1 ∧ RdrT w' g (textR s m).2 ∧ GrX w w' g := by
  have HC := Lib.hid (rcount_any w g s m hm h hl)
  have hle := countR_len s m
  have HT := Lib.hid take_any
  have eT : textR s m = takeD (countR s m).2 (countR s m).1 := rfl
  rw [eT]
  clear eT
  generalize countR s m = t at *
  obtain ⟨n, f, r⟩ := t
  dsimp only at *
  go_enter Tryd.func55, Tryd.ntmps55
  go_wp2_with (first
    | (go_at_call 54; (with_reducible refine (HC.out).mono ?_); rintro e w1 ⟨rfl, hr1, hx1⟩)
    | (go_at_call 52; (with_reducible refine (HT.out _ g _ _ hr1 (by dsimp only; omega)).mono ?_); rintro e w2 ⟨v2, rfl, ho2, hr2, hx2⟩))
  go_ret
  exact ⟨_, rfl, ho2.lower hx1.size, hr2, GrX.trans hx1 hx2⟩
end
end Go.Proofs.YteoidkjiigjlaaaDoor
