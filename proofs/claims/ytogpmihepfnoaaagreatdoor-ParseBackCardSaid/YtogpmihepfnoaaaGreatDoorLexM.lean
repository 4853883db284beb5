/- The reference's token at a place: brackets, quotes, days. -/
import Derived.Test.YtogpmihepfnoaaaGreatDoorLexN
namespace Go.Proofs.YtogpmihepfnoaaaGreatDoor
open Go Go.RowKit

set_option maxRecDepth 100000 in
theorem rone_40 (s : ByteArray) (i : Nat) (w : World) (hs : s.size ≤ 10000) (hi : i < s.size) (hc : s[i] = 40) : Calls Tryz.prog 43 #[.string s, .int .i64 (i : Int)] w fun e w' =>
    e = .returned (.tuple #[.agg (tkC 4 ⟨#[40]⟩ 0 i), .int .i64 ((i + 1 : Nat) : Int), .int .i64 0]) ∧ Gr w w' := by
  have hib : (i : Int) ≤ 10000 := by omega
  go_enter Tryz.func43, Tryz.ntmps43
  go_wp2
  have hB := Blk.new w 82 (tkC 0 ⟨#[]⟩ 0 0)
  obtain ⟨z0, z1, z2, z3, -⟩ := tk_cells (hB.tk4 (y0 := .int .i64 4) (y1 := .string ⟨#[40]⟩) (y2 := .int .i64 0) (y3 := .int .i64 (i : Int)))
  exact bodyPost_ret (v := .tuple #[.agg (tkC 4 ⟨#[40]⟩ 0 i), .int .i64 ((i + 1 : Nat) : Int), .int .i64 0]) (by simp [results, Tryz.results43, go_sem]) rfl ⟨rfl, Gr.alloc _ _⟩
set_option maxRecDepth 100000 in
theorem rone_41 (s : ByteArray) (i : Nat) (w : World) (hs : s.size ≤ 10000) (hi : i < s.size) (hc : s[i] = 41) : Calls Tryz.prog 43 #[.string s, .int .i64 (i : Int)] w fun e w' =>
    e = .returned (.tuple #[.agg (tkC 5 ⟨#[41]⟩ 0 i), .int .i64 ((i + 1 : Nat) : Int), .int .i64 0]) ∧ Gr w w' := by
  have hib : (i : Int) ≤ 10000 := by omega
  go_enter Tryz.func43, Tryz.ntmps43
  go_wp2
  have hB := Blk.new w 82 (tkC 0 ⟨#[]⟩ 0 0)
  obtain ⟨z0, z1, z2, z3, -⟩ := tk_cells (hB.tk4 (y0 := .int .i64 5) (y1 := .string ⟨#[41]⟩) (y2 := .int .i64 0) (y3 := .int .i64 (i : Int)))
  exact bodyPost_ret (v := .tuple #[.agg (tkC 5 ⟨#[41]⟩ 0 i), .int .i64 ((i + 1 : Nat) : Int), .int .i64 0]) (by simp [results, Tryz.results43, go_sem]) rfl ⟨rfl, Gr.alloc _ _⟩
set_option maxRecDepth 100000 in
theorem rone_59 (s : ByteArray) (i : Nat) (w : World) (hs : s.size ≤ 10000) (hi : i < s.size) (hc : s[i] = 59) : Calls Tryz.prog 43 #[.string s, .int .i64 (i : Int)] w fun e w' =>
    e = .returned (.tuple #[.agg (tkC 6 ⟨#[59]⟩ 0 i), .int .i64 ((i + 1 : Nat) : Int), .int .i64 0]) ∧ Gr w w' := by
  have hib : (i : Int) ≤ 10000 := by omega
  go_enter Tryz.func43, Tryz.ntmps43
  go_wp2
  have hB := Blk.new w 82 (tkC 0 ⟨#[]⟩ 0 0)
  obtain ⟨z0, z1, z2, z3, -⟩ := tk_cells (hB.tk4 (y0 := .int .i64 6) (y1 := .string ⟨#[59]⟩) (y2 := .int .i64 0) (y3 := .int .i64 (i : Int)))
  exact bodyPost_ret (v := .tuple #[.agg (tkC 6 ⟨#[59]⟩ 0 i), .int .i64 ((i + 1 : Nat) : Int), .int .i64 0]) (by simp [results, Tryz.results43, go_sem]) rfl ⟨rfl, Gr.alloc _ _⟩
set_option maxRecDepth 100000 in
theorem rone_other (s : ByteArray) (i : Nat) (c : UInt8) (w : World) (hs : s.size ≤ 10000) (hi : i < s.size) (hc : s[i] = c) (h1 : c.toNat ≠ 40) (h2 : c.toNat ≠ 41) (h3 : c.toNat ≠ 59) (h4 : lowB c = false) (h5 : c.toNat ≠ 34) (h6 : digB c = false) : Calls Tryz.prog 43 #[.string s, .int .i64 (i : Int)] w fun e w' =>
    e = .returned (.tuple #[.agg (tkC 0 ⟨#[]⟩ 0 0), .int .i64 (i : Int), .int .i64 2]) ∧ Gr w w' := by
  have c1 := fun W => rlow_any c W
  have c2 := fun W => rdigit_any c W
  simp only [h4] at c1
  simp only [h6] at c2
  have t1 : ((c.toNat : Int) == 40) = false := by simp; omega
  have t2 : ((c.toNat : Int) == 41) = false := by simp; omega
  have t3 : ((c.toNat : Int) == 59) = false := by simp; omega
  have t5 : ((c.toNat : Int) == 34) = false := by simp; omega
  have hib : (i : Int) ≤ 10000 := by omega
  clear h1 h2 h3 h4 h5 h6
  go_enter Tryz.func43, Tryz.ntmps43
  go_wp2_with (first
      | (go_at_call 68; (with_reducible refine (c1 _).mono ?_); rintro e w1 ⟨rfl, rfl⟩)
      | (go_at_call 69; (with_reducible refine (c2 _).mono ?_); rintro e w2 ⟨rfl, rfl⟩))
  have hB := Blk.new w 82 (tkC 0 ⟨#[]⟩ 0 0)
  obtain ⟨z0, z1, z2, z3, -⟩ := tk_cells (hB.tk4 (y0 := .int .i64 0) (y1 := .string ⟨#[]⟩) (y2 := .int .i64 0) (y3 := .int .i64 0))
  exact bodyPost_ret (v := .tuple #[.agg (tkC 0 ⟨#[]⟩ 0 0), .int .i64 (i : Int), .int .i64 2]) (by simp [results, Tryz.results43, go_sem]) rfl ⟨rfl, Gr.alloc _ _⟩
set_option maxRecDepth 100000 in
set_option maxHeartbeats 2000000 in
theorem rone_quote (s : ByteArray) (i : Nat) (r : List UInt8) (w : World) (hs : s.size ≤ 10000) (hi : i < s.size) (hc : s[i] = 34) (hr : s.data.toList.drop (i + 1) = r) (out : Value)
    (o1 : runL qtB r < r.length ∧ nameD (ba (r.take (runL qtB r))) = true → out = .tuple #[.agg (tkC 2 (ba (r.take (runL qtB r))) 0 i), .int .i64 ((i + (runL qtB r + 2) : Nat) : Int), .int .i64 0])
    (o2 : ¬ (runL qtB r < r.length ∧ nameD (ba (r.take (runL qtB r))) = true) → out = .tuple #[.agg (tkC 0 ⟨#[]⟩ 0 0), .int .i64 (i : Int), .int .i64 2]) :
    Calls Tryz.prog 43 #[.string s, .int .i64 (i : Int)] w fun e w' => e = .returned out ∧ Gr w w' := by
  have c1 : ∀ W, Calls Tryz.prog 68 #[.int .u8 34] W fun e w' => e = .returned (.bool false) ∧ W = w' := fun W => rlow_any 34 W
  have hrl : r.length = s.size - (i + 1) := by rw [← hr, List.length_drop, size_list]
  have hle := runL_le qtB r
  have cN := fun W => refname_any (ba (r.take (runL qtB r))) W (by rw [ba_size, List.length_take]; omega)
  have hx := ext_at s (i + 1) (runL qtB r)
  rw [hr] at hx
  have hib : (i : Int) ≤ 10000 := by omega
  have HRR := Lib.hid hr
  have HRL := Lib.hid hrl
  clear hr hrl
  generalize hN : runL qtB r = q at *
  generalize hT : ba (r.take q) = tx at *
  have HN := Lib.hid hN
  have HX := Lib.hid hx
  have O1 := Lib.hid o1
  have O2 := Lib.hid o2
  clear hN hx hT o1 o2
  go_enter Tryz.func43, Tryz.ntmps43
  go_wp2_with (first
      | (go_at_call 68; (with_reducible refine (c1 _).mono ?_); rintro e w1 ⟨rfl, rfl⟩)
      | (go_at_call 29; (with_reducible refine (cN _).mono ?_); rintro e w3 ⟨rfl, rfl⟩))
  go_loop [8] (fun v8 => ∃ j : Nat, v8 = .int .i64 (j : Int) ∧ i + 1 ≤ j ∧ j ≤ s.size ∧ j + runL qtB (s.data.toList.drop j) = i + 1 + q) (fun v8 => s.size - (intOf v8).toNat)
  case atStart => exact ⟨i + 1, by go_num, Nat.le_refl _, by omega, by rw [HRR.out, HN.out]⟩
  case round =>
    obtain ⟨j, rfl, hij, hj, hjc⟩ := hrel
    have hjb : (j : Int) ≤ 10000 := by omega
    have hijb : (i : Int) + 1 ≤ j := by omega
    by_cases hjl : j < s.size
    · have hdj := drop_at s j hjl
      rw [hdj] at hjc
      clear hdj
      generalize hgj : s[j] = d at *
      by_cases h34 : d.toNat = 34
      · have hn : qtB d = false := by
          have : d = 34 := UInt8.toNat_inj.mp h34
          rw [this]; rfl
        rw [runL_cons_no hn] at hjc
        have n34 : ((d.toNat : Int) != 34) = false := by simp; omega
        obtain rfl : j = i + 1 + q := by omega
        have hx := HX.out
        have hql : q < r.length := by have := HRL.out; omega
        clear hn h34 hjc
        rcases hb : nameD tx with _ | _
        · simp only [hb] at cN
          have HB := Lib.hid (show ¬ (q < r.length ∧ nameD tx = true) by rw [hb]; simp)
          clear hb
          go_wp2_with (first
      | (go_at_call 68; (with_reducible refine (c1 _).mono ?_); rintro e w1 ⟨rfl, rfl⟩)
      | (go_at_call 29; (with_reducible refine (cN _).mono ?_); rintro e w3 ⟨rfl, rfl⟩))
          have hB := Blk.new w 82 (tkC 0 ⟨#[]⟩ 0 0)
          obtain ⟨z0, z1, z2, z3, -⟩ := tk_cells (hB.tk4 (y0 := .int .i64 0) (y1 := .string ⟨#[]⟩) (y2 := .int .i64 0) (y3 := .int .i64 0))
          exact bodyPost_ret (v := .tuple #[.agg (tkC 0 ⟨#[]⟩ 0 0), .int .i64 (i : Int), .int .i64 2]) (by simp [results, Tryz.results43, go_sem]) rfl ⟨by rw [O2.out HB.out], Gr.alloc _ _⟩
        · simp only [hb] at cN
          have HB := Lib.hid (show (q < r.length ∧ nameD tx = true) from ⟨hql, hb⟩)
          clear hb
          go_wp2_with (first
      | (go_at_call 68; (with_reducible refine (c1 _).mono ?_); rintro e w1 ⟨rfl, rfl⟩)
      | (go_at_call 29; (with_reducible refine (cN _).mono ?_); rintro e w3 ⟨rfl, rfl⟩))
          have hB := Blk.new w 82 (tkC 0 ⟨#[]⟩ 0 0)
          obtain ⟨z0, z1, z2, z3, -⟩ := tk_cells (hB.tk4 (y0 := .int .i64 2) (y1 := .string tx) (y2 := .int .i64 0) (y3 := .int .i64 (i : Int)))
          exact bodyPost_ret (v := .tuple #[.agg (tkC 2 tx 0 (i : Int)), .int .i64 ((i + (q + 2) : Nat) : Int), .int .i64 0]) (by simp [results, Tryz.results43, go_sem]; omega) rfl ⟨by rw [O1.out HB.out], Gr.alloc _ _⟩
      · have hn : qtB d = true := by
          unfold qtB
          rw [bne_iff_ne]
          intro h
          subst h
          exact h34 rfl
        rw [runL_cons_yes hn] at hjc
        have n34 : ((d.toNat : Int) != 34) = true := by simp; omega
        have HJC := Lib.hid hjc
        clear hn h34 hjc
        go_wp2
        go_round
        case rel => exact ⟨j + 1, by go_num, by omega, by omega, by have := HJC.out; omega⟩
        case measure => simp [intOf]; omega
    · obtain rfl : j = s.size := by omega
      have e0 : s.data.toList.drop s.size = [] := List.drop_eq_nil_of_le (by rw [size_list]; exact Nat.le_refl _)
      have e1 : runL qtB ([] : List UInt8) = 0 := rfl
      rw [e0, e1] at hjc
      have HB := Lib.hid (show ¬ (q < r.length ∧ nameD tx = true) by have := HRL.out; omega)
      clear hjc e0 e1
      go_wp2_with (first
      | (go_at_call 68; (with_reducible refine (c1 _).mono ?_); rintro e w1 ⟨rfl, rfl⟩)
      | (go_at_call 29; (with_reducible refine (cN _).mono ?_); rintro e w3 ⟨rfl, rfl⟩))
      have hB := Blk.new w 82 (tkC 0 ⟨#[]⟩ 0 0)
      obtain ⟨z0, z1, z2, z3, -⟩ := tk_cells (hB.tk4 (y0 := .int .i64 0) (y1 := .string ⟨#[]⟩) (y2 := .int .i64 0) (y3 := .int .i64 0))
      exact bodyPost_ret (v := .tuple #[.agg (tkC 0 ⟨#[]⟩ 0 0), .int .i64 (i : Int), .int .i64 2]) (by simp [results, Tryz.results43, go_sem]) rfl ⟨by rw [O2.out HB.out], Gr.alloc _ _⟩
set_option maxRecDepth 100000 in
set_option maxHeartbeats 2000000 in
theorem rone_dig (s : ByteArray) (i : Nat) (c : UInt8) (r : List UInt8) (w : World) (hs : s.size ≤ 10000) (hi : i < s.size) (hc : s[i] = c) (hd : digB c = true) (hr : s.data.toList.drop i = c :: r) (out : Value)
    (o1 : runL digB (c :: r) < (c :: r).length ∧ lowB ((c :: r).getD (runL digB (c :: r)) 0) = true → (parseD (ba ((c :: r).take (runL digB (c :: r) + 1)))).2 = 0 → out = (.tuple #[.agg (tkC 3 (ba ((c :: r).take (runL digB (c :: r) + 1))) (parseD (ba ((c :: r).take (runL digB (c :: r) + 1)))).1 i), .int .i64 ((i + (runL digB (c :: r) + 1) : Nat) : Int), .int .i64 0]))
    (o2 : runL digB (c :: r) < (c :: r).length ∧ lowB ((c :: r).getD (runL digB (c :: r)) 0) = true → (parseD (ba ((c :: r).take (runL digB (c :: r) + 1)))).2 ≠ 0 → out = (.tuple #[.agg (tkC 0 ⟨#[]⟩ 0 0), .int .i64 (i : Int), .int .i64 (parseD (ba ((c :: r).take (runL digB (c :: r) + 1)))).2]))
    (o3 : ¬ (runL digB (c :: r) < (c :: r).length ∧ lowB ((c :: r).getD (runL digB (c :: r)) 0) = true) → out = (.tuple #[.agg (tkC 0 ⟨#[]⟩ 0 0), .int .i64 (i : Int), .int .i64 2])) :
    Calls Tryz.prog 43 #[.string s, .int .i64 (i : Int)] w fun e w' => e = .returned out ∧ Gr w w' := by
  have h2 := digB_iff.1 hd
  have t40 : ((c.toNat : Int) == 40) = false := by simp; omega
  have t41 : ((c.toNat : Int) == 41) = false := by simp; omega
  have t59 : ((c.toNat : Int) == 59) = false := by simp; omega
  have t34 : ((c.toNat : Int) == 34) = false := by simp; omega
  have hl : lowB c = false := lowB_no (by omega)
  have c1 := fun W => rlow_any c W
  have c2 := fun W => rdigit_any c W
  simp only [hl] at c1
  simp only [hd] at c2
  have hrl : (c :: r).length = s.size - i := by rw [← hr, List.length_drop, size_list]
  have hle := runL_le digB (c :: r)
  have hgd : ∀ j (h : j < s.size), i ≤ j → s[j] = (c :: r).getD (j - i) 0 := by
    intro j h hij
    rw [← hr, List.getD_eq_getElem?_getD, List.getElem?_drop, show i + (j - i) = j by omega, List.getElem?_eq_getElem (by rw [size_list]; exact h)]
    rfl
  have cP := fun W => refparse_any (ba ((c :: r).take (runL digB (c :: r) + 1))) W (by rw [ba_size, List.length_take]; omega)
  rw [← parse_num] at cP
  have hx := ext_at s i (runL digB (c :: r) + 1)
  rw [hr] at hx
  have hib : (i : Int) ≤ 10000 := by omega
  have HRR := Lib.hid hr
  have HRL := Lib.hid hrl
  clear hr hrl hl hd h2
  generalize c :: r = cr at *
  generalize hN : runL digB cr = q at *
  generalize hT : ba (cr.take (q + 1)) = tx at *
  generalize hPD : parseD tx = pd at *
  obtain ⟨pn, pe⟩ := pd
  dsimp only at *
  have HN := Lib.hid hN
  have HX := Lib.hid hx
  have HG := Lib.hid hgd
  have O1 := Lib.hid o1
  have O2 := Lib.hid o2
  have O3 := Lib.hid o3
  clear hN hx hT hPD hgd o1 o2 o3
  go_enter Tryz.func43, Tryz.ntmps43
  go_wp2_with (first
      | (go_at_call 68; (with_reducible refine (c1 _).mono ?_); rintro e w1 ⟨rfl, rfl⟩)
      | (go_at_call 69; (with_reducible refine (c2 _).mono ?_); rintro e w2 ⟨rfl, rfl⟩))
  clear c1 c2
  go_loop [8] (fun v8 => ∃ j : Nat, v8 = .int .i64 (j : Int) ∧ i ≤ j ∧ j ≤ s.size ∧ j + runL digB (s.data.toList.drop j) = i + q) (fun v8 => s.size - (intOf v8).toNat)
  case atStart => exact ⟨i, rfl, Nat.le_refl _, Nat.le_of_lt hi, by rw [HRR.out, HN.out]⟩
  case round =>
    obtain ⟨j, rfl, hij, hj, hjc⟩ := hrel
    have hjb : (j : Int) ≤ 10000 := by omega
    by_cases hjl : j < s.size
    · have hdj := drop_at s j hjl
      have hgj2 := HG.out j hjl hij
      rw [hdj] at hjc
      clear hdj
      generalize hgj : s[j] = d at *
      have c3 := fun W => rlow_any d W
      have c4 := fun W => rdigit_any d W
      cases hdd : digB d with
      | true =>
        rw [runL_cons_yes hdd] at hjc
        have HJC := Lib.hid hjc
        simp only [hdd] at c4
        clear hdd hjc hgj2
        go_wp2_with (first
      | (go_at_call 68; (with_reducible refine (c3 _).mono ?_); rintro e w1 ⟨rfl, rfl⟩)
      | (go_at_call 69; (with_reducible refine (c4 _).mono ?_); rintro e w2 ⟨rfl, rfl⟩)
      | (go_at_call 70; (with_reducible refine (cP _).mono ?_); rintro e w3 ⟨rfl, rfl⟩))
        go_round
        case rel => exact ⟨j + 1, by go_num, by omega, by omega, by have := HJC.out; omega⟩
        case measure => simp [intOf]; omega
      | false =>
        rw [runL_cons_no hdd] at hjc
        obtain rfl : j = i + q := by omega
        have hx := HX.out
        rw [show i + (q + 1) = i + q + 1 by omega] at hx
        have hql : q < cr.length := by have := HRL.out; omega
        rw [show i + q - i = q by omega] at hgj2
        simp only [hdd] at c4
        clear hjc hdd
        cases hld : lowB d with
        | false =>
          simp only [hld] at c3
          have HB := Lib.hid (show ¬ (q < cr.length ∧ lowB (cr.getD q 0) = true) by rw [← hgj2, hld]; simp)
          clear hld hgj2
          go_wp2_with (first
      | (go_at_call 68; (with_reducible refine (c3 _).mono ?_); rintro e w1 ⟨rfl, rfl⟩)
      | (go_at_call 69; (with_reducible refine (c4 _).mono ?_); rintro e w2 ⟨rfl, rfl⟩)
      | (go_at_call 70; (with_reducible refine (cP _).mono ?_); rintro e w3 ⟨rfl, rfl⟩))
          have hB := Blk.new w 82 (tkC 0 ⟨#[]⟩ 0 0)
          obtain ⟨z0, z1, z2, z3, -⟩ := tk_cells (hB.tk4 (y0 := .int .i64 0) (y1 := .string ⟨#[]⟩) (y2 := .int .i64 0) (y3 := .int .i64 0))
          exact bodyPost_ret (v := .tuple #[.agg (tkC 0 ⟨#[]⟩ 0 0), .int .i64 (i : Int), .int .i64 2]) (by simp [results, Tryz.results43, go_sem]) rfl ⟨by rw [O3.out HB.out], Gr.alloc _ _⟩
        | true =>
          simp only [hld] at c3
          have HB := Lib.hid (show (q < cr.length ∧ lowB (cr.getD q 0) = true) from ⟨hql, by rw [← hgj2, hld]⟩)
          clear hld hgj2
          by_cases hpe : pe = 0
          · subst hpe
            go_wp2_with (first
      | (go_at_call 68; (with_reducible refine (c3 _).mono ?_); rintro e w1 ⟨rfl, rfl⟩)
      | (go_at_call 69; (with_reducible refine (c4 _).mono ?_); rintro e w2 ⟨rfl, rfl⟩)
      | (go_at_call 70; (with_reducible refine (cP _).mono ?_); rintro e w3 ⟨rfl, rfl⟩))
            have hB := Blk.new w 82 (tkC 0 ⟨#[]⟩ 0 0)
            obtain ⟨z0, z1, z2, z3, -⟩ := tk_cells (hB.tk4 (y0 := .int .i64 3) (y1 := .string tx) (y2 := .int .i64 pn) (y3 := .int .i64 (i : Int)))
            exact bodyPost_ret (v := .tuple #[.agg (tkC 3 tx pn (i : Int)), .int .i64 ((i + (q + 1) : Nat) : Int), .int .i64 0]) (by simp [results, Tryz.results43, go_sem]; omega) rfl ⟨by rw [O1.out HB.out (by trivial)], Gr.alloc _ _⟩
          · have e1 : (pe == 0) = false := by simp [hpe]
            have e2 : (pe != 0) = true := by simp [hpe]
            have e3 : decide (pe = 0) = false := by simp [hpe]
            have HP := Lib.hid hpe
            clear hpe
            go_wp2_with (first
      | (go_at_call 68; (with_reducible refine (c3 _).mono ?_); rintro e w1 ⟨rfl, rfl⟩)
      | (go_at_call 69; (with_reducible refine (c4 _).mono ?_); rintro e w2 ⟨rfl, rfl⟩)
      | (go_at_call 70; (with_reducible refine (cP _).mono ?_); rintro e w3 ⟨rfl, rfl⟩))
            have hB := Blk.new w 82 (tkC 0 ⟨#[]⟩ 0 0)
            obtain ⟨z0, z1, z2, z3, -⟩ := tk_cells (hB.tk4 (y0 := .int .i64 0) (y1 := .string ⟨#[]⟩) (y2 := .int .i64 0) (y3 := .int .i64 0))
            exact bodyPost_ret (v := .tuple #[.agg (tkC 0 ⟨#[]⟩ 0 0), .int .i64 (i : Int), .int .i64 pe]) (by simp [results, Tryz.results43, go_sem]) rfl ⟨by rw [O2.out HB.out HP.out], Gr.alloc _ _⟩
    · obtain rfl : j = s.size := by omega
      have e0 : s.data.toList.drop s.size = [] := List.drop_eq_nil_of_le (by rw [size_list]; exact Nat.le_refl _)
      have e1 : runL digB ([] : List UInt8) = 0 := rfl
      rw [e0, e1] at hjc
      have HB := Lib.hid (show ¬ (q < cr.length ∧ lowB (cr.getD q 0) = true) by have := HRL.out; omega)
      clear hjc e0 e1
      go_wp2
      have hB := Blk.new w 82 (tkC 0 ⟨#[]⟩ 0 0)
      obtain ⟨z0, z1, z2, z3, -⟩ := tk_cells (hB.tk4 (y0 := .int .i64 0) (y1 := .string ⟨#[]⟩) (y2 := .int .i64 0) (y3 := .int .i64 0))
      exact bodyPost_ret (v := .tuple #[.agg (tkC 0 ⟨#[]⟩ 0 0), .int .i64 (i : Int), .int .i64 2]) (by simp [results, Tryz.results43, go_sem]) rfl ⟨by rw [O3.out HB.out], Gr.alloc _ _⟩
/-- What the reference answers. -/
def roneV (x : Tk × Nat × Int) (i : Nat) : Value :=
  if x.2.2 = 0 then .tuple #[.agg (tkC x.1.kind x.1.text x.1.n i), .int .i64 ((i + x.2.1 : Nat) : Int), .int .i64 0] else .tuple #[.agg (tkC 0 ⟨#[]⟩ 0 0), .int .i64 (i : Int), .int .i64 x.2.2]
theorem rone_any (s : ByteArray) (i : Nat) (c : UInt8) (r : List UInt8) (w : World) (hs : s.size ≤ 10000) (hr : s.data.toList.drop i = c :: r) : Calls Tryz.prog 43 #[.string s, .int .i64 (i : Int)] w fun e w' => e = .returned (roneV (lexOne (c :: r)) i) ∧ Gr w w' := by
  have hi : i < s.size := by
    have h := congrArg List.length hr
    rw [List.length_drop, size_list, List.length_cons] at h
    omega
  have hd := drop_at s i hi
  rw [hr] at hd
  injection hd with hc hr2
  have hc := hc.symm
  rcases lex_ways c with h1 | h1 | h1 | h1 | h1 | h1 | ⟨h1, h2, h3, h4, h5, h6⟩
  · obtain rfl : c = 40 := UInt8.toNat_inj.mp h1
    exact (rone_40 s i w hs hi hc).mono fun e w' h => ⟨by rw [h.1, lexOne_40 h1]; rfl, h.2⟩
  · obtain rfl : c = 41 := UInt8.toNat_inj.mp h1
    exact (rone_41 s i w hs hi hc).mono fun e w' h => ⟨by rw [h.1, lexOne_41 h1]; rfl, h.2⟩
  · obtain rfl : c = 59 := UInt8.toNat_inj.mp h1
    exact (rone_59 s i w hs hi hc).mono fun e w' h => ⟨by rw [h.1, lexOne_59 h1]; rfl, h.2⟩
  · exact (rone_low s i c r w hs hi hc h1 hr).mono fun e w' h => ⟨by rw [h.1, lexOne_low h1]; rfl, h.2⟩
  · obtain rfl : c = 34 := UInt8.toNat_inj.mp h1
    exact rone_quote s i r w hs hi hc hr2.symm _ (fun hq => by rw [lexOne_quote h1, if_pos hq]; rfl) (fun hq => by rw [lexOne_quote h1, if_neg hq]; rfl)
  · exact rone_dig s i c r w hs hi hc h1 hr _ (fun hq hp => by rw [lexOne_dig h1, if_pos hq, if_pos hp]; rfl) (fun hq hp => by rw [lexOne_dig h1, if_pos hq, if_neg hp, roneV, if_neg hp]) (fun hq => by rw [lexOne_dig h1, if_neg hq]; rfl)
  · exact (rone_other s i c w hs hi hc h1 h2 h3 h4 h5 h6).mono fun e w' h => ⟨by rw [h.1, lexOne_other h1 h2 h3 h4 h5 h6]; rfl, h.2⟩
end Go.Proofs.YtogpmihepfnoaaaGreatDoor
