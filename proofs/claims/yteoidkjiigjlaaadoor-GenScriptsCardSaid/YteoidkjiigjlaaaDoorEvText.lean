/- Ints, texts and lists of parts as bytes: tlv.Int, Text, All; the reference's Int, Text, Copy, Same. -/
import Derived.Test.YteoidkjiigjlaaaDoorEvNum
namespace Go.Proofs.YteoidkjiigjlaaaDoor
open Go Go.RowKit

section
variable (n : Nat) (w : World)
set_option maxRecDepth 100000 in
theorem int_any (h : n ≤ 9223372036854775807) : Calls Tryd.prog 42 #[.int .i64 n] w fun e w' => ∃ v, e = .returned v ∧ OwnB w' w.heap.size v (numB n) ∧ Gr w w' := by
  go_enter Tryd.func42, Tryd.ntmps42
  go_wp2_with (go_at_call 68; (with_reducible refine (num_any n _ (by omega)).mono ?_); rintro e w1 ⟨v1, rfl, ho1, hb1⟩)
  go_ret
  exact ⟨_, rfl, ho1, hb1⟩
set_option maxRecDepth 100000 in
theorem refint_any (h : n ≤ 9223372036854775807) : Calls Tryd.prog 45 #[.int .i64 n] w fun e w' => ∃ v, e = .returned v ∧ OwnB w' w.heap.size v (numB n) ∧ Gr w w' := by
  go_enter Tryd.func45, Tryd.ntmps45
  go_wp2_with (go_at_call 70; (with_reducible refine (refnum_any n _ (by omega)).mono ?_); rintro e w1 ⟨v1, rfl, ho1, hb1⟩)
  go_ret
  exact ⟨_, rfl, ho1, hb1⟩
end

section
variable (w : World) (B : Nat) (v : Value) (l : List UInt8)
set_option maxRecDepth 100000 in
set_option maxHeartbeats 2000000 in
theorem tlvtext_any (hB : B ≤ w.heap.size) (hr : RdB w B v l) (hl : l.length ≤ 1073741824) : Calls Tryd.prog 43 #[v] w fun e w' => ∃ v, e = .returned v ∧ OwnB w' w.heap.size v (textB l) ∧ Gr w w' := by
  have hR := hr
  obtain ⟨A, c, rfl, hc, _⟩ := hr
  have h9 := numB_len l.length (by omega)
  go_enter Tryd.func43, Tryd.ntmps43
  go_wp2_with (first
    | (go_at_call 68; (with_reducible refine (num_any l.length _ (by omega)).mono ?_); rintro e w1 ⟨v1, rfl, ho1, hb1⟩)
    | (at_builtin
       refine wpList_appendB _ rfl (.tmp 6) (.tmp 7) rfl w.heap.size _ _ rfl ho1 B _ l rfl (hR.gr hB hb1) (by omega) hb1.size ?_
       intro v2 w2 ho2 hb2 _))
  go_ret
  exact ⟨_, rfl, ho2, Below.trans hb1 hb2⟩
set_option maxRecDepth 100000 in
set_option maxHeartbeats 2000000 in
theorem reftlvtext_any (hB : B ≤ w.heap.size) (hr : RdB w B v l) (hl : l.length ≤ 1073741824) : Calls Tryd.prog 46 #[v] w fun e w' => ∃ v, e = .returned v ∧ OwnB w' w.heap.size v (textB l) ∧ Gr w w' := by
  have hR := hr
  obtain ⟨A, c, rfl, hc, _⟩ := hr
  have h9 := numB_len l.length (by omega)
  go_enter Tryd.func46, Tryd.ntmps46
  go_wp2_with (first
    | (go_at_call 70; (with_reducible refine (refnum_any l.length _ (by omega)).mono ?_); rintro e w1 ⟨v1, rfl, ho1, hb1⟩)
    | (at_builtin
       refine wpList_appendB _ rfl (.tmp 6) (.tmp 7) rfl w.heap.size _ _ rfl ho1 B _ l rfl (hR.gr hB hb1) (by omega) hb1.size ?_
       intro v2 w2 ho2 hb2 _))
  go_ret
  exact ⟨_, rfl, ho2, Below.trans hb1 hb2⟩

set_option maxRecDepth 100000 in
set_option maxHeartbeats 2000000 in
theorem copy_any (hB : B ≤ w.heap.size) (hr : RdB w B v l) (hl : l.length ≤ 1073741824) : Calls Tryd.prog 57 #[v] w fun e w' => ∃ v, e = .returned v ∧ OwnB w' w.heap.size v l ∧ Gr w w' := by
  have hR := hr
  obtain ⟨A, c, rfl, hc, _⟩ := hr
  go_enter Tryd.func57, Tryd.ntmps57
  go_wp2_with (at_builtin
               refine wpList_appendB _ rfl (.tmp 3) (.tmp 4) rfl w.heap.size _ [] rfl (OwnB.new w [] _ (Nat.le_refl _) (by simp [maxLen]) _ (by simp [bvs])) B _ l rfl (hR.gr hB (Gr.alloc _ _)) (by simp; omega) (by simp) ?_
               intro v1 w1 ho1 hb1 _)
  go_ret
  exact ⟨_, rfl, by simpa using ho1, Below.trans (Gr.alloc _ _) hb1⟩
end

/-- A list of slices that read as these lists of bytes. -/
def RdL (w : World) (B : Nat) (vs : List Value) (ls : List (List UInt8)) : Prop := vs.length = ls.length ∧ ∀ (i : Nat) (v : Value) (l : List UInt8), vs[i]? = some v → ls[i]? = some l → RdB w B v l
theorem RdL.gr {w w' : World} {B : Nat} {vs : List Value} {ls : List (List UInt8)} (h : RdL w B vs ls) (hB : B ≤ w.heap.size) (hg : Gr w w') : RdL w' B vs ls := ⟨h.1, fun i v l h1 h2 => (h.2 i v l h1 h2).gr hB hg⟩

set_option maxRecDepth 100000 in
set_option maxHeartbeats 2000000 in
theorem all_any (w : World) (B : Nat) (A : Option Addr) (c : Nat) (vs : List Value) (ls : List (List UInt8)) (hB : B ≤ w.heap.size) (hr : Reads w B 1 A ls.length vs) (hl : RdL w B vs ls) (hsz : ls.flatten.length ≤ 1073741824) (hn : ls.length ≤ 1073741824) :
    Calls Tryd.prog 41 #[.slice A ls.length c] w fun e w' => ∃ v, e = .returned v ∧ OwnB w' w.heap.size v ls.flatten ∧ Gr w w' := by
  go_enter Tryd.func41, Tryd.ntmps41
  go_wp2
  go_loopw [3, 8] (fun v3 v8 wr => ∃ k : Nat, v8 = .int .i64 k ∧ k ≤ ls.length ∧ OwnB wr w.heap.size v3 (ls.take k).flatten ∧ Gr w wr) (fun _ v8 _ => ls.length - (intOf v8).toNat)
  case atStart => exact ⟨0, rfl, by omega, OwnB.nil _ _, Gr.refl _⟩
  case round =>
    obtain ⟨k, rfl, hk, ho, hg⟩ := hrel
    by_cases hp : k < ls.length
    · obtain ⟨ad, u, rfl, hbk, hx, hc⟩ := hr.at_ hp
      have hc1 : wr.cell? (ad.add k) = some u := by rw [hg.cell (by rw [block_of_add]; omega)]; exact hc
      have hR := hl.2 k u ls[k] hx (List.getElem?_eq_getElem hp)
      have ht : (ls.take (k + 1)).flatten = (ls.take k).flatten ++ ls[k] := by rw [List.take_add_one, List.getElem?_eq_getElem hp, List.flatten_append]; simp only [Option.toList, List.flatten_cons, List.flatten_nil, List.append_nil]
      have hle : (ls.take (k + 1)).flatten.length ≤ ls.flatten.length := by
        rw [← List.take_append_drop (k + 1) ls, List.flatten_append, List.length_append, List.take_append_drop]; omega
      rw [ht, List.length_append] at hle
      obtain ⟨A', c', rfl, hc', hR'⟩ := id hR
      go_wp2_with (at_builtin
                   refine wpList_appendB _ rfl (.tmp 12) (.tmp 13) rfl w.heap.size _ _ rfl ho B _ ls[k] rfl (hR.gr hB hg) (by omega) hg.size ?_
                   intro v1 w1 ho1 hb1 _)
      go_roundw
      case rel => exact ⟨k + 1, by go_num, by omega, by rw [ht]; exact ho1, Below.trans hg hb1⟩
      case measure => simp [intOf]; omega
    · obtain rfl : k = ls.length := by omega
      rw [List.take_length] at ho
      go_wp2
      go_ret
      exact ⟨_, rfl, ho, hg⟩

set_option maxRecDepth 100000 in
set_option maxHeartbeats 2000000 in
theorem same_any (w : World) (B : Nat) (a b : Value) (l m : List UInt8) (hB : B ≤ w.heap.size) (ha : RdB w B a l) (hb : RdB w B b m) (hla : l.length ≤ 1073741824) :
    Calls Tryd.prog 13 #[a, b] w fun e w' => e = .returned (.bool (decide (l = m))) ∧ Gr w w' := by
  obtain ⟨A, c, rfl, hc, hA⟩ := ha
  obtain ⟨A', c', rfl, hc', hA'⟩ := hb
  by_cases hlen : l.length = m.length
  · go_enter Tryd.func13, Tryd.ntmps13
    go_wp2
    go_loopw [5] (fun v5 wr => ∃ k : Nat, v5 = .int .i64 k ∧ k ≤ l.length ∧ l.take k = m.take k ∧ Gr w wr) (fun v5 _ => l.length - (intOf v5).toNat)
    case atStart => exact ⟨0, rfl, by omega, rfl, Gr.refl _⟩
    case round =>
      obtain ⟨k, rfl, hk, he, hg⟩ := hrel
      by_cases hp : k < l.length
      · obtain ⟨ad, x, rfl, hbk, hx, hc1⟩ := hA.byte rfl k hp
        obtain ⟨ad', y, rfl, hbk', hy, hc1'⟩ := hA'.byte rfl k (show k < m.length by omega)
        rw [← hg.cell (by rw [block_of_add]; omega)] at hc1 hc1'
        by_cases hxy : x = y
        · subst hxy
          go_wp2
          go_quiet (fail)
          go_wp2
          go_roundw
          case rel => exact ⟨k + 1, by go_num, by omega, by rw [take_next hx, take_next hy, he], Gr.trans hg (Gr.drewN _ _)⟩
          case measure => simp [intOf]; omega
        · have hne : ¬ (x.toNat = y.toNat) := fun e => hxy (UInt8.toNat_inj.1 e)
          go_wp2
          go_quiet (fail)
          go_wp2
          go_ret
          refine ⟨ret_bool ?_, Gr.trans hg (Gr.drewN _ _)⟩
          rw [eq_comm, decide_eq_false_iff_not]
          rintro rfl
          exact hxy (Option.some.inj (hx.symm.trans hy))
      · obtain rfl : k = l.length := by omega
        go_wp2
        go_ret
        refine ⟨ret_bool ?_, hg⟩
        rw [eq_comm, decide_eq_true_eq]
        rw [List.take_length, hlen, List.take_length] at he
        exact he
  · go_enter Tryd.func13, Tryd.ntmps13
    go_wp2
    go_ret
    refine ⟨ret_bool ?_, Gr.refl _⟩
    rw [eq_comm, decide_eq_false_iff_not]
    rintro rfl
    exact hlen rfl
end Go.Proofs.YteoidkjiigjlaaaDoor
