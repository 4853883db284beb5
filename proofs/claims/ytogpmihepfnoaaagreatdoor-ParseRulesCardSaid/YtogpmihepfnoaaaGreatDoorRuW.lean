/- Milestones' names: kept words, rule.Word, the reference's Word. -/
import Derived.Test.YtogpmihepfnoaaaGreatDoorRuP
import Derived.Test.YtogpmihepfnoaaaGreatDoorShelf3
import Derived.Test.YtogpmihepfnoaaaGreatDoorShelf4
import Derived.Test.YtogpmihepfnoaaaGreatDoorLexO
namespace Go.Proofs.YtogpmihepfnoaaaGreatDoor
open Go Go.RowKit

theorem kept_contains (s : ByteArray) : Lib.containsS (keptL.take 9) s = keptD s := by
  rw [Bool.eq_iff_iff, Lib.containsS_iff, keptD, List.any_eq_true]
  show s ∈ keptL ↔ _
  simp
theorem blk_lit {w : World} {cs : Array Value} {T : TypeId} (j : Nat) (u : Value) (h : cs[j]? = some u) : (w.alloc (.cells cs T)).cell? ⟨w.heap.size, 0 + j, none⟩ = some u := by
  have hb := Blk.new w T cs
  rw [Nat.zero_add, hb.cell j, h]
theorem kept_any (s : ByteArray) (w : World) : Calls Tryz.prog 93 #[.string s] w fun e w' => e = .returned (.bool (keptD s)) ∧ Gr w w' := by
  have cC := Tryz.slices_Contains_string w.heap.size 0 9 9 keptL s (w.alloc (.cells (keptL.map Value.string).toArray 9)) (by decide) (by decide) (fun j hj => blk_lit j _ (by
    have h9 : j < 9 := hj
    match j, h9 with
    | 0, _ => rfl | 1, _ => rfl | 2, _ => rfl | 3, _ => rfl | 4, _ => rfl | 5, _ => rfl | 6, _ => rfl | 7, _ => rfl | 8, _ => rfl))
  rw [kept_contains] at cC
  unfold keptL at cC
  generalize keptD s = b at *
  simp only [List.map_cons, List.map_nil] at cC
  go_enter Tryz.func93, Tryz.ntmps93
  go_wp2_with (go_at_call 99; (with_reducible refine cC.mono ?_); rintro e w1 ⟨rfl, rfl⟩)
  go_ret
  exact ⟨rfl, Gr.alloc _ _⟩
theorem str_neq {a b : ByteArray} (h : a ≠ b) : decide (a = b) = false ∧ (a.toList == b.toList) = false :=
  ⟨decide_eq_false h, by rw [beq_eq_false_iff_ne, ByteArray.toList_eq, ByteArray.toList_eq]; exact fun e => h (by cases a; cases b; simp_all [Array.toList_inj])⟩
theorem str_nl {s : ByteArray} {l : List UInt8} (h : ¬ s = ba l) : ¬ s.toList = l := by
  rw [ByteArray.toList_eq]
  intro e
  exact h (by rw [← e]; rfl)
set_option maxRecDepth 100000 in
set_option maxHeartbeats 2000000 in
theorem rkept_any (s : ByteArray) (w : World) : Calls Tryz.prog 86 #[.string s] w fun e w' => e = .returned (.bool (keptD s)) ∧ w = w' := by
  by_cases h : s ∈ keptL
  · have hk : keptD s = true := by rw [keptD, List.any_eq_true]; exact ⟨s, h, by simp⟩
    rw [hk]
    clear hk
    simp only [keptL, List.mem_cons, List.not_mem_nil, or_false] at h
    rcases h with rfl | rfl | rfl | rfl | rfl | rfl | rfl | rfl | rfl
    all_goals
      go_enter Tryz.func86, Tryz.ntmps86
      go_wp2
      go_ret
      exact ⟨rfl, rfl⟩
  · have hk : keptD s = false := by
      rw [keptD, List.any_eq_false]
      intro x hx
      simp only [decide_eq_true_eq]
      rintro rfl
      exact h hx
    rw [hk]
    clear hk
    simp only [keptL, List.mem_cons, List.not_mem_nil, or_false, not_or] at h
    obtain ⟨h1, h2, h3, h4, h5, h6, h7, h8, h9⟩ := h
    have n1 : ¬ s.toList = [99, 108, 97, 115, 115] := str_nl h1
    have m1 : (s.toList == [99, 108, 97, 115, 115]) = false := by rw [beq_eq_false_iff_ne]; exact n1
    have n2 : ¬ s.toList = [100, 101, 102, 97, 117, 108, 116] := str_nl h2
    have m2 : (s.toList == [100, 101, 102, 97, 117, 108, 116]) = false := by rw [beq_eq_false_iff_ne]; exact n2
    have n3 : ¬ s.toList = [107, 101, 101, 112] := str_nl h3
    have m3 : (s.toList == [107, 101, 101, 112]) = false := by rw [beq_eq_false_iff_ne]; exact n3
    have n4 : ¬ s.toList = [97, 102, 116, 101, 114] := str_nl h4
    have m4 : (s.toList == [97, 102, 116, 101, 114]) = false := by rw [beq_eq_false_iff_ne]; exact n4
    have n5 : ¬ s.toList = [111, 114] := str_nl h5
    have m5 : (s.toList == [111, 114]) = false := by rw [beq_eq_false_iff_ne]; exact n5
    have n6 : ¬ s.toList = [97, 110, 100] := str_nl h6
    have m6 : (s.toList == [97, 110, 100]) = false := by rw [beq_eq_false_iff_ne]; exact n6
    have n7 : ¬ s.toList = [116, 104, 101, 110] := str_nl h7
    have m7 : (s.toList == [116, 104, 101, 110]) = false := by rw [beq_eq_false_iff_ne]; exact n7
    have n8 : ¬ s.toList = [100, 101, 115, 116, 114, 111, 121] := str_nl h8
    have m8 : (s.toList == [100, 101, 115, 116, 114, 111, 121]) = false := by rw [beq_eq_false_iff_ne]; exact n8
    have n9 : ¬ s.toList = [114, 101, 118, 105, 101, 119] := str_nl h9
    have m9 : (s.toList == [114, 101, 118, 105, 101, 119]) = false := by rw [beq_eq_false_iff_ne]; exact n9
    clear h1 h2 h3 h4 h5 h6 h7 h8 h9
    go_enter Tryz.func86, Tryz.ntmps86
    go_wp2
    go_ret
    exact ⟨rfl, rfl⟩
theorem wordB_iff (c : UInt8) : wordB c = true ↔ (97 ≤ c.toNat ∧ c.toNat ≤ 122) ∨ (48 ≤ c.toNat ∧ c.toNat ≤ 57) ∨ c.toNat = 45 ∨ c.toNat = 95 := by
  unfold wordB
  simp only [Bool.or_eq_true, decide_eq_true_eq, lowB_iff, digB_iff]
  omega
theorem index_dot : ∀ l : List UInt8, (0 ≤ Lib.indexByte l 46) ∨ (Lib.indexByte l 46 = -1 ∧ ∀ c ∈ l, c ≠ 46)
  | [] => .inr ⟨rfl, by simp⟩
  | c :: r => by
    rw [Lib.indexByte]
    split
    · exact .inl (by omega)
    · rename_i hc
      rcases index_dot r with h | ⟨h, h2⟩
      · rw [if_neg (by simp only [beq_iff_eq]; omega)]; exact .inl (by omega)
      · rw [if_pos (by rw [h]; rfl)]
        refine .inr ⟨rfl, fun x hx => ?_⟩
        rcases List.mem_cons.1 hx with rfl | hx
        · intro e; subst e; exact hc (by rfl)
        · exact h2 x hx
theorem index_has : ∀ l : List UInt8, 0 ≤ Lib.indexByte l 46 → 46 ∈ l
  | [], h => by rw [Lib.indexByte] at h; omega
  | c :: r, h => by
    rw [Lib.indexByte] at h
    split at h
    · rename_i hc
      have : c = 46 := by simpa using hc
      subst this
      exact List.mem_cons_self ..
    · split at h
      · omega
      · rename_i h2
        rcases index_dot r with h3 | ⟨h3, _⟩
        · exact List.mem_cons_of_mem _ (index_has r h3)
        · rw [h3] at h2; exact absurd (by rfl) h2
/-- A milestone's name, as the program asks. -/
theorem mile_name (s : ByteArray) : mileD s = (nameD s && lowB (s.data.toList.getD 0 0) && decide (Lib.indexByte s.data.toList 46 < 0) && !keptD s) := by
  unfold mileD nameD lettersD
  rw [Bool.eq_iff_iff]
  simp only [Bool.and_eq_true, decide_eq_true_eq, List.all_eq_true, Bool.not_eq_true']
  constructor
  · rintro ⟨⟨⟨h1, h2⟩, h3⟩, h4⟩
    refine ⟨⟨⟨⟨fun c hc => ?_, h1⟩, h2⟩, ?_⟩, h3⟩
    · have := (wordB_iff c).1 (h4 c hc)
      unfold letD
      rw [decide_eq_true_eq]
      omega
    · rcases index_dot s.data.toList with h | ⟨h, _⟩
      · have := h4 46 (index_has _ h)
        rw [show wordB 46 = false from rfl] at this
        cases this
      · omega
  · rintro ⟨⟨⟨⟨h4, h1⟩, h2⟩, h5⟩, h3⟩
    refine ⟨⟨⟨h1, h2⟩, h3⟩, fun c hc => ?_⟩
    rcases index_dot s.data.toList with h | ⟨_, h⟩
    · omega
    have h6 := h c hc
    have h7 := h4 c hc
    unfold letD at h7
    rw [decide_eq_true_eq] at h7
    rw [wordB_iff]
    have : c.toNat ≠ 46 := fun e => h6 (UInt8.toNat_inj.mp e)
    omega
theorem get_zero (s : ByteArray) (h : 0 < s.size) : s[0] = s.data.toList.getD 0 0 := by
  rw [List.getD_eq_getElem?_getD, List.getElem?_eq_getElem (by rw [Array.length_toList]; exact h)]
  rfl
set_option maxRecDepth 100000 in
set_option maxHeartbeats 1000000 in
theorem mword_any (s : ByteArray) (w : World) (hs : s.size ≤ 140737488351232) : Calls Tryz.prog 80 #[.string s] w fun e w' => e = .returned (.bool (mileD s)) ∧ Gr w w' := by
  rw [mile_name]
  have cN := name_any s w hs
  have cI := fun W => Tryz.strings_IndexByte s 46 W
  rw [show (46 : Int).toNat.toUInt8 = 46 from rfl] at cI
  have cK := fun W => kept_any s W
  cases hn : nameD s with
  | false =>
    simp only [hn] at cN
    rw [Bool.false_and, Bool.false_and, Bool.false_and]
    clear hn cI cK
    go_enter Tryz.func80, Tryz.ntmps80
    go_wp2_with (go_at_call 40; (with_reducible refine cN.mono ?_); rintro e w1 ⟨rfl, hb1⟩)
    go_ret
    exact ⟨rfl, hb1⟩
  | true =>
    have hsz : 1 ≤ s.size := by
      unfold nameD at hn
      simp only [Bool.and_eq_true, decide_eq_true_eq] at hn
      omega
    simp only [hn] at cN
    rw [Bool.true_and]
    have hg := get_zero s hsz
    rw [← hg]
    generalize hc : s[0] = c at *
    clear hn hg
    cases hl : lowB c with
    | false =>
      rw [Bool.false_and, Bool.false_and]
      have hx : (c.toNat : Int) < 97 ∨ 122 < (c.toNat : Int) := by
        unfold lowB at hl
        rw [decide_eq_false_iff_not] at hl
        omega
      clear hl cI cK
      rcases hx with hx | hx
      all_goals
        go_enter Tryz.func80, Tryz.ntmps80
        go_wp2_with (go_at_call 40; (with_reducible refine cN.mono ?_); rintro e w1 ⟨rfl, hb1⟩)
        all_goals (try (exfalso; omega))
        go_ret
        first | exact ⟨rfl, hb1⟩ | exact ⟨ret_bool (by simp; omega), hb1⟩
    | true =>
      rw [Bool.true_and]
      have hx := lowB_iff.1 hl
      have hx1 : 97 ≤ (c.toNat : Int) := by omega
      have hx2 : (c.toNat : Int) ≤ 122 := by omega
      clear hl hx
      rcases index_dot s.data.toList with hd | ⟨hd, _⟩
      · generalize Lib.indexByte s.data.toList 46 = q at *
        rw [decide_eq_false (by omega : ¬ q < 0), Bool.false_and]
        go_enter Tryz.func80, Tryz.ntmps80
        go_wp2_with (first
          | (go_at_call 40; (with_reducible refine cN.mono ?_); rintro e w1 ⟨rfl, hb1⟩)
          | (go_at_call 75; (with_reducible refine (cI _).mono ?_); rintro e w2 ⟨rfl, rfl⟩))
        all_goals (try (exfalso; omega))
        go_ret
        first | exact ⟨rfl, hb1⟩ | exact ⟨ret_bool (by simp; omega), hb1⟩
      · rw [hd] at cI ⊢
        rw [decide_eq_true (by omega : (-1 : Int) < 0), Bool.true_and]
        generalize keptD s = b at *
        cases b
        all_goals
          go_enter Tryz.func80, Tryz.ntmps80
          go_wp2_with (first
            | (go_at_call 40; (with_reducible refine cN.mono ?_); rintro e w1 ⟨rfl, hb1⟩)
            | (go_at_call 75; (with_reducible refine (cI _).mono ?_); rintro e w2 ⟨rfl, rfl⟩)
            | (go_at_call 93; (with_reducible refine (cK _).mono ?_); rintro e w3 ⟨rfl, hb3⟩))
          all_goals (try (exfalso; omega))
          go_ret
          first | exact ⟨rfl, Gr.trans hb1 hb3⟩ | exact ⟨ret_bool (by simp), Gr.trans hb1 hb3⟩
theorem words_iff (s : ByteArray) : s.data.toList.all wordB = true ↔ ∀ i (h : i < s.size), wordB (s[i]'h) = true := by
  rw [List.all_eq_true]
  constructor
  · intro h i hi
    exact h _ (by
      have : i < s.data.toList.length := by simpa using hi
      have e : s.data.toList[i] = s[i] := by simp [ByteArray.getElem_eq_getElem_data]
      rw [← e]; exact List.getElem_mem _)
  · intro h b hb
    obtain ⟨i, hi, rfl⟩ := List.getElem_of_mem hb
    have := h i (by simpa using hi)
    simpa [ByteArray.getElem_eq_getElem_data] using this
set_option maxRecDepth 100000 in
set_option maxHeartbeats 2000000 in
theorem rword_any (s : ByteArray) (w : World) (hs : s.size ≤ 140737488351232) : Calls Tryz.prog 73 #[.string s] w fun e w' => e = .returned (.bool (mileD s)) ∧ w = w' := by
  have cK := fun W => rkept_any s W
  by_cases hz : 1 ≤ s.size ∧ s.size ≤ 16
  · obtain ⟨hz1, hz2⟩ := hz
    have hm : mileD s = (lowB s[0] && !keptD s && s.data.toList.all wordB) := by rw [mileD, decide_eq_true (⟨hz1, hz2⟩ : 1 ≤ s.size ∧ s.size ≤ 16), Bool.true_and, get_zero s hz1]
    generalize hc : s[0] = c at *
    cases hl : lowB c with
    | false =>
      rw [hl, Bool.false_and, Bool.false_and] at hm
      rw [hm]
      have hx : (c.toNat : Int) < 97 ∨ 122 < (c.toNat : Int) := by
        unfold lowB at hl
        rw [decide_eq_false_iff_not] at hl
        omega
      clear hl hm cK
      rcases hx with hx | hx
      all_goals
        go_enter Tryz.func73, Tryz.ntmps73
        go_wp2
        all_goals (try (exfalso; omega))
        go_ret
        exact ⟨rfl, rfl⟩
    | true =>
      rw [hl, Bool.true_and] at hm
      have hx := lowB_iff.1 hl
      have hx1 : 97 ≤ (c.toNat : Int) := by omega
      have hx2 : (c.toNat : Int) ≤ 122 := by omega
      cases hk : keptD s with
      | true =>
        rw [hk, Bool.not_true, Bool.false_and] at hm
        rw [hm]
        simp only [hk] at cK
        clear hl hm hx hk
        go_enter Tryz.func73, Tryz.ntmps73
        go_wp2_with (go_at_call 86; (with_reducible refine (cK _).mono ?_); rintro e w1 ⟨rfl, rfl⟩)
        all_goals (try (exfalso; omega))
        go_ret
        exact ⟨rfl, rfl⟩
      | false =>
        rw [hk, Bool.not_false, Bool.true_and] at hm
        rw [hm]
        simp only [hk] at cK
        clear hl hm hx hk
        have hW := words_iff s
        generalize s.data.toList.all wordB = R at *
        have HW := Lib.hid hW
        clear hW
        go_enter Tryz.func73, Tryz.ntmps73
        go_wp2_with (go_at_call 86; (with_reducible refine (cK _).mono ?_); rintro e w1 ⟨rfl, rfl⟩)
        all_goals (try (exfalso; omega))
        clear cK hc hx1 hx2
        go_loop [3] (fun v3 => ∃ k : Nat, v3 = .int .i64 k ∧ k ≤ s.size ∧ ∀ i (h : i < s.size), i < k → wordB (s[i]'h) = true) (fun v3 => s.size - (intOf v3).toNat)
        case atStart => exact ⟨0, rfl, by omega, fun i _ h => by omega⟩
        case round =>
          obtain ⟨k, rfl, hk, hA⟩ := hrel
          have H := Lib.hid hA
          clear hA
          by_cases hp : k < s.size
          · have hN : wordB (s[k]'hp) = true → ∀ i (h : i < s.size), i < k + 1 → wordB (s[i]'h) = true := fun hc i h hi => by
              rcases Nat.eq_or_lt_of_le (Nat.le_of_lt_succ hi) with rfl | h'
              · exact hc
              · exact H.out i h h'
            have hB : wordB (s[k]'hp) = false → R = false := fun hc => by
              rw [Bool.eq_false_iff]
              intro h
              rw [HW.out.1 h k hp] at hc
              cases hc
            have HN := Lib.hid hN
            have HB := Lib.hid hB
            clear hN hB
            generalize hgk : s[k] = d at *
            cases hwd : wordB d with
            | true =>
              have HN2 := Lib.hid (HN.out hwd)
              have hw2 := (wordB_iff d).1 hwd
              clear hwd HN HB
              rcases (by omega : (97 ≤ (d.toNat : Int) ∧ (d.toNat : Int) ≤ 122) ∨ (48 ≤ (d.toNat : Int) ∧ (d.toNat : Int) ≤ 57) ∨ (d.toNat : Int) = 45 ∨ (d.toNat : Int) = 95) with h | h | h | h
              all_goals
                clear hw2
                go_wp2
                all_goals first
                  | (exfalso; omega)
                  | (go_round
                     case rel => exact ⟨k + 1, by go_num, by omega, HN2.out⟩
                     case measure => simp [intOf]; omega)
            | false =>
              have HB2 := Lib.hid (HB.out hwd)
              have hw2 : ¬ _ := fun h => by rw [(wordB_iff d).2 h] at hwd; cases hwd
              clear hwd HN HB
              have h45 : ((d.toNat : Int) != 45) = true := by simp; omega
              have h95 : ((d.toNat : Int) != 95) = true := by simp; omega
              rcases (by omega : (d.toNat : Int) < 48 ∨ (57 < (d.toNat : Int) ∧ (d.toNat : Int) < 97) ∨ 122 < (d.toNat : Int)) with h | h | h
              all_goals
                clear hw2
                go_wp2
                all_goals first
                  | (exfalso; omega)
                  | (go_ret; exact ⟨ret_bool HB2.out.symm, rfl⟩)
          · obtain rfl : k = s.size := by omega
            have HR := Lib.hid (HW.out.2 fun i h => H.out i h h)
            go_wp2
            go_ret
            exact ⟨ret_bool HR.out.symm, rfl⟩
  · have hm : mileD s = false := by rw [mileD, decide_eq_false hz]; rfl
    rw [hm]
    clear hm cK
    rcases (by omega : s.size < 1 ∨ 16 < s.size) with h | h
    all_goals
      go_enter Tryz.func73, Tryz.ntmps73
      go_wp2
      all_goals (try (exfalso; omega))
      go_ret
      exact ⟨rfl, rfl⟩
end Go.Proofs.YtogpmihepfnoaaaGreatDoor
