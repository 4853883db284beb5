/- May a condition be? the reference's count. -/
import Derived.Test.YtogpmihepfnoaaaGreatDoorRuW
namespace Go.Proofs.YtogpmihepfnoaaaGreatDoor
open Go Go.RowKit Go.Sort

def optI : Option Nat → Int | none => -1 | some m => (m : Int)
theorem optI_none : optI none = -1 := rfl
theorem optI_some (m : Nat) : optI (some m) = (m : Int) := rfl
theorem four_ex {W : World} {g : Nat} {T : TypeId} {x0 x1 x2 x3 : Value} (h : Blk W g T #[x0, x1, x2, x3]) : W.cell? ⟨g, 0, none⟩ = some x0 ∧ W.cell? ⟨g, 1, none⟩ = some x1 ∧ W.cell? ⟨g, 2, none⟩ = some x2 ∧ W.cell? ⟨g, 3, none⟩ = some x3 :=
  ⟨h.cell 0, h.cell 1, h.cell 2, h.cell 3⟩
theorem str_nil {s : ByteArray} (h : s.size ≠ 0) : ¬ s.toList = [] ∧ (s.toList == []) = false ∧ s.toList.isEmpty = false := by
  have h1 : ¬ s.toList = [] := by
    rw [ByteArray.toList_eq]
    intro e
    apply h
    have := congrArg List.length e
    simpa using this
  refine ⟨h1, by rw [beq_eq_false_iff_ne]; exact h1, by rw [List.isEmpty_eq_false_iff]; exact h1⟩
theorem str_zero {s : ByteArray} (h : s.size = 0) : s = ⟨#[]⟩ := by
  obtain ⟨⟨l⟩⟩ := s
  have : l = [] := List.eq_nil_of_length_eq_zero h
  subst this
  rfl
section
variable {op days : Int} {mile : ByteArray} {ks : List Ex} {n d : Nat}
theorem mayX_0 (h : n = 0 ∨ d = 0) : mayX (.mk op days mile ks) n d = none := by rw [mayX, if_pos h]
theorem mayX_1 (h : ¬ (n = 0 ∨ d = 0)) : mayX (.mk 1 days mile ks) n d = if 0 ≤ days ∧ days ≤ 1048576 ∧ mileD mile = true ∧ ks.length = 0 then some (n - 1) else none := by rw [mayX, if_neg h, if_pos rfl]
theorem mayX_2 (h : ¬ (n = 0 ∨ d = 0)) (ho : op ≠ 1) : mayX (.mk op days mile ks) n d = if (op = 2 ∨ op = 3) ∧ days = 0 ∧ mile.size = 0 ∧ 2 ≤ ks.length then mayXL ks (n - 1) (d - 1) else none := by rw [mayX, if_neg h, if_neg ho]
end
theorem mayXL_many {ks : List Ex} {n d : Nat} (h : n < ks.length) : mayXL ks n d = none := by
  cases e : mayXL ks n d with
  | none => rfl
  | some m => have := mayXL_le ks n d m e; omega
/-- The count, k parts on. -/
def MayTo (ks : List Ex) (n d k : Nat) (st : Option Nat) : Prop := mayXL ks n d = st.bind fun m => mayXL (ks.drop k) m d
theorem MayTo.step {ks : List Ex} {n d k m : Nat} {x : Ex} (h : MayTo ks n d k (some m)) (hx : ks[k]? = some x) : MayTo ks n d (k + 1) (mayX x m d) := by
  unfold MayTo at *
  obtain ⟨hlt, hx2⟩ := List.getElem?_eq_some_iff.1 hx
  rw [h, List.drop_eq_getElem_cons hlt, hx2]
  show mayXL (x :: ks.drop (k + 1)) m d = _
  rw [mayXL_cons]
  cases mayX x m d <;> rfl
theorem MayTo.end_ {ks : List Ex} {n d : Nat} {st : Option Nat} (h : MayTo ks n d ks.length st) : mayXL ks n d = st := by
  unfold MayTo at h
  rw [h, List.drop_length]
  cases st with
  | none => rfl
  | some m => show mayXL [] m d = _; rw [mayXL_nil]
theorem MayTo.none {ks : List Ex} {n d k : Nat} (h : MayTo ks n d k none) : mayXL ks n d = none := h
set_option maxRecDepth 100000 in
set_option maxHeartbeats 8000000 in
theorem rleft_n : ∀ (N : Nat) (x : Ex) (v : Value) (w : World) (n d : Nat), SizeOf.sizeOf x ≤ N → RdEx w (· < w.heap.size) x v → n ≤ 1000 → d ≤ 1000 →
    Calls Tryz.prog 47 #[v, .int .i64 (n : Int), .int .i64 (d : Int)] w fun e w' => e = .returned (.int .i64 (optI (mayX x n d))) ∧ Gr w w'
  | 0, .mk op days mile ks, v, w, n, d, hN, _, _, _ => by
    have : 0 < SizeOf.sizeOf (Ex.mk op days mile ks) := by rw [Ex.mk.sizeOf_spec]; omega
    omega
  | N + 1, .mk op days mile ks, v, w, n, d, hN, hx, hn, hd => by
    have ih := rleft_n N
    obtain ⟨A, c, vs, rfl, ⟨hc, hcm, hms⟩, hr, hl⟩ := hx.form
    clear hx
    unfold maxLen at hcm
    have cW := fun W => rword_any mile W hms
    have hsz : ∀ (k : Nat) (x : Ex), ks[k]? = some x → SizeOf.sizeOf x ≤ N := by
      intro k x hx
      have h1 := List.sizeOf_lt_of_mem (List.mem_of_getElem? hx)
      have h2 : SizeOf.sizeOf (Ex.mk op days mile ks) = 1 + SizeOf.sizeOf op + SizeOf.sizeOf days + SizeOf.sizeOf mile + SizeOf.sizeOf ks := Ex.mk.sizeOf_spec op days mile ks
      omega
    by_cases h0 : n = 0 ∨ d = 0
    · rw [mayX_0 h0]
      simp only [optI]
      rcases (by omega : n < 1 ∨ (1 ≤ n ∧ d < 1)) with h | ⟨h, h'⟩
      all_goals
        clear h0 hsz ih cW
        go_enter Tryz.func47, Tryz.ntmps47
        go_wp2
        all_goals (try (exfalso; omega))
        go_ret
        exact ⟨rfl, Gr.alloc _ _⟩
    · have hn1 : 1 ≤ n := by omega
      have hd1 : 1 ≤ d := by omega
      by_cases ho : op = 1
      · subst ho
        rw [mayX_1 h0]
        clear hsz ih h0
        rcases (by omega : days < 0 ∨ 1048576 < days ∨ (0 ≤ days ∧ days ≤ 1048576)) with h | h | ⟨h, h'⟩
        iterate 2
          · rw [if_neg (by omega)]
            simp only [optI]
            go_enter Tryz.func47, Tryz.ntmps47
            go_wp2
            all_goals (try (exfalso; omega))
            go_ret
            exact ⟨rfl, Gr.alloc _ _⟩
        · cases hm : mileD mile with
          | false =>
            rw [if_neg (by simp)]
            simp only [hm] at cW
            simp only [optI]
            clear hm
            go_enter Tryz.func47, Tryz.ntmps47
            go_wp2_with (go_at_call 73; (with_reducible refine (cW _).mono ?_); rintro e w1 ⟨rfl, rfl⟩)
            all_goals (try (exfalso; omega))
            go_ret
            exact ⟨rfl, Gr.alloc _ _⟩
          | true =>
            simp only [hm] at cW
            clear hm
            by_cases hk : ks.length = 0
            · rw [if_pos ⟨h, h', rfl, hk⟩]
              simp only [optI]
              have hn2 : ((n - 1 : Nat) : Int) = (n : Int) - 1 := by omega
              rw [hn2]
              clear hn2
              go_enter Tryz.func47, Tryz.ntmps47
              go_wp2_with (go_at_call 73; (with_reducible refine (cW _).mono ?_); rintro e w1 ⟨rfl, rfl⟩)
              all_goals (try (exfalso; omega))
              go_ret
              exact ⟨rfl, Gr.alloc _ _⟩
            · rw [if_neg (by omega)]
              simp only [optI]
              have hk1 : 1 ≤ ks.length := by omega
              clear hk
              go_enter Tryz.func47, Tryz.ntmps47
              go_wp2_with (go_at_call 73; (with_reducible refine (cW _).mono ?_); rintro e w1 ⟨rfl, rfl⟩)
              all_goals (try (exfalso; omega))
              go_ret
              exact ⟨rfl, Gr.alloc _ _⟩
      · rw [mayX_2 h0 ho]
        clear h0 cW
        have o1 : (op == 1) = false := by simp [ho]
        have o1' : decide (op = 1) = false := by simp [ho]
        by_cases h2 : op = 2 ∨ op = 3
        · by_cases hdy : days = 0
          · subst hdy
            by_cases hms0 : mile.size = 0
            · obtain rfl := str_zero hms0
              by_cases hk2 : 2 ≤ ks.length
              · rw [if_pos ⟨h2, rfl, hms0, hk2⟩]
                by_cases hkn : n - 1 < ks.length
                · rw [mayXL_many hkn]
                  simp only [optI]
                  have hkn' : (n : Int) - 1 < (ks.length : Int) := by omega
                  clear hkn ih hsz
                  rcases h2 with rfl | rfl
                  all_goals
                    clear ho
                    go_enter Tryz.func47, Tryz.ntmps47
                    go_wp2
                    all_goals (try (exfalso; omega))
                    go_ret
                    exact ⟨rfl, Gr.alloc _ _⟩
                · obtain ⟨M, hM⟩ : ∃ M, n - 1 = M := ⟨_, rfl⟩
                  obtain ⟨D, hD⟩ : ∃ D, d - 1 = D := ⟨_, rfl⟩
                  rw [hM, hD]
                  have hM2 : (n : Int) - 1 = (M : Int) := by omega
                  have hD2 : (d : Int) - 1 = (D : Int) := by omega
                  have hkM : (ks.length : Int) ≤ (M : Int) := by omega
                  have f1 : decide (M < ks.length) = false := decide_eq_false (by omega)
                  have f2 : decide ((ks.length : Int) < 2) = false := decide_eq_false (by omega)
                  have HO := Lib.hid (show ∀ st, mayXL ks M D = st → optI (mayXL ks M D) = optI st from fun st h => by rw [h])
                  have hdm : D ≤ 1000 := by omega
                  have hmm : M ≤ 1000 := by omega
                  generalize hQ : mayXL ks M D = Q at HO ⊢
                  have HQ := Lib.hid hQ
                  generalize hOQ : optI Q = oq at HO ⊢
                  clear hQ hkn hM hD hOQ
                  have hop : op ≠ 1 := ho
                  have x2 : (op != 2 && op != 3) = false := by rcases h2 with rfl | rfl <;> rfl
                  rcases h2 with rfl | rfl
                  all_goals
                    clear ho hop x2
                    go_enter Tryz.func47, Tryz.ntmps47
                    go_wp2
                    all_goals (try (exfalso; omega))
                    go_loopw [1, 7] (fun v1 v7 wr => ∃ (k : Nat) (st : Option Nat), v7 = .int .i64 (k : Int) ∧ v1 = .int .i64 (optI st) ∧ k ≤ ks.length ∧ (∀ m, st = some m → m ≤ 1000) ∧ MayTo ks M D k st ∧ Gr w wr ∧ wr.cell? ⟨w.heap.size, 3, none⟩ = some (.slice A ks.length c)) (fun _ v7 _ => ks.length - (intOf v7).toNat)
                    case atStart => exact ⟨0, some M, rfl, by simp only [optI], Nat.zero_le _, by simp; omega, rfl, Gr.alloc _ _, (Blk.new w 45 _).cell 3⟩
                    case round =>
                      obtain ⟨k, st, rfl, rfl, hk, hst, hT, hgw, b3⟩ := hrel
                      have hblt := block_lt_of_cell b3
                      cases st with
                      | none =>
                        have hz := HO.out _ (HQ.out ▸ hT.none)
                        have HZ := Lib.hid hz
                        rw [optI_none]
                        clear hT hst hz
                        by_cases hlt : k < ks.length
                        · go_wp2
                          all_goals (try (exfalso; omega))
                          go_ret
                          exact ⟨ret_int (by rw [HZ.out]; rfl), hgw⟩
                        · go_wp2
                          all_goals (try (exfalso; omega))
                          go_ret
                          exact ⟨ret_int (by rw [HZ.out]; rfl), hgw⟩
                      | some m =>
                        have hm1 := hst m rfl
                        rw [optI_some]
                        by_cases hlt : k < ks.length
                        · obtain ⟨x, hxk⟩ : ∃ x, ks[k]? = some x := ⟨_, List.getElem?_eq_getElem hlt⟩
                          obtain ⟨ad, P, v0, v1, v2, v3, rfl, eP, hP, c0, c1, c2, c3, hsx⟩ := ex_cells (hr.gr hgw) (hl.gr hgw) rfl k x hxk
                          have hT2 := Lib.hid (hT.step hxk)
                          have hlt2 : ∀ q, mayX x m D = some q → q ≤ 1000 := fun q hq => by have := mayX_lt x m D q hq; omega
                          have HL2 := Lib.hid hlt2
                          have cL := ih x _ wr m D (hsz k x hxk) hsx hm1 hdm
                          generalize mayX x m D = st2 at *
                          clear hT hst hxk hlt2
                          go_wp2_with (go_at_call 47; (with_reducible refine cL.mono ?_); rintro e w1 ⟨rfl, hb1⟩)
                          all_goals (try (exfalso; omega))
                          go_roundw
                          case rel => exact ⟨k + 1, st2, by go_num, rfl, by omega, HL2.out, hT2.out, Gr.trans hgw hb1, (hb1.cell hblt).trans b3⟩
                          case measure => simp [intOf]; omega
                        · obtain rfl : k = ks.length := by omega
                          have hz := HO.out _ (HQ.out ▸ hT.end_)
                          have HZ := Lib.hid hz
                          clear hT hst hz
                          go_wp2
                          all_goals (try (exfalso; omega))
                          go_ret
                          exact ⟨ret_int (by rw [HZ.out]; rfl), hgw⟩
              · rw [if_neg (by omega)]
                simp only [optI]
                have hk2' : (ks.length : Int) < 2 := by omega
                clear ih hsz
                rcases h2 with rfl | rfl
                all_goals
                  clear ho
                  go_enter Tryz.func47, Tryz.ntmps47
                  go_wp2
                  all_goals (try (exfalso; omega))
                  go_ret
                  exact ⟨rfl, Gr.alloc _ _⟩
            · rw [if_neg (by omega)]
              simp only [optI]
              obtain ⟨s1, s2, s3⟩ := str_nil hms0
              clear ih hsz hms0
              rcases h2 with rfl | rfl
              all_goals
                clear ho
                go_enter Tryz.func47, Tryz.ntmps47
                go_wp2
                all_goals (try (exfalso; omega))
                go_ret
                exact ⟨rfl, Gr.alloc _ _⟩
          · rw [if_neg (by omega)]
            simp only [optI]
            have y1 : (days == 0) = false := by simp [hdy]
            have y2 : (days != 0) = true := by simp [hdy]
            have y3 : decide (days = 0) = false := by simp [hdy]
            clear ih hsz
            rcases h2 with rfl | rfl
            all_goals
              clear ho
              go_enter Tryz.func47, Tryz.ntmps47
              go_wp2
              all_goals (try (exfalso; omega))
              go_ret
              exact ⟨rfl, Gr.alloc _ _⟩
        · rw [if_neg (by omega)]
          simp only [optI]
          have y1 : (op == 2) = false := by simp; omega
          have y2 : (op != 2) = true := by simp; omega
          have y3 : (op == 3) = false := by simp; omega
          have y4 : (op != 3) = true := by simp; omega
          clear ih hsz
          go_enter Tryz.func47, Tryz.ntmps47
          go_wp2
          all_goals (try (exfalso; omega))
          go_ret
          exact ⟨rfl, Gr.alloc _ _⟩
theorem rmay_any (x : Ex) (v : Value) (w : World) (hx : RdEx w (· < w.heap.size) x v) : Calls Tryz.prog 30 #[v] w fun e w' => e = .returned (.bool (mayX x 24 8).isSome) ∧ Gr w w' := by
  obtain ⟨op, days, mile, ks⟩ := x
  obtain ⟨A, c, vs, rfl, _⟩ := hx.form
  have cL : ∀ W, Gr w W → Calls Tryz.prog 47 #[.agg #[.int .i64 op, .int .i64 days, .string mile, .slice A ks.length c], .int .i64 24, .int .i64 8] W fun e w' => e = .returned (.int .i64 (optI (mayX (.mk op days mile ks) 24 8))) ∧ Gr W w' := fun W hg => rleft_n _ (.mk op days mile ks) _ W 24 8 (Nat.le_refl _) (hx.gr hg) (by omega) (by omega)
  have hz : (mayX (.mk op days mile ks) 24 8).isSome = decide (0 ≤ optI (mayX (.mk op days mile ks) 24 8)) := by
    cases mayX (.mk op days mile ks) 24 8 with
    | none => rfl
    | some m => simp [optI]
  rw [hz]
  generalize optI (mayX (.mk op days mile ks) 24 8) = q at *
  clear hz
  go_enter Tryz.func30, Tryz.ntmps30
  go_wp2_with (go_at_call 47; (with_reducible refine (cL _ (Gr.alloc _ _)).mono ?_); rintro e w1 ⟨rfl, hb1⟩)
  go_ret
  exact ⟨rfl, Gr.trans (Gr.alloc _ _) hb1⟩
end Go.Proofs.YtogpmihepfnoaaaGreatDoor
