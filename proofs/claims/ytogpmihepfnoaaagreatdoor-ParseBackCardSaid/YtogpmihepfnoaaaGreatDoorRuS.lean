/- Are rules few, and small? (whatever is answered) -/
import Derived.Test.YtogpmihepfnoaaaGreatDoorRuL
namespace Go.Proofs.YtogpmihepfnoaaaGreatDoor
open Go Go.RowKit Go.Sort

set_option maxRecDepth 100000 in
set_option maxHeartbeats 4000000 in
theorem small_n : ∀ (N : Nat) (x : Ex) (v : Value) (w : World) (most deep : Int), SizeOf.sizeOf x ≤ N → RdEx w (· < w.heap.size) x v → 0 ≤ most → most ≤ 60 → 0 ≤ deep → deep ≤ 30 →
    Calls Tryz.prog 17 #[v, .int .i64 most, .int .i64 deep] w fun e w' => ∃ z : Int, e = .returned (.int .i64 z) ∧ -1 ≤ z ∧ z ≤ 60 ∧ Gr w w'
  | 0, .mk op days mile ks, v, w, n, d, hN, _, _, _, _, _ => by
    have : 0 < SizeOf.sizeOf (Ex.mk op days mile ks) := by rw [Ex.mk.sizeOf_spec]; omega
    omega
  | N + 1, .mk op days mile ks, v, w, most, deep, hN, hx, hm0, hm1, hd0, hd1 => by
    have ih := small_n N
    obtain ⟨A, c, vs, rfl, ⟨hc, hcm, hms⟩, hr, hl⟩ := hx.form
    clear hx
    unfold maxLen at hcm
    have hsz : ∀ (k : Nat) (x : Ex), ks[k]? = some x → SizeOf.sizeOf x ≤ N := by
      intro k x hx
      have h1 := List.sizeOf_lt_of_mem (List.mem_of_getElem? hx)
      have h2 : SizeOf.sizeOf (Ex.mk op days mile ks) = 1 + SizeOf.sizeOf op + SizeOf.sizeOf days + SizeOf.sizeOf mile + SizeOf.sizeOf ks := Ex.mk.sizeOf_spec op days mile ks
      omega
    rcases (by omega : most < 1 ∨ (1 ≤ most ∧ deep < 1) ∨ (1 ≤ most ∧ 1 ≤ deep ∧ most < (ks.length : Int)) ∨ (1 ≤ most ∧ 1 ≤ deep ∧ (ks.length : Int) ≤ most ∧ 100 < (mile.size : Int)) ∨ (1 ≤ most ∧ 1 ≤ deep ∧ (ks.length : Int) ≤ most ∧ (mile.size : Int) ≤ 100)) with h | ⟨h, h'⟩ | ⟨h, h', h''⟩ | ⟨h, h', h'', h3⟩ | ⟨h, h', h'', h3⟩
    iterate 4
      · clear ih hsz
        go_enter Tryz.func17, Tryz.ntmps17
        go_wp2
        all_goals (try (exfalso; omega))
        go_ret
        exact ⟨-1, rfl, by omega, by omega, Gr.alloc _ _⟩
    · obtain ⟨M, hM⟩ : ∃ M, most - 1 = M := ⟨_, rfl⟩
      obtain ⟨D, hD⟩ : ∃ D, deep - 1 = D := ⟨_, rfl⟩
      have g1 : decide (most < 1) = false := decide_eq_false (by omega)
      have g2 : decide (deep < 1) = false := decide_eq_false (by omega)
      have g3 : decide (most < (ks.length : Int)) = false := decide_eq_false (by omega)
      have g4 : decide (100 < (mile.size : Int)) = false := decide_eq_false (by omega)
      have hD0 : 0 ≤ D := by omega
      have hD1 : D ≤ 30 := by omega
      have hM0 : 0 ≤ M := by omega
      have hM1 : M ≤ 60 := by omega
      go_enter Tryz.func17, Tryz.ntmps17
      go_wp2
      all_goals (try (exfalso; omega))
      clear g1 g2 g3 g4
      go_loopw [1, 7] (fun v1 v7 wr => ∃ (k : Nat) (z : Int), v7 = .int .i64 (k : Int) ∧ v1 = .int .i64 z ∧ k ≤ ks.length ∧ -1 ≤ z ∧ z ≤ 60 ∧ Gr w wr ∧ wr.cell? ⟨w.heap.size, 3, none⟩ = some (.slice A ks.length c)) (fun _ v7 _ => ks.length - (intOf v7).toNat)
      case atStart => exact ⟨0, M, rfl, rfl, Nat.zero_le _, by omega, by omega, Gr.alloc _ _, (Blk.new w 45 _).cell 3⟩
      case round =>
        obtain ⟨k, z, rfl, rfl, hk, hz0, hz1, hgw, b3⟩ := hrel
        have hblt := block_lt_of_cell b3
        by_cases hz : 0 ≤ z
        · by_cases hlt : k < ks.length
          · obtain ⟨x, hxk⟩ : ∃ x, ks[k]? = some x := ⟨_, List.getElem?_eq_getElem hlt⟩
            obtain ⟨ad, P, v0, v1, v2, v3, rfl, eP, hP, c0, c1, c2, c3, hsx⟩ := ex_cells (hr.gr hgw) (hl.gr hgw) rfl k x hxk
            have cL := ih x _ wr z D (hsz k x hxk) hsx hz hz1 hD0 hD1
            clear hxk
            go_wp2_with (go_at_call 17; (with_reducible refine cL.mono ?_); rintro e w1 ⟨z2, rfl, hz2, hz3, hb1⟩)
            all_goals (try (exfalso; omega))
            go_roundw
            case rel => exact ⟨k + 1, z2, by go_num, rfl, by omega, hz2, hz3, Gr.trans hgw hb1, (hb1.cell hblt).trans b3⟩
            case measure => simp [intOf]; omega
          · obtain rfl : k = ks.length := by omega
            go_wp2
            all_goals (try (exfalso; omega))
            go_ret
            exact ⟨z, rfl, hz0, hz1, hgw⟩
        · have hz2 : z < 0 := by omega
          by_cases hlt : k < ks.length
          all_goals
            go_wp2
            all_goals (try (exfalso; omega))
            go_ret
            exact ⟨z, rfl, hz0, hz1, hgw⟩
theorem rdrus_slice {w : World} {K : Nat → Prop} {v : Value} {rs : List Ru} (h : RdRus w K v rs) : ∃ A c, v = .slice A rs.length c ∧ rs.length ≤ c ∧ c ≤ maxLen := h.form
/-- A yes or a no. -/
def SomeB (e : Ending) : Prop := ∃ b : Bool, e = .returned (.bool b)
set_option maxRecDepth 100000 in
set_option maxHeartbeats 4000000 in
theorem rsmall_any (rs : List Ru) (v : Value) (w : World) (h : RdRus w (· < w.heap.size) v rs) : Calls Tryz.prog 12 #[v] w fun e w' => SomeB e ∧ Gr w w' := by
  obtain ⟨A, c, rfl, hc, hcm⟩ := h.form
  unfold maxLen at hcm
  go_enter Tryz.func12, Tryz.ntmps12
  go_wp2
  go_loopw [3] (fun v3 wr => ∃ k : Nat, v3 = .int .i64 (k : Int) ∧ k ≤ rs.length ∧ Gr w wr) (fun v3 _ => rs.length - (intOf v3).toNat)
  case atStart => exact ⟨0, rfl, Nat.zero_le _, Gr.refl _⟩
  case round =>
    obtain ⟨k, rfl, hk, hgw⟩ := hrel
    by_cases hlt : k < rs.length
    · by_cases h40 : k < 40
      · obtain ⟨⟨cl, x, ac⟩, hxk⟩ : ∃ x, rs[k]? = some x := ⟨_, List.getElem?_eq_getElem hlt⟩
        obtain ⟨ad, P, v0, v1, v2, v3, rfl, eP, hP, c0, c1, c2, c3, c4, c5, hs, hsx⟩ := (h.gr hgw).at_ k _ hxk
        dsimp only at c0 c5 hs hsx
        have cL : Calls Tryz.prog 17 #[.agg #[v0, v1, v2, v3], .int .i64 60, .int .i64 30] wr fun e w' => ∃ z : Int, e = .returned (.int .i64 z) ∧ -1 ≤ z ∧ z ≤ 60 ∧ Gr wr w' := small_n _ x _ wr 60 30 (Nat.le_refl _) hsx (by omega) (by omega) (by omega) (by omega)
        clear hxk
        go_wp2_with (go_at_call 17; (with_reducible refine cL.mono ?_); rintro e w1 ⟨z2, rfl, hz2, hz3, hb1⟩)
        all_goals first
          | (exfalso; omega)
          | (go_ret; exact ⟨⟨false, rfl⟩, by first | exact hgw | exact Gr.trans hgw hb1⟩)
          | (go_roundw
             case rel => exact ⟨k + 1, by go_num, by omega, Gr.trans hgw hb1⟩
             case measure => simp [intOf]; omega)
      · go_wp2
        all_goals (try (exfalso; omega))
        go_ret
        exact ⟨⟨_, rfl⟩, hgw⟩
    · obtain rfl : k = rs.length := by omega
      go_wp2
      all_goals (try (exfalso; omega))
      go_ret
      exact ⟨⟨_, rfl⟩, hgw⟩
end Go.Proofs.YtogpmihepfnoaaaGreatDoor
