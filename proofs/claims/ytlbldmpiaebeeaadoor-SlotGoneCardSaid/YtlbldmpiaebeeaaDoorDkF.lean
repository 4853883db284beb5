/- Disks: the small methods: is, able, there, did, Size, Dead. -/
import Derived.Test.YtlbldmpiaebeeaaDoorDkE
import Derived.Test.YtlbldmpiaebeeaaDoorDkG
namespace Go.Proofs.YtlbldmpiaebeeaaDoor
open Go Go.RowKit Go.Maps Go.MapKept Go.ChangeMaps

theorem five_dk {W : World} {g : Nat} {T : TypeId} {x0 x1 x2 x3 x4 : Value} (h : Blk W g T #[x0, x1, x2, x3, x4]) : (W.cell? ⟨g, 0, none⟩ = some x0 ∧ W.cell? ⟨g, 1, none⟩ = some x1 ∧ W.cell? ⟨g, 2, none⟩ = some x2 ∧ W.cell? ⟨g, 3, none⟩ = some x3 ∧ W.cell? ⟨g, 4, none⟩ = some x4) ∧
    W.frozen? ⟨g, 0, none⟩ = false ∧ W.frozen? ⟨g, 1, none⟩ = false ∧ W.frozen? ⟨g, 2, none⟩ = false ∧ W.frozen? ⟨g, 3, none⟩ = false ∧ W.frozen? ⟨g, 4, none⟩ = false :=
  ⟨⟨h.cell 0, h.cell 1, h.cell 2, h.cell 3, h.cell 4⟩, h.frozen 0, h.frozen 1, h.frozen 2, h.frozen 3, h.frozen 4⟩
section
variable {w w' : World} {K K' : Nat → Prop} {g gs gm n m : Nat} {d : Dk}
theorem neq_mapD (W : World) (r : Option Nat) : (binOp .neq 59 (.map r) (.map none)).run Tryd.prog W = .ok (.bool (!r.isNone)) W := run_neq_map_nil (P := Tryd.prog) W 59 3 22 r Tryd.underlying59
set_option maxRecDepth 100000 in
theorem dk_is (h : DkAt w K g gs gm n m d) : Calls Tryd.prog 30 #[.pointer (some ⟨g, 0, none⟩)] w fun e w' => e = .returned (.bool true) ∧ w = w' := by
  obtain ⟨c, a, _, _, hb⟩ := h.top
  obtain ⟨⟨i0, i1, i2, i3, i4⟩, _⟩ := five_dk hb
  have q := neq_mapD
  go_enter Tryd.func30, Tryd.ntmps30
  go_wp2
  go_ret
  exact ⟨rfl, rfl⟩
def Dk.able (d : Dk) : Int := if d.dead then 8 else 0
set_option maxRecDepth 100000 in
theorem dk_able (h : DkAt w K g gs gm n m d) : Calls Tryd.prog 29 #[.pointer (some ⟨g, 0, none⟩)] w fun e w' => e = .returned (.int .i64 d.able) ∧ w = w' := by
  obtain ⟨c, a, _, _, hb⟩ := h.top
  obtain ⟨⟨i0, i1, i2, i3, i4⟩, _⟩ := five_dk hb
  have cI := dk_is h
  unfold Dk.able
  cases hd : d.dead <;> rw [hd] at i4
  all_goals
    go_enter Tryd.func29, Tryd.ntmps29
    go_wp2_with (go_at_call 30; (with_reducible refine cI.mono ?_); rintro e w1 ⟨rfl, rfl⟩)
    go_ret
    exact ⟨rfl, rfl⟩
set_option maxRecDepth 100000 in
theorem dk_there (h : DkAt w K g gs gm n m d) (i : Int) : Calls Tryd.prog 23 #[.pointer (some ⟨g, 0, none⟩), .int .i64 i] w fun e w' => e = .returned (.int .i64 (d.there i)) ∧ w = w' := by
  obtain ⟨c, a, hn, hcm, hb⟩ := h.top
  obtain ⟨⟨i0, i1, i2, i3, i4⟩, _⟩ := five_dk hb
  have hl := h.len
  have cA := dk_able h
  have hA : d.able = if d.dead then 8 else 0 := rfl
  unfold Dk.there
  cases hd : d.dead
  · rw [hd] at hA
    rw [hA] at cA
    by_cases h1 : i < 0
    · go_enter Tryd.func23, Tryd.ntmps23
      go_wp2_with (go_at_call 29; (with_reducible refine cA.mono ?_); rintro e w1 ⟨rfl, rfl⟩)
      all_goals (try (exfalso; omega))
      go_ret
      exact ⟨by simp [h1], rfl⟩
    · by_cases h2 : (n : Int) ≤ i
      · go_enter Tryd.func23, Tryd.ntmps23
        go_wp2_with (go_at_call 29; (with_reducible refine cA.mono ?_); rintro e w1 ⟨rfl, rfl⟩)
        all_goals (try (exfalso; omega))
        go_ret
        exact ⟨by simp [hl.1, h2], rfl⟩
      · go_enter Tryd.func23, Tryd.ntmps23
        go_wp2_with (go_at_call 29; (with_reducible refine cA.mono ?_); rintro e w1 ⟨rfl, rfl⟩)
        all_goals (try (exfalso; omega))
        go_ret
        exact ⟨by simp [hl.1, h1, h2], rfl⟩
  · rw [hd] at hA
    rw [hA] at cA
    go_enter Tryd.func23, Tryd.ntmps23
    go_wp2_with (go_at_call 29; (with_reducible refine cA.mono ?_); rintro e w1 ⟨rfl, rfl⟩)
    go_ret
    exact ⟨rfl, rfl⟩
set_option maxRecDepth 100000 in
theorem dk_did (h : DkAt w K g gs gm n m d) : Calls Tryd.prog 25 #[.pointer (some ⟨g, 0, none⟩)] w fun e w' => e = .returned (.int .i64 0) ∧ DkAt w' K g gs gm n m d.did ∧ But (· = g) w w' := by
  obtain ⟨c, a, hn, hcm, hb⟩ := h.top
  obtain ⟨⟨i0, i1, i2, i3, i4⟩, j0, j1, j2, j3, j4⟩ := five_dk hb
  obtain ⟨hf0, hf1⟩ := h.fz
  unfold Dk.did
  by_cases hp : 0 < d.fuse
  · rw [if_pos hp]
    by_cases hq : d.fuse = 1
    · have e : d.fuse - 1 = 0 := by omega
      rw [e]
      go_enter Tryd.func25, Tryd.ntmps25
      go_wp2
      all_goals (try (exfalso; omega))
      go_ret
      have hbt : ∀ x y z, But (· = g) w (((w.setCell ⟨g, 3, none⟩ x).setCell ⟨g, 2, none⟩ y).setCell ⟨g, 4, none⟩ z) := fun x y z => But.setCell (But.setCell (But.setCell (But.refl (· = g) w) (.inl rfl) _) (.inl rfl) _) (.inl rfl) _
      exact ⟨rfl, h.set_top (hbt _ _ _) 0 ⟨by decide, by decide⟩ true ⟨hn, hcm⟩ (((hb.set_ 3 _).set_ 2 _).set_ 4 _), hbt _ _ _⟩
    · have e : decide (d.fuse - 1 = 0) = false := decide_eq_false (by omega)
      rw [e]
      go_enter Tryd.func25, Tryd.ntmps25
      go_wp2
      all_goals (try (exfalso; omega))
      go_ret
      have hbt : ∀ x y z, But (· = g) w (((w.setCell ⟨g, 3, none⟩ x).setCell ⟨g, 2, none⟩ y).setCell ⟨g, 4, none⟩ z) := fun x y z => But.setCell (But.setCell (But.setCell (But.refl (· = g) w) (.inl rfl) _) (.inl rfl) _) (.inl rfl) _
      have e2 : (d.fuse - 1 == 0) = false := by rw [beq_eq_false_iff_ne]; omega
      rw [e2]
      exact ⟨rfl, h.set_top (hbt _ _ _) (d.fuse - 1) ⟨by omega, by omega⟩ false ⟨hn, hcm⟩ (((hb.set_ 3 _).set_ 2 _).set_ 4 _), hbt _ _ _⟩
  · rw [if_neg hp]
    go_enter Tryd.func25, Tryd.ntmps25
    go_wp2
    all_goals (try (exfalso; omega))
    go_ret
    have hbt : ∀ x, But (· = g) w (w.setCell ⟨g, 3, none⟩ x) := fun x => But.setCell (But.refl (· = g) w) (.inl rfl) _
    exact ⟨rfl, h.set_top (hbt _) d.fuse ⟨hf0, hf1⟩ d.dead ⟨hn, hcm⟩ (hb.set_ 3 _), hbt _⟩
end
end Go.Proofs.YtlbldmpiaebeeaaDoor
