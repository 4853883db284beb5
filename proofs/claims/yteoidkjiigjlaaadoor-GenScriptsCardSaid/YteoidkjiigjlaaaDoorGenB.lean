/- Dice of both sides: a throw. -/
import Derived.Test.YteoidkjiigjlaaaDoorGenP
import Derived.Test.YteoidkjiigjlaaaDoorRd
namespace Go.Proofs.YteoidkjiigjlaaaDoor
open Go Go.RowKit

/-- The program's dice in memory. -/
def DiceP (w : World) (g : Nat) (s : Int) : Prop := Blk w g 51 #[.bool true, .int .u64 s] ∧ IsS s
/-- The reference's. -/
def DiceR (w : World) (g : Nat) (s : Int) : Prop := Blk w g 48 #[.int .u64 s] ∧ IsS s
theorem two_cells_ {W : World} {g : Nat} {T : TypeId} {x0 x1 : Value} (h : Blk W g T #[x0, x1]) : W.cell? ⟨g, 0, none⟩ = some x0 ∧ W.cell? ⟨g, 1, none⟩ = some x1 ∧ W.frozen? ⟨g, 0, none⟩ = false ∧ W.frozen? ⟨g, 1, none⟩ = false :=
  ⟨h.cell 0, h.cell 1, h.frozen 0, h.frozen 1⟩
theorem next_eq (s : Int) : IntKind.u64.wrap (IntKind.u64.wrap (s * 2862933555777941757) + 3037000493) = nextS s := by
  rw [IntKind.wrap_u64, IntKind.wrap_u64]; rfl
theorem throw_eq (n s : Int) (h : 1 ≤ n) (hn : n ≤ 9223372036854775807) : wrap64 ((nextS s / 8589934592).tmod n) = belowN n s := by
  have hx := nextS_le s
  rw [belowN, if_neg (by omega), Int.tmod_eq_emod_of_nonneg (by omega)]
  have h1 := Int.emod_nonneg (nextS s / 8589934592) (show n ≠ 0 by omega)
  have h2 := Int.emod_lt_of_pos (nextS s / 8589934592) (show 0 < n by omega)
  generalize (nextS s / 8589934592) % n = m at *
  unfold wrap64
  omega
theorem throw_eq' (n s : Int) (h : 1 ≤ n) (hn : n ≤ 9223372036854775807) : wrap64 ((IntKind.u64.wrap ((nextS s).tdiv 8589934592)).tmod n) = belowN n s := by
  have hx := nextS_le s
  rw [← throw_eq n s h hn, Int.tdiv_eq_ediv_of_nonneg hx.1, IntKind.wrap_u64, Int.emod_eq_of_lt (by omega) (by omega)]
set_option maxRecDepth 100000 in
theorem below_any (w : World) (g : Nat) (n s : Int) (h : DiceP w g s) (hn : n ≤ 9223372036854775807) : Calls Tryd.prog 24 #[.pointer (some ⟨g, 0, none⟩), .int .i64 n] w fun e w' => e = .returned (.int .i64 (belowN n s)) ∧ DiceP w' g (belowS n s) ∧ GrX w w' g := by
  obtain ⟨hB, hS⟩ := h
  obtain ⟨c0, c1, f0, f1⟩ := two_cells_ hB
  obtain ⟨s0, s1⟩ := hS
  by_cases h1 : n < 1
  · have h2' : n ≤ 0 := by omega
    have h3' : decide (n < 1) = true := decide_eq_true h1
    go_enter Tryd.func24, Tryd.ntmps24
    go_wp2
    go_ret
    exact ⟨by rw [belowN, if_pos h1]; rfl, by rw [belowS, if_pos h1]; exact ⟨hB, s0, s1⟩, World.grownBy.refl _ _⟩
  · have h1' : 1 ≤ n := by omega
    have h2' : 0 < n := by omega
    go_enter Tryd.func24, Tryd.ntmps24
    go_wp2
    go_ret
    refine ⟨?_, ?_, GrX.set_ (World.grownBy.refl _ _) 1 _⟩
    · rw [← throw_eq n s h1' hn, ← next_eq]; rfl
    · rw [belowS, if_neg (by omega), ← next_eq]
      exact ⟨hB.set_ 1 _, by rw [next_eq]; exact nextS_le s⟩
set_option maxRecDepth 100000 in
theorem rbelow_any (w : World) (g : Nat) (n s : Int) (h : DiceR w g s) (hn : n ≤ 9223372036854775807) : Calls Tryd.prog 25 #[.pointer (some ⟨g, 0, none⟩), .int .i64 n] w fun e w' => e = .returned (.int .i64 (belowN n s)) ∧ DiceR w' g (belowS n s) ∧ GrX w w' g := by
  obtain ⟨hB, hS⟩ := h
  have c0 := hB.cell 0
  have f0 := hB.frozen 0
  obtain ⟨s0, s1⟩ := hS
  by_cases h1 : n < 1
  · have h2' : n ≤ 0 := by omega
    have h3' : decide (n < 1) = true := decide_eq_true h1
    go_enter Tryd.func25, Tryd.ntmps25
    go_wp2
    go_ret
    exact ⟨by rw [belowN, if_pos h1]; rfl, by rw [belowS, if_pos h1]; exact ⟨hB, s0, s1⟩, World.grownBy.refl _ _⟩
  · have h1' : 1 ≤ n := by omega
    have h2' : 0 < n := by omega
    go_enter Tryd.func25, Tryd.ntmps25
    go_wp2
    go_ret
    refine ⟨?_, ?_, GrX.set_ (World.grownBy.refl _ _) 0 _⟩
    · rw [← throw_eq' n s h1' hn, ← next_eq]; rfl
    · rw [belowS, if_neg (by omega), ← next_eq]
      exact ⟨hB.set_ 0 _, by rw [next_eq]; exact nextS_le s⟩
end Go.Proofs.YteoidkjiigjlaaaDoor
