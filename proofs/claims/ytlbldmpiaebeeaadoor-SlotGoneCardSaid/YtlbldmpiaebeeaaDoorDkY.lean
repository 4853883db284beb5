/- Disks: Fuse; a Write and a Flush behind it; disks without a write that waits. -/
import Derived.Test.YtlbldmpiaebeeaaDoorDkR
namespace Go.Proofs.YtlbldmpiaebeeaaDoor
open Go Go.RowKit Go.Maps Go.MapKept Go.ChangeMaps

section
variable {w w' : World} {K K' : Nat → Prop} {g gs gm n m : Nat} {d : Dk}
set_option maxRecDepth 100000 in
theorem dk_fuse (h : DkAt w K g gs gm n m d) (k : Int) (hk : 0 < k) (hk2 : k ≤ 9223372036854775807) (hd : d.dead = false) : Calls Tryd.prog 15 #[.pointer (some ⟨g, 0, none⟩), .int .i64 k] w fun e w' => e = .returned (.tuple #[]) ∧ DkAt w' K g gs gm n m { d with fuse := k, dead := false } ∧ But (· = g) w w' := by
  obtain ⟨c, a, hn, hcm, hb⟩ := h.top
  obtain ⟨⟨i0, i1, i2, i3, i4⟩, j0, j1, j2, j3, j4⟩ := five_dk hb
  have cA := dk_able h
  rw [show d.able = 0 by unfold Dk.able; rw [hd]; rfl] at cA
  have e1 : max k (-1) = k := by omega
  have e2 : (k == 0) = false := by rw [beq_eq_false_iff_ne]; omega
  have e3 : decide (k = 0) = false := decide_eq_false (by omega)
  go_enter Tryd.func15, Tryd.ntmps15
  go_wp2_with (go_at_call 29; (with_reducible refine cA.mono ?_); rintro e w1 ⟨rfl, rfl⟩)
  go_end0
  have hbt : ∀ y z, But (· = g) w ((w.setCell ⟨g, 2, none⟩ y).setCell ⟨g, 4, none⟩ z) := fun y z => But.setCell (But.setCell (But.refl (· = g) w) (.inl rfl) _) (.inl rfl) _
  exact ⟨rfl, h.set_top (hbt _ _) k ⟨by omega, hk2⟩ false ⟨hn, hcm⟩ ((hb.set_ 2 _).set_ 4 _), hbt _ _⟩
end
/-- A Write, and a Flush behind it. -/
def Dk.over2 (d : Dk) (i : Int) (l : List UInt8) : Int × Dk := if (d.write i l).1 ≠ 0 then d.write i l else (d.write i l).2.flush
/-- A disk in which nothing waits. -/
def DQ (s : List (List UInt8)) : Dk := ⟨s, List.replicate s.length none, -1, false⟩
theorem Dk.new_dq (n : Nat) : Dk.new n = DQ (List.replicate n (fullS 0)) := by
  unfold Dk.new DQ
  rw [List.length_replicate]
theorem zip_none (s : List (List UInt8)) : List.zipWith Dk.over s (List.replicate s.length none) = s := by
  induction s with
  | nil => rfl
  | cons a s ih => rw [List.length_cons, List.replicate_succ, List.zipWith_cons_cons, ih]; rfl
theorem zip_set (s : List (List UInt8)) (i : Nat) (l : List UInt8) : List.zipWith Dk.over s ((List.replicate s.length none).set i (some l)) = s.set i l := by
  induction s generalizing i with
  | nil => simp
  | cons a s ih =>
    rw [List.length_cons, List.replicate_succ]
    cases i with
    | zero => rw [List.set_cons_zero, List.zipWith_cons_cons, zip_none, List.set_cons_zero]; rfl
    | succ i => rw [List.set_cons_succ, List.zipWith_cons_cons, ih, List.set_cons_succ]; rfl
theorem map_none (s : List (Option (List UInt8))) : s.map (fun _ => (none : Option (List UInt8))) = List.replicate s.length none := by
  induction s with
  | nil => rfl
  | cons a s ih => rw [List.map_cons, ih, List.length_cons, List.replicate_succ]
theorem dq_over (s : List (List UInt8)) (i : Nat) (l : List UInt8) (hi : i < s.length) (hl : l.length = 256) : (DQ s).over2 i l = (0, DQ (s.set i l)) := by
  have h1 : (DQ s).there i = 0 := by
    unfold Dk.there DQ
    simp only [Bool.false_eq_true, if_false]
    rw [if_neg (by omega)]
  have h2 : (DQ s).write i l = (0, (DQ s).put i l) := by
    unfold Dk.write
    rw [h1]
    simp only [ne_eq, not_true, if_false, hl, Int.toNat_natCast]
    rfl
  unfold Dk.over2
  rw [h2]
  simp only [ne_eq, not_true, if_false]
  unfold Dk.flush
  rw [show ((DQ s).put i l).dead = false from rfl]
  simp only [Bool.false_eq_true, if_false]
  congr 1
  unfold Dk.flushed Dk.put DQ
  simp only [zip_set, map_none, List.length_set, List.length_replicate]
  rfl
end Go.Proofs.YtlbldmpiaebeeaaDoor
