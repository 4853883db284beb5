/- Disks: Read, Write (a region that draws its order: the clone, then the store in the map). -/
import Derived.Test.YtlbldmpiaebeeaaDoorDkJ
import Derived.Test.YtlbldmpiaebeeaaDoorDkH
import Derived.Test.YtlbldmpiaebeeaaDoorFacts
import Derived.DataShut
namespace Go.Proofs.YtlbldmpiaebeeaaDoor
open Go Go.RowKit Go.Maps Go.MapKept Go.ChangeMaps

section
variable {w w' : World} {K K' : Nat → Prop} {g gs gm n m : Nat} {d : Dk}
theorem zero_bytesD (W : World) : (zeroValue 22).run Tryd.prog W = .ok (.slice none 0 0) W := by kernel_rfl
theorem wf_small {i : Nat} (h : i < 1024) : (Lit.int .i64 (i : Int)).wf = true := (Lit.wf_int_iff .i64 _).2 ⟨by show (-9223372036854775808 : Int) ≤ i; omega, by show (i : Int) ≤ 9223372036854775807; omega⟩
theorem key_small {i : Nat} (h : i < 1024) : keyOf Tryd.prog 3 (.int .i64 (i : Int)) = some (.int .i64 (i : Int)) := keyOf_int_mk Tryd.underlying3 (wf_small h)
theorem intD : Keyed Tryd.prog 3 := int_keyed Tryd.underlying3
theorem there_ok {i : Int} (h : d.there i = 0) (hl : d.safe.length = n) : ∃ k : Nat, i = k ∧ k < n ∧ d.dead = false := by
  unfold Dk.there at h
  cases hd : d.dead
  · rw [hd, if_neg (by decide)] at h
    by_cases hc : i < 0 ∨ (d.safe.length : Int) ≤ i
    · rw [if_pos hc] at h; cases h
    · exact ⟨i.toNat, by omega, by omega, rfl⟩
  · rw [hd, if_pos rfl] at h; cases h
set_option maxRecDepth 100000 in
theorem dk_read_no (h : DkAt w K g gs gm n m d) (i : Int) (hi : d.there i ≠ 0) : Calls Tryd.prog 32 #[.pointer (some ⟨g, 0, none⟩), .int .i64 i] w fun e w' => e = .returned (.tuple #[.slice none 0 0, .int .i64 (d.there i)]) ∧ w = w' := by
  have cT := dk_there h i
  generalize d.there i = c at *
  go_enter Tryd.func32, Tryd.ntmps32
  go_wp2_with (go_at_call 23; (with_reducible refine cT.mono ?_); rintro e w1 ⟨rfl, rfl⟩)
  all_goals (try (exfalso; omega))
  go_ret2
  exact ⟨rfl, rfl⟩
set_option maxRecDepth 100000 in
set_option maxHeartbeats 1000000 in
theorem dk_read (h : DkAt w K g gs gm n m d) (i : Nat) (hi : d.there i = 0) (hl : (d.at_ i).length ≤ 1000000) : Calls Tryd.prog 32 #[.pointer (some ⟨g, 0, none⟩), .int .i64 i] w fun e w' => ∃ v, e = .returned (.tuple #[v, .int .i64 0]) ∧ OwnB w' w.heap.size v (d.at_ i) ∧ Gr w w' := by
  have cT := dk_there h i
  rw [hi] at cT
  obtain ⟨k, ek, hk, _⟩ := there_ok hi h.len.1
  obtain rfl : i = k := by omega
  have hlen := h.len
  obtain ⟨f, ⟨D, hown, h1, h2, h3⟩, hf⟩ := h.map
  obtain ⟨c, a, hc1, hc2, hb⟩ := h.top
  obtain ⟨⟨i0, i1, i2, i3, i4⟩, _⟩ := five_dk hb
  obtain ⟨cs, hB, hr⟩ := h.row
  have hKl : ∀ b, K b → b < w.heap.size := fun b hb => (h.kk b hb).1
  have hky := key_small (i := i) (by omega)
  have hs : d.safe[i]? = some d.safe[i] := List.getElem?_eq_getElem (by omega)
  rcases hf i hk with ⟨hn0, hw⟩ | ⟨v, l, hv, hw, hq⟩
  · have hnh := h2 i hk hn0
    have hat : d.at_ i = d.safe[i] := by unfold Dk.at_; rw [List.getD_eq_getElem?_getD, List.getD_eq_getElem?_getD, hs, hw]; rfl
    rw [hat] at hl ⊢
    obtain ⟨v, hcv, hq⟩ := hr i _ hs
    have hcell : w.cell? ⟨gs, i, none⟩ = some v := (hB.cell i).trans hcv
    have cC := clone_d w w.heap.size v _ (Nat.le_refl _) (hq.rd hKl) (by omega)
    go_enter Tryd.func32, Tryd.ntmps32
    go_wp2_with (first
      | (go_at_call 23; (with_reducible refine cT.mono ?_); rintro e w1 ⟨rfl, rfl⟩)
      | (at_lookup; refine wpList_look_no_held _ rfl _ _ 59 rfl 3 22 intD Tryd.underlying59 (zero_bytesD _) gm m D rfl hown _ _ rfl hky hnh ?_)
      | (go_at_call 24; (with_reducible refine cC.mono ?_); rintro e w2 ⟨u, rfl, ho, hg⟩))
    all_goals (try (exfalso; omega))
    go_ret2
    exact ⟨_, rfl, ho, hg⟩
  · have hat : d.at_ i = l := by unfold Dk.at_; rw [List.getD_eq_getElem?_getD, List.getD_eq_getElem?_getD, hs, hw]; rfl
    rw [hat] at hl ⊢
    have cC := clone_d w w.heap.size v _ (Nat.le_refl _) (hq.rd hKl) (by omega)
    have hat2 := h1 i hk v hv
    go_enter Tryd.func32, Tryd.ntmps32
    go_wp2_with (first
      | (go_at_call 23; (with_reducible refine cT.mono ?_); rintro e w1 ⟨rfl, rfl⟩)
      | (at_lookup; refine wpList_look_ok_held _ rfl _ _ 59 rfl 3 22 intD Tryd.underlying59 (zero_bytesD _) gm m D rfl hown _ _ rfl hky v hat2 ?_)
      | (go_at_call 24; (with_reducible refine cC.mono ?_); rintro e w2 ⟨u, rfl, ho, hg⟩))
    all_goals (try (exfalso; omega))
    go_ret2
    exact ⟨_, rfl, ho, hg⟩
end
end Go.Proofs.YtlbldmpiaebeeaaDoor
