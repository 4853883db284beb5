/- Disks: Image. -/
import Derived.Test.YtlbldmpiaebeeaaDoorDkP
namespace Go.Proofs.YtlbldmpiaebeeaaDoor
open Go Go.RowKit Go.Maps Go.MapKept Go.ChangeMaps

theorem ownB_own {w w' : World} {base base' n : Nat} {v u : Value} {xs : List Value} {l : List UInt8} (h : OwnB w base u l) (hw : w.ownsRow base' 22 1 v n xs) (hg : w.grownBy w' v.ownBlock) : OwnB w' base u l := by
  refine ⟨h.1, ?_⟩
  rcases h.2 with h0 | ⟨gb, cap, cur, e1, e2, e3, e4⟩
  · exact .inl h0
  · refine .inr ⟨gb, cap, cur, e1, e2, ?_, e4⟩
    rw [hg.block gb (Array.getElem?_eq_some_iff.1 e3).1 (fun e => own_blk_ne hw (g := gb) (t := 5) (cs := cur) e3 (by decide) e.symm)]
    exact e3
theorem own_grD2 {w w' : World} {base e size n : Nat} {v : Value} {xs : List Value} (h : w.ownsRow base e size v n xs) (hbase : base ≤ w.heap.size) (hg : w.grownBy w' v.ownBlock) : Below base w w' := by
  refine (Below.refl base w).grown hg hbase fun k hk => ?_
  rcases h.2 with ⟨rfl, _⟩ | ⟨g, cap, cur, rfl, e2, _⟩
  · simp [Value.ownBlock] at hk
  · simp [Value.ownBlock] at hk
    omega
section
variable {w w' : World} {K : Nat → Prop} {g gs gm n m : Nat} {d : Dk}
/-- Rows of bytes, each in memory of its own. -/
def RowsW (w : World) (base : Nat) (ls : List (List UInt8)) (k : Nat) (vs : List Value) : Prop := ∀ (i : Nat) u l, i < k → vs[i]? = some u → ls[i]? = some l → OwnB w base u l
set_option maxRecDepth 100000 in
set_option maxHeartbeats 4000000 in
theorem dk_image (h : DkAt w K g gs gm n m d) (hl : ∀ l ∈ d.safe, l.length ≤ 1000000) : Calls Tryd.prog 17 #[.pointer (some ⟨g, 0, none⟩)] w fun e w' => ∃ v vs, e = .returned v ∧ w'.ownsRow w.heap.size 22 1 v n vs ∧ RowsW w' w.heap.size d.safe n vs ∧ Gr w w' := by
  have cI := dk_is h
  have hlen := h.len
  obtain ⟨c, a, hc1, hc2, hb⟩ := h.top
  obtain ⟨⟨i0, i1, i2, i3, i4⟩, _⟩ := five_dk hb
  obtain ⟨cs, hB, hr⟩ := h.row
  have hKl : ∀ b, K b → b < w.heap.size := fun b hb => (h.kk b hb).1
  have hgs := hB.lt
  go_enter Tryd.func17, Tryd.ntmps17
  go_wp2_with (go_at_call 30; (with_reducible refine cI.mono ?_); rintro e w1 ⟨rfl, rfl⟩)
  go_loopw [3, 14] (fun v3 v14 wr => ∃ (k : Nat) (vs : List Value), v14 = .int .i64 k ∧ k ≤ n ∧ wr.ownsRow w.heap.size 22 1 v3 k vs ∧ RowsW wr w.heap.size d.safe k vs ∧ Gr w wr) (fun _ v14 _ => n - (intOf v14).toNat)
  case atStart => exact ⟨0, [], rfl, Nat.zero_le _, ⟨rfl, .inl ⟨rfl, rfl⟩⟩, fun i u l hi => absurd hi (Nat.not_lt_zero i), Gr.refl _⟩
  case round =>
    obtain ⟨k, vs, rfl, hk, ho, hR, hg⟩ := hrel
    by_cases hp : k < n
    · have hs : d.safe[k]? = some d.safe[k] := List.getElem?_eq_getElem (by omega)
      obtain ⟨v, hcv, hq⟩ := hr k _ hs
      have hcell : wr.cell? ⟨gs, k, none⟩ = some v := (hg.cell (p := ⟨gs, k, none⟩) hgs).trans ((hB.cell k).trans hcv)
      have hll := hl d.safe[k] (List.getElem_mem _)
      have hvl : vs.length = k := by have := ho.1; omega
      generalize d.safe[k] = l at hs hq hll
      have cC := clone_d wr w.heap.size v l hg.size ((hq.rd hKl).gr (Nat.le_refl _) hg) (by omega)
      clear hcv
      obtain ⟨wA, hwA⟩ : ∃ wA : World, True := ⟨w, trivial⟩
      go_wp2_with (first
        | (go_at_call 24; (with_reducible refine cC.mono ?_); rintro e w2 ⟨u, rfl, hou, hg2⟩
           obtain ⟨uA, uc, rfl, _⟩ := id hou.rk
           have hB2 := Blk.new w2 22 #[.slice uA l.length uc]
           have ho2 := ownsRow_gr (ownsRow_gr ho hg2) (Gr.alloc w2 (.cells #[.slice uA l.length uc] 22))
           have hgA := Gr.trans hg (Gr.trans hg2 (Gr.alloc w2 (.cells #[.slice uA l.length uc] 22)))
           have hu1 : (Value.slice uA l.length uc).oneCell' = true := rfl)
        | (at_builtin; refine wpList_appendD _ rfl _ _ rfl w.heap.size u3 k vs rfl ho2 w2.heap.size (.slice uA l.length uc) rfl hB2 hu1 (by omega) hgA.size ?_
           intro v' w4 ho4 hg4 ha4))
      go_roundw
      case rel =>
        refine ⟨k + 1, vs ++ [.slice uA l.length uc], by go_num, by omega, ho4, fun i x l' hi hx hl' => ?_, Below.trans hgA (own_grD2 ho2 hgA.size hg4)⟩
        refine ownB_own ?_ ho2 hg4
        by_cases e : i = k
        · subst e
          rw [List.getElem?_append_right (by omega), hvl, Nat.sub_self] at hx
          injection hx with hx
          rw [hs] at hl'
          injection hl' with hl'
          subst hx hl'
          exact OwnB.gr (hou.lower hg.size) (Gr.alloc _ _)
        · rw [List.getElem?_append_left (by omega)] at hx
          exact OwnB.gr (OwnB.gr (hR i x l' (by omega) hx hl') hg2) (Gr.alloc _ _)
      case measure => simp [intOf]; omega
    · obtain rfl : k = n := by omega
      go_wp2
      go_ret
      exact ⟨_, vs, rfl, ho, hR, hg⟩
end
end Go.Proofs.YtlbldmpiaebeeaaDoor
