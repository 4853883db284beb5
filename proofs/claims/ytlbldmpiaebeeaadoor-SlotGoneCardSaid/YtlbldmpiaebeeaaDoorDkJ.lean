/- Disks: Pending: the map's keys, sorted (lines of the worked text on sorted keys, turned to this claim). -/
import Derived.Test.YtlbldmpiaebeeaaDoorDkF
import Derived.Test.YtlbldmpiaebeeaaDoorShelf
import Derived.Test.YtlbldmpiaebeeaaDoorShelf2
namespace Go.Proofs.YtlbldmpiaebeeaaDoor
open Go Go.RowKit Go.Maps Go.Sort Go.Shelf Go.Proofs

/-- slices.Sort's two contracts at this dump, at the fence that asks nothing. -/
theorem sortsD (m : Nat) : AnyZI.SortsIn Tryd.prog Tryd.sorted38_ren Fence.wide m :=
  ⟨fun blk off cap ss W hH hblk hsz => callsIn_wide.2 (Tryd.slices_Sort_int blk off cap ss W hH hblk hsz), fun p cap W => callsIn_wide.2 (Tryd.slices_Sort_int_none p cap W)⟩
set_option maxRecDepth 100000 in
set_option maxHeartbeats 1000000 in
theorem dk_pending {w : World} {K : Nat → Prop} {g gs gm n m : Nat} {d : Dk} (h : DkAt w K g gs gm n m d) :
    Calls Tryd.prog 31 #[.pointer (some ⟨g, 0, none⟩)] w fun e w' => ∃ v, e = .returned v ∧ w'.ownsRow w.heap.size 3 1 v d.pending.length (d.pending.map fun i : Nat => Value.int .i64 (i : Int)) ∧ Gr w w' := by
  obtain ⟨f, ⟨D, hown, h1, h2, h3⟩, hf⟩ := h.map
  have hf' : MapOk w K n d f := hf
  have hlen := h.len
  have hpm := keys_perm hown Tryd.underlying3 h1 h2 h3
  have hsz := size_keys hown Tryd.underlying3 hpm
  have hpk := pending_keys hlen.2.1 (fun i hi => hf'.isSome i hi)
  have hmax : Maps.size D ≤ maxLen := by unfold maxLen; omega
  have hbytes : Maps.size D * 8 ≤ 140737488355328 := by omega
  obtain ⟨c, a, _, _, hb⟩ := h.top
  obtain ⟨⟨i0, i1, i2, i3, i4⟩, _⟩ := five_dk hb
  have cI := (callsIn_wide (n := 5)).2 (dk_is h)
  refine (callsIn_wide (n := 6)).1 ?_
  have hbl := hown.lt
  have hseq : SeqGives Fence.wide 2 Tryd.prog 51 #[.pointer (some ⟨w.heap.size, 0, none⟩)] encZ (fun ss => ss.Perm (intKeys D)) (Maps.size D) (w.alloc (.cells #[.map (some gm)] 59)) :=
    AnyZI.keys_gives (ρ := Tryd.keys39_ren) { Tryd.keys39 with } Fence.wide _ trivial rfl (by omega) w.heap.size gm m D _ (by simp) (by simp) (by
      obtain ⟨es, clock, hb, Ft, hs, hD⟩ := hown
      exact ⟨es, clock, (Below.heap_alloc _ _ gm hbl).trans hb, Ft, hs, hD⟩)
  have cK : ∀ mb W, CallsIn Fence.wide 5 Tryd.prog 39 #[.map mb] W fun e w' => e = .returned (.func (.func 51) #[] #[.pointer (some ⟨W.heap.size, 0, none⟩)]) ∧ w' = W.alloc (.cells #[.map mb] 59) := fun mb W => AnyZI.keys_in Tryd.keys39 Fence.wide 5 trivial rfl mb W
  have cS := AnyZI.sorted_in Tryd.sorted38 Fence.wide 5 trivial trivial trivial trivial rfl (by omega) (sortsD _) (enters_of Tryd.func50 (by kernel_rfl) rfl) 51 #[.pointer (some ⟨w.heap.size, 0, none⟩)] trivial (enters_of Tryd.func51 (by kernel_rfl) rfl) _ _ hmax hbytes _ hseq
  change CallsIn _ _ Tryd.prog 38 _ _ _ at cS
  have hfI : Fence.wide.fn 30 := trivial
  have hfK : Fence.wide.fn 39 := trivial
  have hfS : Fence.wide.fn 38 := trivial
  refine callsIn_of_wp Tryd.func31 rfl trivial ?_ rfl
  simp only [Tryd.ntmps31, List.size_toArray, List.length_cons, List.length_nil, Nat.reduceAdd, Nat.reduceSub, Array.replicate_succ, Array.replicate_zero, List.push_toArray, List.append_toArray, List.nil_append, List.cons_append]
  gi_wp2_with (first
    | (gi_at_call 30; refine cI.mono ?_; rintro e w1 ⟨rfl, rfl⟩)
    | (gi_at_call 39; refine (cK _ _).mono ?_; rintro e w' ⟨rfl, rfl⟩)
    | (gi_at_call 38; refine cS.mono ?_; rintro e w' ⟨v, ss, rfl, hS, hrow, hnil, hb2⟩))
  go_ret
  rw [keys_sorted hpm hS, hpk] at hrow
  have hl : ss.length = d.pending.length := by
    have e1 := (hS.trans hpm.symm).length_eq
    rw [List.length_map, hpk] at e1
    exact e1
  rw [hl, List.map_map] at hrow
  exact ⟨v, rfl, ownsRow_base_a hrow (by simp), ((Below.refl _ w).alloc (Nat.le_refl _) _).trans (hb2.mono (by simp))⟩
end Go.Proofs.YtlbldmpiaebeeaaDoor
