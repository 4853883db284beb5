/- strings.Builder: what a writing leaves as it was. -/
import Derived.Test.YtogpmihepfnoaaaDoorRuD
import Derived.Lib.AppendStr
namespace Go.Proofs.YtogpmihepfnoaaaDoor
open Go Go.RowKit Go.Sort

/-- Blocks of other types stay. -/
def KeepT (w w' : World) : Prop := ∀ (j : Nat) (T : TypeId) (cs : Array Value) (fr : Nat × Nat), w.heap[j]? = some (.cells cs T fr) → T ≠ 74 → T ≠ 5 → w'.heap[j]? = w.heap[j]?
theorem KeepT.refl (w : World) : KeepT w w := fun _ _ _ _ _ _ _ => rfl
theorem KeepT.trans {a b c : World} (h : KeepT a b) (h' : KeepT b c) : KeepT a c := fun j T cs fr hj h1 h2 => by
  have e := h j T cs fr hj h1 h2
  rw [h' j T cs fr (e.trans hj) h1 h2, e]
theorem KeepT.blk {w w' : World} {g : Nat} {T : TypeId} {cs : Array Value} (h : KeepT w w') (hb : Blk w g T cs) (h1 : T ≠ 74) (h2 : T ≠ 5) : Blk w' g T cs := (h g T cs (0, 0) hb h1 h2).trans hb
theorem KeepT.set_ {w : World} {b i : Nat} {cs : Array Value} {v : Value} (hb : w.heap[b]? = some (.cells cs 74 (0, 0))) : KeepT w (w.setCell ⟨b, i, none⟩ v) := by
  intro j T cs' fr hj h1 _
  refine Below.heap_setCell w ⟨b, i, none⟩ v j (fun e => ?_)
  have e : j = b := e
  rw [e, hb] at hj
  injection hj with hj
  injection hj with _ h3 _
  exact h1 h3.symm
theorem KeepT.grown {w w' : World} {B n : Nat} {v : Value} {xs : List Value} (hown : w.ownsRow B 5 1 v n xs) (hg : w.grownBy w' v.ownBlock) : KeepT w w' := by
  intro j T cs fr hj h1 h2
  have hlt : j < w.heap.size := by
    rcases Nat.lt_or_ge j w.heap.size with h | h
    · exact h
    · rw [Array.getElem?_eq_none h] at hj; cases hj
  refine hg.block j hlt (fun e => ?_)
  rcases hown.2 with ⟨rfl, _⟩ | ⟨g, cap, cur, rfl, e2, e3, e4, e5⟩
  · simp [Value.ownBlock] at e
  · simp [Value.ownBlock] at e
    subst e
    rw [e3] at hj
    injection hj with hj
    injection hj with _ h3 _
    exact h2 h3.symm
theorem isb_gr {w w' : World} {T e : TypeId} {B b : Nat} {bs : List Value} (h : Lib.IsBuilder T e B b bs w) (hg : Gr w w') : Lib.IsBuilder T e B b bs w' := by
  have one : ∀ p, Lib.BuilderAt T e B b p bs w → Lib.BuilderAt T e B b p bs w' := by
    rintro p ⟨hB, v, hb, ho, hn⟩
    have hlt : b < w.heap.size := by
      rcases Nat.lt_or_ge b w.heap.size with h | h
      · exact h
      · rw [Array.getElem?_eq_none h] at hb; cases hb
    exact ⟨hB, v, (hg.block b hlt).trans hb, ownsRow_gr ho hg, hn⟩
  exact h.elim (fun h => .inl (one _ h)) (fun h => .inr (one _ h))
theorem isb_new (w : World) (B : Nat) (hB : B ≤ w.heap.size) : Lib.IsBuilder 74 5 B w.heap.size [] (w.alloc (.cells #[.pointer none, .slice none 0 0] 74)) :=
  .inl ⟨hB, .slice none 0 0, Blk.new w _ _, ⟨rfl, .inl ⟨rfl, rfl⟩⟩, by simp [Value.ownBlock]⟩
theorem ccheck_any (B b : Nat) (bs : List Value) (w : World) (h : Lib.IsBuilder 74 5 B b bs w) : Calls Tryd.prog 66 #[.pointer (some ⟨b, 0, none⟩)] w fun e w' =>
    e = .returned (.tuple #[]) ∧ Lib.BuilderAt 74 5 B b (.pointer (some ⟨b, 0, none⟩)) bs w' ∧ Below B w w' ∧ KeepT w w' ∧ w.heap.size ≤ w'.heap.size := by
  rcases h with h | h
  · refine (Any.Builder_copyCheck_fresh { Tryd.lays156 with } Tryd.Builder_Extra_156.toX72 b w h.cell0 h.shape h.frozen0).mono ?_
    rintro e w' ⟨rfl, rfl⟩
    have hu := h.used (.pointer (some ⟨b, 0, none⟩))
    obtain ⟨hB, v, hb, _⟩ := h
    exact ⟨rfl, hu, (Below.refl B w).setCell (p := ⟨b, 0, none⟩) hB _, KeepT.set_ hb, by simp [World.setCell]⟩
  · refine (Any.Builder_copyCheck_used { Tryd.lays156 with } Tryd.Builder_Extra_156.toX72 b w h.cell0).mono ?_
    rintro e w' ⟨rfl, rfl⟩
    exact ⟨rfl, h, Below.refl B _, KeepT.refl _, Nat.le_refl _⟩
theorem infoB8 : (Tryd.prog.info? 5).map (fun i => (i.zero, i.size, i.bytes)) = some (some (.int .u8 0), 1, 1) := by kernel_rfl
set_option maxHeartbeats 2000000 in
set_option maxRecDepth 100000 in
theorem wstr_any (B b : Nat) (bs : List Value) (s : ByteArray) (w : World) (h : Lib.IsBuilder 74 5 B b bs w) (hlen : bs.length + s.size ≤ 140737488355328) (hBw : B ≤ w.heap.size) :
    Calls Tryd.prog 40 #[.pointer (some ⟨b, 0, none⟩), .string s] w fun e w' => (∃ v, e = .returned v) ∧ Lib.IsBuilder 74 5 B b (bs ++ Lib.strCells s) w' ∧ Below B w w' ∧ KeepT w w' := by
  obtain ⟨i0, hi, hz0, hz1, hz2⟩ := info_parts infoB8
  have cC := ccheck_any B b bs w h
  clear h
  go_enter Tryd.func40, Tryd.ntmps40
  go_wp2_with (go_at_call 66; refine cC.mono ?_)
  rintro e w1 ⟨rfl, h1, hb1, hk1, hs1⟩
  obtain ⟨hB, v, hbk, hown, hne⟩ := h1
  have c0 : w1.cell? ⟨b, 0, none⟩ = some (.pointer (some ⟨b, 0, none⟩)) := by rw [Lib.cell_of_heap hbk]; rfl
  have c1 : w1.cell? ⟨b, 1, none⟩ = some v := by rw [Lib.cell_of_heap hbk]; rfl
  go_wp2_with (at_builtin; refine Lib.wpList_append_own_string _ rfl _ _ 72 9 rfl B 5 i0 Tryd.underlying72 Tryd.underlying9 hi hz0 hz1 hz2 _ _ _ rfl hown s rfl ?c3 ?c4 ?c5 ?_)
  case c3 => unfold maxLen; omega
  case c4 => omega
  case c5 => omega
  intro v' w2 hown' hgrow _
  have hlt : b < w1.heap.size := by
    rcases Nat.lt_or_ge b w1.heap.size with h' | h'
    · exact h'
    · simp [Array.getElem?_eq_none h'] at hbk
  have hb2 : w2.heap[b]? = some (.cells #[.pointer (some ⟨b, 0, none⟩), v] 74 (0, 0)) := by
    rw [hgrow.block b hlt (fun e => hne e.symm)]
    exact hbk
  have d0 : w2.cell? ⟨b, 0, none⟩ = some (.pointer (some ⟨b, 0, none⟩)) := by rw [Lib.cell_of_heap hb2]; rfl
  have d1 : w2.cell? ⟨b, 1, none⟩ = some v := by rw [Lib.cell_of_heap hb2]; rfl
  have f1 : w2.frozen? ⟨b, 1, none⟩ = false := Lib.frozen_of_heap hb2 1
  have hk2 := KeepT.grown hown hgrow
  have hb2' := hb1.grown hgrow (by omega) (fun k hk => (hown.lt k hk).1)
  obtain ⟨ao, n', cap, rfl⟩ : ∃ ao n' cap, v' = .slice ao n' cap := by
    rcases hown'.2 with ⟨hv, _⟩ | ⟨g, cap, cur, hv, _⟩
    · exact ⟨none, 0, 0, hv⟩
    · exact ⟨_, _, cap, hv⟩
  go_wp2
  refine bodyPost_ret (v := .tuple #[.int .i64 s.size, .nilIface]) (by simp [results, Tryd.results40, go_sem]) rfl ⟨⟨_, rfl⟩, ?_, ?_, ?_⟩
  · refine .inr (Lib.BuilderAt.put hB hb2 ?_ (by decide))
    rw [List.length_append, Lib.strCells_length]
    exact hown'
  · exact hb2'.setCell (p := ⟨b, 1, none⟩) hB _
  · exact (hk1.trans hk2).trans (KeepT.set_ hb2)
end Go.Proofs.YtogpmihepfnoaaaDoor
