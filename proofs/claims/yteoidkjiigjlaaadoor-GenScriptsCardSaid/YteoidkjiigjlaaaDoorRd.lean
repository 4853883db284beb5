/- Readers of bytes: tlv.Reader and the reference's: the pure forms, and the walks of their methods. -/
import Derived.Test.YteoidkjiigjlaaaDoorEvPut
import Derived.Laws.BytesString
namespace Go.Proofs.YteoidkjiigjlaaaDoor
open Go Go.RowKit

/-! ### What readers do -/
/-- A reader: has it failed, and what is left. -/
abbrev Rs := Bool × List UInt8
def takeD (s : Rs) (n : Int) : List UInt8 × Rs := if s.1 = true ∨ n < 0 ∨ (s.2.length : Int) < n then ([], (true, s.2)) else (s.2.take n.toNat, (false, s.2.drop n.toNat))
/-- The number of bytes, the highest first, behind n. -/
def valN (n : Nat) (l : List UInt8) : Nat := l.foldl (fun a b => a * 256 + b.toNat) n
def numR (s : Rs) : Nat × Rs :=
  let t := takeD s 1
  if t.2.1 = true ∨ 8 < (t.1.getD 0 0).toNat then (0, (true, t.2.2))
  else
    let u := takeD t.2 (t.1.getD 0 0).toNat
    if u.2.1 = true ∨ (0 < u.1.length ∧ u.1.getD 0 0 = 0) then (0, (true, u.2.2)) else (valN 0 u.1, u.2)
def countR (s : Rs) (m : Nat) : Nat × Rs :=
  let t := numR s
  if m < t.1 then (0, (true, t.2.2)) else t
def textR (s : Rs) (m : Nat) : List UInt8 × Rs :=
  let t := countR s m
  takeD t.2 t.1

theorem str_of_rd {w : World} {B : Nat} {v : Value} {l : List UInt8} (h : RdB w B v l) : (convert 25 9 v).run Tryd.prog w = .ok (.string ⟨l.toArray⟩) w := by
  obtain ⟨A, c, rfl, hc, hr⟩ := h
  rw [run_convert_bytes_string w 25 9 5 A l.length c Tryd.underlying25 Tryd.underlying5 Tryd.underlying9]
  rcases A with _ | ad
  · have h0 : l = [] := by
      rcases Nat.eq_zero_or_pos l.length with h0 | h0
      · exact List.eq_nil_of_length_eq_zero h0
      · obtain ⟨ad, h', _⟩ := hr.2 h0
        cases h'
    subst h0
    rfl
  · have hl : (loadCells ad l.length).run Tryd.prog w = .ok ((l.map fun b => (b.toNat : Int)).map (Value.int .u8)).toArray w := by
      have := run_loadCells_list (P := Tryd.prog) w ad ((l.map fun b => (b.toNat : Int)).map (Value.int .u8)) (fun j v hj => by
        have hjl : j < l.length := by
          have := (List.getElem?_eq_some_iff.1 hj).1
          simpa using this
        obtain ⟨ad', he', _, hcell⟩ := hr.2 (by omega)
        injection he' with he'
        subst he'
        refine hcell j v ?_
        rw [← hj]
        simp only [bvs, List.getElem?_map, Option.map_map]
        rfl)
      simpa using this
    rw [run_bytesToString w ad l.length c _ hl]
    have : ∀ (l : List UInt8) (s : ByteArray), (l.map fun b => (b.toNat : Int)).foldl (fun r n => r.push (UInt8.ofNat n.toNat)) s = ⟨(s.data.toList ++ l).toArray⟩ := by
      intro l
      induction l with
      | nil => intro s; simp
      | cons b r ih =>
        intro s
        simp only [List.map_cons, List.foldl_cons]
        rw [ih]
        simp [ByteArray.push]
    rw [this]
    rfl

/-- A reader of package tlv in memory. -/
def RdrT (w : World) (g : Nat) (s : Rs) : Prop := ∃ v, Blk w g 101 #[.bool true, .bool s.1, v] ∧ RdB w g v s.2
theorem RdrT.gr {w w' : World} {g : Nat} {s : Rs} (h : RdrT w g s) (hg : Gr w w') : RdrT w' g s := by
  obtain ⟨v, h1, h2⟩ := h
  exact ⟨v, h1.below hg h1.lt, h2.gr (Nat.le_of_lt h1.lt) hg⟩
/-- All but one block stays. -/
abbrev GrX (w w' : World) (g : Nat) : Prop := w.grownBy w' (some g)
theorem GrX.of_gr {w w' : World} (h : Gr w w') (g : Nat) : GrX w w' g := ⟨h.os, h.tape, h.output, h.size, fun k hk _ => h.block k hk⟩
theorem GrX.set_ {w w' : World} {g : Nat} (h : GrX w w' g) (i : Nat) (v : Value) : GrX w (w'.setCell ⟨g, i, none⟩ v) g :=
  ⟨h.os, h.tape, h.output, by simpa [World.setCell] using h.size, fun k hk hne => (Below.heap_setCell w' ⟨g, i, none⟩ v k (by intro e; exact hne (by simp [e]))).trans (h.block k hk hne)⟩
theorem three_cells {W : World} {g : Nat} {T : TypeId} {x0 x1 x2 : Value} (h : Blk W g T #[x0, x1, x2]) : W.cell? ⟨g, 0, none⟩ = some x0 ∧ W.cell? ⟨g, 1, none⟩ = some x1 ∧ W.cell? ⟨g, 2, none⟩ = some x2 ∧
    W.frozen? ⟨g, 0, none⟩ = false ∧ W.frozen? ⟨g, 1, none⟩ = false ∧ W.frozen? ⟨g, 2, none⟩ = false :=
  ⟨h.cell 0, h.cell 1, h.cell 2, h.frozen 0, h.frozen 1, h.frozen 2⟩

section
variable (w : World) (g : Nat) (s : Rs)
set_option maxRecDepth 100000 in
theorem rok_any (h : RdrT w g s) : Calls Tryd.prog 53 #[.pointer (some ⟨g, 0, none⟩)] w fun e w' => e = .returned (.bool (!s.1)) ∧ w = w' := by
  obtain ⟨f, l⟩ := s
  obtain ⟨v, h1, h2⟩ := h
  obtain ⟨c0, c1, c2, f0, f1, f2⟩ := three_cells h1
  dsimp only at c1 ⊢
  cases f
  all_goals
    go_enter Tryd.func53, Tryd.ntmps53
    go_wp2
    go_ret
    exact ⟨rfl, rfl⟩
set_option maxRecDepth 100000 in
theorem rfail_any (h : RdrT w g s) : Calls Tryd.prog 75 #[.pointer (some ⟨g, 0, none⟩)] w fun e w' => (∃ v, e = .returned v) ∧ RdrT w' g (true, s.2) ∧ GrX w w' g := by
  obtain ⟨f, l⟩ := s
  obtain ⟨v, h1, h2⟩ := h
  obtain ⟨c0, c1, c2, f0, f1, f2⟩ := three_cells h1
  dsimp only at c1 ⊢
  go_enter Tryd.func75, Tryd.ntmps75
  go_wp2
  go_end0
  refine ⟨⟨_, rfl⟩, ⟨v, ?_, ?_⟩, GrX.set_ (World.grownBy.refl _ _) 1 _⟩
  · simpa using h1.set_ 1 (.bool true)
  · obtain ⟨A, c, e, hc, hr⟩ := h2
    exact ⟨A, c, e, hc, hr.setCell (Nat.le_refl _) _⟩
set_option maxRecDepth 100000 in
theorem rleft_any (h : RdrT w g s) : Calls Tryd.prog 56 #[.pointer (some ⟨g, 0, none⟩)] w fun e w' => e = .returned (.int .i64 (if s.1 then 0 else s.2.length)) ∧ w = w' := by
  have H := Lib.hid (rok_any w g s h)
  obtain ⟨f, l⟩ := s
  obtain ⟨v, h1, h2⟩ := h
  obtain ⟨c0, c1, c2, f0, f1, f2⟩ := three_cells h1
  obtain ⟨A, c, rfl, hc, hr⟩ := h2
  dsimp only at c1 ⊢
  cases f
  all_goals
    go_enter Tryd.func56, Tryd.ntmps56
    go_wp2_with (go_at_call 53; (with_reducible refine (H.out).mono ?_); rintro e w1 ⟨rfl, rfl⟩)
    go_ret
    exact ⟨rfl, rfl⟩
end
end Go.Proofs.YteoidkjiigjlaaaDoor
