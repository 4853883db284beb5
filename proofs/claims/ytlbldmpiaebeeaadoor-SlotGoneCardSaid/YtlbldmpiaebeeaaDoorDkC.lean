/- Worlds in which nothing has turned but some blocks. -/
import Derived.Test.YtlbldmpiaebeeaaDoorDkB
import Derived.Test.YtlbldmpiaebeeaaDoorBytes
namespace Go.Proofs.YtlbldmpiaebeeaaDoor
open Go Go.RowKit

/-- Of what was there nothing has turned but the blocks of S. -/
structure But (S : Nat → Prop) (w w' : World) : Prop where
  os : w'.os = w.os
  tape : w'.tape = w.tape
  output : w'.output = w.output
  size : w.heap.size ≤ w'.heap.size
  block : ∀ k, k < w.heap.size → ¬ S k → w'.heap[k]? = w.heap[k]?
section
variable {S : Nat → Prop} {w w' w'' : World}
theorem But.refl (S : Nat → Prop) (w : World) : But S w w := ⟨rfl, rfl, rfl, Nat.le_refl _, fun _ _ _ => rfl⟩
theorem But.trans (h : But S w w') (k : But S w' w'') : But S w w'' :=
  ⟨k.os.trans h.os, k.tape.trans h.tape, k.output.trans h.output, Nat.le_trans h.size k.size, fun i hi hs => (k.block i (Nat.lt_of_lt_of_le hi h.size) hs).trans (h.block i hi hs)⟩
theorem But.of_gr (S : Nat → Prop) (h : Below w.heap.size w w') : But S w w' := ⟨h.os, h.tape, h.output, h.size, fun k hk _ => h.block k hk⟩
theorem But.gr (h : But S w w') (k : Below w'.heap.size w' w'') : But S w w'' := h.trans (But.of_gr S k)
theorem But.alloc (h : But S w w') (o : Obj) : But S w (w'.alloc o) := h.gr ((Below.refl _ _).alloc (Nat.le_refl _) o)
theorem But.setCell (h : But S w w') {p : Addr} (hp : S p.block ∨ w.heap.size ≤ p.block) (u : Value) : But S w (w'.setCell p u) :=
  ⟨h.os, h.tape, h.output, by rw [show (w'.setCell p u).heap.size = w'.heap.size by simp [World.setCell]]; exact h.size, fun k hk hs => by
    rw [Below.heap_setCell _ _ _ _ (by rintro rfl; rcases hp with h1 | h1; exact hs h1; omega)]
    exact h.block k hk hs⟩
theorem But.grown (h : But S w w') {row : Option Nat} (hg : w'.grownBy w'' row) (hr : ∀ j, row = some j → S j ∨ w.heap.size ≤ j) : But S w w'' :=
  ⟨hg.os.trans h.os, hg.tape.trans h.tape, hg.output.trans h.output, Nat.le_trans h.size hg.size, fun k hk hs => by
    rw [hg.block k (Nat.lt_of_lt_of_le hk h.size) (fun e => by rcases hr k e.symm with h1 | h1; exact hs h1; omega)]
    exact h.block k hk hs⟩
theorem But.below {B : Nat} (h : But S w w') (hB : B ≤ w.heap.size) (hS : ∀ k, S k → B ≤ k) : Below B w w' :=
  ⟨h.os, h.tape, h.output, h.size, fun k hk => h.block k (Nat.lt_of_lt_of_le hk hB) fun hs => by have := hS k hs; omega⟩
theorem But.mono {S' : Nat → Prop} (h : But S w w') (hS : ∀ k, S k → S' k) : But S' w w' := ⟨h.os, h.tape, h.output, h.size, fun k hk hs => h.block k hk fun h1 => hs (hS k h1)⟩
theorem But.blk {g : Nat} {t : TypeId} {cs : Array Value} (h : But S w w') (hb : Blk w g t cs) (hs : ¬ S g) : Blk w' g t cs := by
  have hl := hb.lt
  unfold Blk at *
  rw [h.block g hl hs]
  exact hb
theorem But.cell {p : Addr} (h : But S w w') (hp : p.block < w.heap.size) (hs : ¬ S p.block) : w'.cell? p = w.cell? p := World.cell?_of_block (h.block _ hp hs)
end
end Go.Proofs.YtlbldmpiaebeeaaDoor
