/- Disks: the page's examples (live). -/
import Derived.Test.YtlbldmpiaebeeaaDoorDkQ
import Derived.Test.YtlbldmpiaebeeaaDoorDkI
namespace Go.Proofs.YtlbldmpiaebeeaaDoor
open Go Go.RowKit Go.Maps Go.MapKept Go.ChangeMaps

theorem full_rd {W : World} {b : Nat} {c : UInt8} (h : Blk W b 5 (fillS c 256)) : RdB W W.heap.size (.slice (some ⟨b, 0, none⟩) 256 256) (fullS c) := by
  refine ⟨_, _, by rw [fullS_len], by rw [fullS_len]; exact Nat.le_refl _, by rw [bvs_length]; omega, fun _ => ⟨_, rfl, h.lt, fun j u hu => ?_⟩⟩
  rw [addrD, h.cell j, ← Array.getElem?_toList, fillS_end, hu]
theorem OwnB.but {w w' : World} {base : Nat} {v : Value} {l : List UInt8} {S : Nat → Prop} (h : OwnB w base v l) (hb : But S w w') (hS : ∀ k, S k → k < base) : OwnB w' base v l := by
  refine ⟨h.1, ?_⟩
  rcases h.2 with h0 | ⟨gb, cap, cur, e1, e2, e3, e4⟩
  · exact .inl h0
  · refine .inr ⟨gb, cap, cur, e1, e2, ?_, e4⟩
    rw [hb.block gb (Array.getElem?_eq_some_iff.1 e3).1 (fun hs => by have := hS gb hs; omega)]
    exact e3
theorem OwnB.rdD {w : World} {base : Nat} {v : Value} {l : List UInt8} (h : OwnB w base v l) : RdB w w.heap.size v l := h.rk.rd fun b hb => hb.2
theorem dk_writeZ {w : World} {K : Nat → Prop} {g gs gm n m : Nat} {d : Dk} (h : DkAt w K g gs gm n m d) (i : Nat) (z : Int) (hz : z = i) (v : Value) (l : List UInt8) (hi : d.there i = 0) (hv : RdB w w.heap.size v l) (hl : l.length = 256) (hm : m ≤ 1000000) :
    Calls Tryd.prog 10 #[.pointer (some ⟨g, 0, none⟩), .int .i64 z, v] w fun e w' => e = .returned (.int .i64 0) ∧ DkAt w' (KW K w w') g gs gm n (m + 1) (d.put i l).did ∧ But (DkS g gs gm) w w' := by
  subst hz
  exact dk_write h i v l hi hv hl hm
theorem dk_readZ {w : World} {K : Nat → Prop} {g gs gm n m : Nat} {d : Dk} (h : DkAt w K g gs gm n m d) (i : Nat) (z : Int) (hz : z = i) (l : List UInt8) (hi : d.there i = 0) (hat : d.at_ i = l) (hl : l.length ≤ 1000000) : Calls Tryd.prog 32 #[.pointer (some ⟨g, 0, none⟩), .int .i64 z] w fun e w' => ∃ v, e = .returned (.tuple #[v, .int .i64 0]) ∧ OwnB w' w.heap.size v l ∧ Gr w w' := by
  subst hz hat
  exact dk_read h i hi hl
theorem dk_newZ (n : Nat) (z : Int) (hz : z = n) (w : World) (hn : 1 ≤ n) (hn2 : n ≤ 1024) : Calls Tryd.prog 9 #[.int .i64 z] w fun e w' => ∃ g gs gm K, e = .returned (.tuple #[.pointer (some ⟨g, 0, none⟩), .int .i64 0]) ∧ DkAt w' K g gs gm n 0 (Dk.new n) ∧ (∀ b, DkS g gs gm b ∨ K b → w.heap.size ≤ b) ∧ Gr w w' := by
  subst hz
  exact dk_new n w hn hn2
theorem nil_bools (w : World) : RdBools w (fun _ => False) (.slice none 0 0) [] := ⟨none, 0, rfl, ⟨Nat.le_refl _, Nat.zero_le _⟩, Rk.nil _ _ _ _⟩
def dL1 : Dk := Dk.new 4
def dL3 : Dk := (dL1.put 3 (fullS 7)).did
def dL4 : Dk := dL3.crash []
def dL7 : Dk := (dL4.put 3 (fullS 7)).did
def dL8 : Dk := dL7.flushed.did
def dL9 : Dk := dL8.crash []
theorem dL_facts : dL1.there ((3 : Nat) : Int) = 0 ∧ dL4.there ((3 : Nat) : Int) = 0 ∧ dL7.dead = false ∧ dL9.there ((3 : Nat) : Int) = 0 ∧ dL4.at_ 3 = fullS 0 ∧ dL9.at_ 3 = fullS 7 := ⟨rfl, rfl, rfl, rfl, rfl, rfl⟩
end Go.Proofs.YtlbldmpiaebeeaaDoor
