/- Ints, texts and lists of parts as bytes: tlv.Int, Text, All; the reference's Int, Text, Copy, Same. -/
import Derived.Test.YtppnlijeonneeaaDoorEvNum
namespace Go.Proofs.YtppnlijeonneeaaDoor
open Go Go.RowKit

section
variable (n : Nat) (w : World)
end

section
variable (w : World) (B : Nat) (v : Value) (l : List UInt8)
end

/-- A list of slices that read as these lists of bytes. -/
def RdL (w : World) (B : Nat) (vs : List Value) (ls : List (List UInt8)) : Prop := vs.length = ls.length ∧ ∀ (i : Nat) (v : Value) (l : List UInt8), vs[i]? = some v → ls[i]? = some l → RdB w B v l
theorem RdL.gr {w w' : World} {B : Nat} {vs : List Value} {ls : List (List UInt8)} (h : RdL w B vs ls) (hB : B ≤ w.heap.size) (hg : Gr w w') : RdL w' B vs ls := ⟨h.1, fun i v l h1 h2 => (h.2 i v l h1 h2).gr hB hg⟩

set_option maxRecDepth 100000 in
set_option maxHeartbeats 2000000 in
theorem same_any (w : World) (B : Nat) (a b : Value) (l m : List UInt8) (hB : B ≤ w.heap.size) (ha : RdB w B a l) (hb : RdB w B b m) (hla : l.length ≤ 1073741824) :
    Calls Tryd.prog 61 #[a, b] w fun e w' => e = .returned (.bool (decide (l = m))) ∧ Gr w w' := by
  obtain ⟨A, c, rfl, hc, hA⟩ := ha
  obtain ⟨A', c', rfl, hc', hA'⟩ := hb
  by_cases hlen : l.length = m.length
  · go_enter Tryd.func61, Tryd.ntmps61
    go_wp2
    go_loopw [5] (fun v5 wr => ∃ k : Nat, v5 = .int .i64 k ∧ k ≤ l.length ∧ l.take k = m.take k ∧ Gr w wr) (fun v5 _ => l.length - (intOf v5).toNat)
    case atStart => exact ⟨0, rfl, by omega, rfl, Gr.refl _⟩
    case round =>
      obtain ⟨k, rfl, hk, he, hg⟩ := hrel
      by_cases hp : k < l.length
      · obtain ⟨ad, x, rfl, hbk, hx, hc1⟩ := hA.byte rfl k hp
        obtain ⟨ad', y, rfl, hbk', hy, hc1'⟩ := hA'.byte rfl k (show k < m.length by omega)
        rw [← hg.cell (by rw [block_of_add]; omega)] at hc1 hc1'
        by_cases hxy : x = y
        · subst hxy
          go_wp2
          go_quiet (fail)
          go_wp2
          go_roundw
          case rel => exact ⟨k + 1, by go_num, by omega, by rw [take_next hx, take_next hy, he], Gr.trans hg (Gr.drewN _ _)⟩
          case measure => simp [intOf]; omega
        · have hne : ¬ (x.toNat = y.toNat) := fun e => hxy (UInt8.toNat_inj.1 e)
          go_wp2
          go_quiet (fail)
          go_wp2
          go_ret
          refine ⟨ret_bool ?_, Gr.trans hg (Gr.drewN _ _)⟩
          rw [eq_comm, decide_eq_false_iff_not]
          rintro rfl
          exact hxy (Option.some.inj (hx.symm.trans hy))
      · obtain rfl : k = l.length := by omega
        go_wp2
        go_ret
        refine ⟨ret_bool ?_, hg⟩
        rw [eq_comm, decide_eq_true_eq]
        rw [List.take_length, hlen, List.take_length] at he
        exact he
  · go_enter Tryd.func61, Tryd.ntmps61
    go_wp2
    go_ret
    refine ⟨ret_bool ?_, Gr.refl _⟩
    rw [eq_comm, decide_eq_false_iff_not]
    rintro rfl
    exact hlen rfl
end Go.Proofs.YtppnlijeonneeaaDoor
