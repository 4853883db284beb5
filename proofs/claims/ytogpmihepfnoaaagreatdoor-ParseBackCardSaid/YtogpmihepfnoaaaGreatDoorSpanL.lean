/- The walks of the laws of layer 15. -/
import Derived.Test.YtogpmihepfnoaaaGreatDoorSpanX
namespace Go.Proofs.YtogpmihepfnoaaaGreatDoor
open Go Go.RowKit Go.Sort

theorem Errs.below {w w' : World} (h : Errs w) (hb : Below w.heap.size w w') : Errs w' := by
  have one : ∀ {name : String} {v : Array Value}, w.var? Tryz.prog name = some v → w'.var? Tryz.prog name = some v := by
    intro name v h
    unfold World.var? at *
    cases hg : Tryz.prog.globalNamed name with
    | none => simp [hg] at h
    | some g =>
      simp only [hg, Option.bind_some] at h ⊢
      have hlt : g < w.heap.size := by
        rcases Nat.lt_or_ge g w.heap.size with h' | h'
        · exact h'
        · rw [Array.getElem?_eq_none h'] at h; simp at h
      rw [hb.block g hlt]
      exact h
  obtain ⟨⟨a, b, h1⟩, ⟨c, d, h2⟩⟩ := h
  exact ⟨⟨a, b, one h1⟩, ⟨c, d, one h2⟩⟩
theorem below_trans {w W w' : World} (h : Below w.heap.size w W) (h' : Below W.heap.size W w') : Below w.heap.size w w' := h.trans (h'.mono h.size)

theorem reftext_at (n : Int) (w W : World) (hb : Below w.heap.size w W) : Calls Tryz.prog 31 #[.int .i64 n] W fun e w' => e = .returned (.string (str (textD n))) ∧ Below w.heap.size w w' :=
  (reftext_any n W).mono fun _ _ ⟨he, h⟩ => ⟨he, below_trans hb h⟩
theorem parse_at (s : ByteArray) (w W : World) (hs : s.size ≤ 140737488351232) (hP : Pow w) (hE : Errs w) (hb : Below w.heap.size w W) : Calls Tryz.prog 76 #[.string s] W fun e w' => e = .returned (.tuple #[.int .i64 (parseN s).1, .int .i64 (parseN s).2]) ∧ Below w.heap.size w w' :=
  (parse_any s W hs (hP.below hb) (hE.below hb)).mono fun _ _ ⟨he, h⟩ => ⟨by rw [he, parse_num], below_trans hb h⟩

theorem one_itoa (i : Nat) (h : i < 10) : Lib.itoa i = [UInt8.ofNat (48 + i)] := by rw [Lib.itoa_nonneg, Lib.decDigits_one h]
theorem live_p : parseN ⟨#[51, 119]⟩ = (21, 0) := by decide
theorem live_1 : str (textD 730) = ⟨#[50, 121]⟩ := by
  rw [textD, if_neg (by omega), if_neg (by omega), if_pos (by omega), show (730 : Int) / 365 = ((2 : Nat) : Int) by omega, one_itoa 2 (by omega)]; rfl
theorem live_2 : str (textD 60) = ⟨#[50, 109]⟩ := by
  rw [textD, if_neg (by omega), if_neg (by omega), if_neg (by omega), if_pos (by omega), show (60 : Int) / 30 = ((2 : Nat) : Int) by omega, one_itoa 2 (by omega)]; rfl
theorem live_3 : str (textD 8) = ⟨#[56, 100]⟩ := by
  rw [textD, if_neg (by omega), if_neg (by omega), if_neg (by omega), if_neg (by omega), if_neg (by omega), show (8 : Int) = ((8 : Nat) : Int) by omega, one_itoa 8 (by omega)]; rfl

theorem add_more (t n : Int) (h : ((addD t n).2 != 0) = false) : decide (t < (addD t n).1) = true := by
  have h2 : (addD t n).2 = 0 := by simpa using h
  have h3 : t < (addD t n).1 := by
    unfold addD at *
    split at h2
    · simp at h2
    · split at h2
      · simp at h2
      · rename_i h4 h5
        rw [if_neg h4, if_neg h5]
        dsimp only
        omega
  simpa using h3
end Go.Proofs.YtogpmihepfnoaaaGreatDoor
