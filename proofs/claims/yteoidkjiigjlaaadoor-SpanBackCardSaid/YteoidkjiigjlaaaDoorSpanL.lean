/- The walks of the laws of layer 15. -/
import Derived.Test.YteoidkjiigjlaaaDoorSpanX
namespace Go.Proofs.YteoidkjiigjlaaaDoor
open Go Go.RowKit Go.Sort

theorem Errs.below {w w' : World} (h : Errs w) (hb : Below w.heap.size w w') : Errs w' := by
  have one : ∀ {name : String} {v : Array Value}, w.var? Tryd.prog name = some v → w'.var? Tryd.prog name = some v := by
    intro name v h
    unfold World.var? at *
    cases hg : Tryd.prog.globalNamed name with
    | none => simp [hg] at h
    | some g =>
      simp only [hg, Option.bind_some] at h ⊢
      have hlt : g < w.heap.size := by
        rcases Nat.lt_or_ge g w.heap.size with h' | h'
        · exact h'
        · rw [Array.getElem?_eq_none h'] at h; simp at h
      rw [hb.block g hlt]
      exact h
  obtain ⟨⟨a, b, h1⟩, ⟨c, d, h2⟩⟩ := h
  exact ⟨⟨a, b, one h1⟩, ⟨c, d, one h2⟩⟩
theorem below_trans {w W w' : World} (h : Below w.heap.size w W) (h' : Below W.heap.size W w') : Below w.heap.size w w' := h.trans (h'.mono h.size)

theorem text_at (n : Int) (w W : World) (hP : Pow w) (hb : Below w.heap.size w W) : Calls Tryd.prog 35 #[.int .i64 n] W fun e w' => e = .returned (.string (str (textD n))) ∧ Below w.heap.size w w' :=
  (text_any n W (hP.below hb)).mono fun _ _ ⟨he, h⟩ => ⟨he, below_trans hb h⟩
theorem reftext_at (n : Int) (w W : World) (hb : Below w.heap.size w W) : Calls Tryd.prog 36 #[.int .i64 n] W fun e w' => e = .returned (.string (str (textD n))) ∧ Below w.heap.size w w' :=
  (reftext_any n W).mono fun _ _ ⟨he, h⟩ => ⟨he, below_trans hb h⟩
theorem parse_at (s : ByteArray) (w W : World) (hs : s.size ≤ 140737488351232) (hP : Pow w) (hE : Errs w) (hb : Below w.heap.size w W) : Calls Tryd.prog 32 #[.string s] W fun e w' => e = .returned (.tuple #[.int .i64 (parseN s).1, .int .i64 (parseN s).2]) ∧ Below w.heap.size w w' :=
  (parse_any s W hs (hP.below hb) (hE.below hb)).mono fun _ _ ⟨he, h⟩ => ⟨by rw [he, parse_num], below_trans hb h⟩

theorem one_itoa (i : Nat) (h : i < 10) : Lib.itoa i = [UInt8.ofNat (48 + i)] := by rw [Lib.itoa_nonneg, Lib.decDigits_one h]
theorem live_p : parseN ⟨#[51, 119]⟩ = (21, 0) := by decide
theorem live_1 : str (textD 730) = ⟨#[50, 121]⟩ := by
  rw [textD, if_neg (by omega), if_neg (by omega), if_pos (by omega), show (730 : Int) / 365 = ((2 : Nat) : Int) by omega, one_itoa 2 (by omega)]; rfl
theorem live_2 : str (textD 60) = ⟨#[50, 109]⟩ := by
  rw [textD, if_neg (by omega), if_neg (by omega), if_neg (by omega), if_pos (by omega), show (60 : Int) / 30 = ((2 : Nat) : Int) by omega, one_itoa 2 (by omega)]; rfl
theorem live_3 : str (textD 8) = ⟨#[56, 100]⟩ := by
  rw [textD, if_neg (by omega), if_neg (by omega), if_neg (by omega), if_neg (by omega), if_neg (by omega), show (8 : Int) = ((8 : Nat) : Int) by omega, one_itoa 8 (by omega)]; rfl

set_option maxRecDepth 100000 in
set_option maxHeartbeats 2000000 in
theorem live_at (w W : World) (hP : Pow w) (hE : Errs w) (hb0 : Below w.heap.size w W) : Calls Tryd.prog 29 #[] W fun e w' => e = .returned (.bool true) ∧ Below w.heap.size w w' := by
  have HP := Lib.hid hP
  have HE := Lib.hid hE
  clear hP hE
  have l0 := live_p
  have l1 := live_1
  have l2 := live_2
  have l3 := live_3
  go_enter Tryd.func29, Tryd.ntmps29
  go_wp2_with (first
    | (go_at_call 32; (with_reducible refine (parse_at _ w _ ?_ HP.out HE.out (by assumption)).mono ?_); (exact (by decide)); rintro e w1 ⟨rfl, hb1⟩)
    | (go_at_call 35; (with_reducible refine (text_at _ w _ HP.out (by assumption)).mono ?_); rintro e w2 ⟨rfl, hb2⟩)
    | go_in)
  go_ret
  exact ⟨rfl, by assumption⟩

set_option maxRecDepth 100000 in
set_option maxHeartbeats 2000000 in
theorem law_days (n c : Int) (s : ByteArray) (w : World) (hs : s.size ≤ 140737488351232) (hP : Pow w) (hE : Errs w) : Calls Tryd.prog 7 #[.int .i64 n, .int .u8 c, .string s] w fun e w' => e = .returned (.bool true) ∧ Below w.heap.size w w' := by
  have HP := Lib.hid hP
  have HE := Lib.hid hE
  clear hP hE
  have hb0 := Below.refl w.heap.size w
  rcases (by omega : 300 < s.size ∨ s.size ≤ 300) with h | h
  all_goals
    go_enter Tryd.func7, Tryd.ntmps7
    go_wp2_with (first
      | (go_at_call 29; (with_reducible refine (live_at w _ HP.out HE.out (by assumption)).mono ?_); rintro e w9 ⟨rfl, hb9⟩)
      | (go_at_call 30; (with_reducible refine (days_any _ _ _).mono ?_); rintro e w' ⟨rfl, rfl⟩)
      | (go_at_call 31; (with_reducible refine (refdays_any _ _ _).mono ?_); rintro e w' ⟨rfl, rfl⟩)
      | (go_at_call 32; (with_reducible refine (parse_at _ w _ hs HP.out HE.out (by assumption)).mono ?_); rintro e w1 ⟨rfl, hb1⟩)
      | (go_at_call 33; (with_reducible refine (refparse_any _ _ hs).mono ?_); rintro e w' ⟨rfl, rfl⟩)
      | (go_at_call 35; (with_reducible refine (text_at _ w _ HP.out (by assumption)).mono ?_); rintro e w2 ⟨rfl, hb2⟩)
      | (go_at_call 36; (with_reducible refine (reftext_at _ w _ (by assumption)).mono ?_); rintro e w3 ⟨rfl, hb3⟩)
      | go_in)
    go_ret
    exact ⟨rfl, by assumption⟩

theorem add_more (t n : Int) (h : ((addD t n).2 != 0) = false) : decide (t < (addD t n).1) = true := by
  have h2 : (addD t n).2 = 0 := by simpa using h
  have h3 : t < (addD t n).1 := by
    unfold addD at *
    split at h2
    · simp at h2
    · split at h2
      · simp at h2
      · rename_i h4 h5
        rw [if_neg h4, if_neg h5]
        dsimp only
        omega
  simpa using h3
set_option maxRecDepth 100000 in
set_option maxHeartbeats 2000000 in
theorem law_after (t n : Int) (w : World) (hP : Pow w) (hE : Errs w) : Calls Tryd.prog 9 #[.int .i64 t, .int .i64 n] w fun e w' => e = .returned (.bool true) ∧ Below w.heap.size w w' := by
  have HP := Lib.hid hP
  have HE := Lib.hid hE
  clear hP hE
  have hb0 := Below.refl w.heap.size w
  cases hq : ((addD t n).2 != 0)
  · have hm := add_more t n hq
    go_enter Tryd.func9, Tryd.ntmps9
    go_wp2_with (first
      | (go_at_call 29; (with_reducible refine (live_at w _ HP.out HE.out (by assumption)).mono ?_); rintro e w9 ⟨rfl, hb9⟩)
      | (go_at_call 37; (with_reducible refine (after_any _ _ _).mono ?_); rintro e w' ⟨rfl, rfl⟩)
      | (go_at_call 38; (with_reducible refine (refafter_any _ _ _).mono ?_); rintro e w' ⟨rfl, rfl⟩)
      | (go_at_call 39; (with_reducible refine (add_any _ _ _).mono ?_); rintro e w' ⟨rfl, rfl⟩)
      | (go_at_call 40; (with_reducible refine (refadd_any _ _ _).mono ?_); rintro e w' ⟨rfl, rfl⟩)
      | go_in)
    go_ret
    exact ⟨rfl, by assumption⟩
  · go_enter Tryd.func9, Tryd.ntmps9
    go_wp2_with (first
      | (go_at_call 29; (with_reducible refine (live_at w _ HP.out HE.out (by assumption)).mono ?_); rintro e w9 ⟨rfl, hb9⟩)
      | (go_at_call 37; (with_reducible refine (after_any _ _ _).mono ?_); rintro e w' ⟨rfl, rfl⟩)
      | (go_at_call 38; (with_reducible refine (refafter_any _ _ _).mono ?_); rintro e w' ⟨rfl, rfl⟩)
      | (go_at_call 39; (with_reducible refine (add_any _ _ _).mono ?_); rintro e w' ⟨rfl, rfl⟩)
      | (go_at_call 40; (with_reducible refine (refadd_any _ _ _).mono ?_); rintro e w' ⟨rfl, rfl⟩)
      | go_in)
    go_ret
    exact ⟨rfl, by assumption⟩

theorem row_days (n c : Int) (s : ByteArray) (w : World) (_ : (Lit.int .i64 n).wf = true) (_ : (Lit.int .u8 c).wf = true) (hs : s.size ≤ 140737488351232) (hP : Pow w) (hE : Errs w) : Calls Tryd.prog 7 #[.int .i64 n, .int .u8 c, .string s] w fun e w' => e = .returned (.bool true) ∧ Below w.heap.size w w' := law_days n c s w hs hP hE
theorem row_after (t n : Int) (w : World) (_ : (Lit.int .i64 t).wf = true) (_ : (Lit.int .i64 n).wf = true) (hP : Pow w) (hE : Errs w) : Calls Tryd.prog 9 #[.int .i64 t, .int .i64 n] w fun e w' => e = .returned (.bool true) ∧ Below w.heap.size w w' := law_after t n w hP hE
end Go.Proofs.YteoidkjiigjlaaaDoor
