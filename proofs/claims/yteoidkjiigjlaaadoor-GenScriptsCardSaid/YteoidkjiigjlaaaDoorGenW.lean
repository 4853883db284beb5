/- The program's dice: names, words. -/
import Derived.Test.YteoidkjiigjlaaaDoorGenB
import Derived.Test.YteoidkjiigjlaaaDoorRdNum
import Derived.Test.YteoidkjiigjlaaaDoorEvPut
namespace Go.Proofs.YteoidkjiigjlaaaDoor
open Go Go.RowKit

/-- The program's dice, in a world that has grown since w0. -/
structure DP (w0 : World) (g : Nat) (w : World) (s : Int) : Prop where
  pow : Pow w0
  gr : Gr w0 w
  ge : w0.heap.size ≤ g
  dice : DiceP w g s
theorem gr_x {w0 w w' : World} {g : Nat} (h : Gr w0 w) (hx : GrX w w' g) (hg : w0.heap.size ≤ g) : Gr w0 w' := by
  refine ⟨hx.os.trans h.os, hx.tape.trans h.tape, hx.output.trans h.output, Nat.le_trans h.size hx.size, fun k hk => ?_⟩
  rw [hx.block k (Nat.lt_of_lt_of_le hk h.size) (fun e => by injection e with e; omega)]
  exact h.block k hk
theorem DP.lt {w0 w : World} {g : Nat} {s : Int} (h : DP w0 g w s) : g < w.heap.size := h.dice.1.lt
theorem DP.x {w0 w w' : World} {g : Nat} {s s' : Int} (h : DP w0 g w s) (hx : GrX w w' g) (hd : DiceP w' g s') : DP w0 g w' s' := ⟨h.pow, gr_x h.gr hx h.ge, h.ge, hd⟩
theorem DP.grow {w0 w w' : World} {g : Nat} {s : Int} (h : DP w0 g w s) (hx : Gr w w') : DP w0 g w' s := ⟨h.pow, Gr.trans h.gr hx, h.ge, h.dice.1.below hx h.lt, h.dice.2⟩
theorem DP.pw {w0 w : World} {g : Nat} {s : Int} (h : DP w0 g w s) : Pow w := h.pow.below h.gr
theorem dbelow_any (w0 w : World) (g : Nat) (n s : Int) (h : DP w0 g w s) (hn : n ≤ 9223372036854775807) : Calls Tryd.prog 24 #[.pointer (some ⟨g, 0, none⟩), .int .i64 n] w fun e w' => e = .returned (.int .i64 (belowN n s)) ∧ DP w0 g w' (belowS n s) ∧ GrX w w' g :=
  (below_any w g n s h.dice hn).mono fun _ _ ⟨h1, h2, h3⟩ => ⟨h1, h.x h3 h2, h3⟩

theorem itoa_one (m : Int) (h0 : 0 ≤ m) (h1 : m < 10) : str (Lib.itoa m) = ⟨#[UInt8.ofNat (48 + m.toNat)]⟩ := by
  obtain ⟨k, rfl⟩ : ∃ k : Nat, m = k := ⟨m.toNat, by omega⟩
  rw [Lib.itoa_nonneg, Lib.decDigits_one (by omega), Int.toNat_natCast]
  rfl
theorem app_one (a b : UInt8) : (⟨#[a]⟩ : ByteArray) ++ ⟨#[b]⟩ = ⟨#[a, b]⟩ := rfl
set_option maxRecDepth 100000 in
theorem gname_any (w0 w : World) (g : Nat) (s : Int) (h : DP w0 g w s) (c : Int) (hc : c = 99 ∨ c = 115 ∨ c = 104 ∨ c = 114) :
    Calls Tryd.prog 81 #[.pointer (some ⟨g, 0, none⟩), .int .i32 c] w fun e w' => e = .returned (.string (gName (UInt8.ofNat c.toNat) s)) ∧ DP w0 g w' (belowS 4 s) ∧ GrX w w' g := by
  have hb := belowN_le 4 s (by omega)
  have hi := itoa_one (belowN 4 s) hb.1 (by omega)
  have H := dbelow_any w0 w g 4 s h (by omega)
  unfold gName
  generalize belowN 4 s = m at *
  have hsz : ¬ 9223372036854775807 < 1 + (⟨#[UInt8.ofNat (48 + m.toNat)]⟩ : ByteArray).size := by show ¬ 9223372036854775807 < 1 + 1; omega
  rcases hc with rfl | rfl | rfl | rfl
  all_goals
    go_enter Tryd.func81, Tryd.ntmps81
    go_wp2_with (first
      | (go_at_call 24; (with_reducible refine H.mono ?_); rintro e w1 ⟨rfl, hd1, hx1⟩)
      | (go_at_call 49; (with_reducible refine (itoa_any m _ hd1.pw (by omega) (by omega)).mono ?_); rw [hi]; rintro e w2 ⟨rfl, hb2⟩))
    go_ret
    refine ⟨ret_str ?_, hd1.grow hb2, hx1.trans (GrX.of_gr hb2 g)⟩
    rw [UInt8.ofNat_add]
    rfl
/-- Words in memory. -/
def Words (w : World) (g : Nat) (A : Option Addr) (n : Nat) (l : List ByteArray) : Prop := Rk w (fun b => b ≠ g ∧ b < w.heap.size) 1 A n (l.map Value.string)
theorem Words.x {w w' : World} {g n : Nat} {A : Option Addr} {l : List ByteArray} (h : Words w g A n l) (hx : GrX w w' g) : Words w' g A n l :=
  (h.keep fun p hp => World.cell?_of_block (hx.block p.block hp.2 fun e => hp.1 (by injection e))).mono fun b hb => ⟨hb.1, Nat.lt_of_lt_of_le hb.2 hx.size⟩
theorem Words.lit (w : World) (g : Nat) (hg : g < w.heap.size) (cs : Array Value) (t : TypeId) (l : List ByteArray) (e : cs.toList = l.map Value.string) (n : Nat) (hn : n = l.length) : Words (w.alloc (.cells cs t)) g (some ⟨w.heap.size, 0, none⟩) n l := by
  have h := Reads.lit w t cs
  have hs : cs.size = n := by rw [hn, ← Array.length_toList, e, List.length_map]
  rw [e, hs] at h
  refine ⟨h.1, fun h0 => ?_⟩
  obtain ⟨ad, ea, hb, hc⟩ := h.2 h0
  injection ea with ea
  subst ea
  exact ⟨_, rfl, ⟨by show w.heap.size ≠ g; omega, hb⟩, hc⟩
theorem Words.at_ {w : World} {g n : Nat} {A : Option Addr} {l : List ByteArray} (h : Words w g A n l) (hn : n = l.length) (k : Nat) (hk : k < n) : ∃ ad, A = some ad ∧ w.cell? (ad.add k) = some (.string (l.getD k ⟨#[]⟩)) := by
  obtain ⟨ad, e, _, hc⟩ := h.2 (by omega)
  refine ⟨ad, e, hc k _ ?_⟩
  rw [List.getElem?_map, List.getElem?_eq_getElem (by omega), List.getD_eq_getElem?_getD, List.getElem?_eq_getElem (by omega)]
  rfl
set_option maxRecDepth 100000 in
theorem gone_any (w0 w : World) (g : Nat) (s : Int) (h : DP w0 g w s) (l : List ByteArray) (A : Option Addr) (n c : Nat) (hW : Words w g A n l) (hn : n = l.length) (h1 : 1 ≤ n) (h2 : n ≤ 10) (hc : n ≤ c) :
    Calls Tryd.prog 101 #[.pointer (some ⟨g, 0, none⟩), .slice A n c] w fun e w' => e = .returned (.string (gOne l s)) ∧ DP w0 g w' (belowS n s) ∧ GrX w w' g := by
  have hb := belowN_le n s (by omega)
  have H := dbelow_any w0 w g n s h (by omega)
  unfold gOne
  rw [← hn]
  generalize belowN n s = m at *
  obtain ⟨k, rfl⟩ : ∃ k : Nat, m = k := ⟨m.toNat, by omega⟩
  rw [Int.toNat_natCast]
  have hk : k < n := by omega
  have HN := Lib.hid hn
  clear hn
  go_enter Tryd.func101, Tryd.ntmps101
  go_wp2_with (go_at_call 24; (with_reducible refine H.mono ?_); rintro e w1 ⟨rfl, hd1, hx1⟩; obtain ⟨ad, rfl, hcell⟩ := (hW.x hx1).at_ HN.out k hk)
  go_ret
  exact ⟨rfl, hd1, hx1⟩
set_option maxRecDepth 100000 in
theorem gclass_any (w0 w : World) (g : Nat) (s : Int) (h : DP w0 g w s) :
    Calls Tryd.prog 82 #[.pointer (some ⟨g, 0, none⟩)] w fun e w' => e = .returned (.string (gOne classesL s)) ∧ DP w0 g w' (belowS 3 s) ∧ GrX w w' g := by
  have cO := gone_any w0 _ g s (h.grow (Gr.alloc w _)) classesL _ 3 3 (Words.lit w g h.lt #[.string ⟨#[104, 114]⟩, .string ⟨#[116, 97, 120]⟩, .string ⟨#[109, 101, 100]⟩] 9 classesL (by simp [classesL]) 3 rfl) (by simp [classesL]) (by omega) (by omega) (by omega)
  go_enter Tryd.func82, Tryd.ntmps82
  go_wp2_with (go_at_call 101; (with_reducible refine cO.mono ?_); rintro e w1 ⟨rfl, hd1, hx1⟩)
  go_ret
  exact ⟨rfl, hd1, (GrX.of_gr (Gr.alloc _ _) g).trans hx1⟩
set_option maxRecDepth 100000 in
theorem gsecond_any (w0 w : World) (g : Nat) (s k : Int) (h : DP w0 g w s) (h0 : 1 ≤ k) (h1 : k ≤ 22) :
    Calls Tryd.prog 80 #[.pointer (some ⟨g, 0, none⟩), .int .i64 k] w fun e w' => e = .returned (.string (gSecond k s)) ∧ DP w0 g w' (gSecondS k s) ∧ GrX w w' g := by
  have cN := gname_any w0 w g s h 99 (.inl rfl)
  have cC := gclass_any w0 w g s h
  have cO := gone_any w0 _ g s (h.grow (Gr.alloc w _)) milesL _ 3 3 (Words.lit w g h.lt #[.string ⟨#[99, 108, 111, 115, 101, 100]⟩, .string ⟨#[108, 101, 102, 116]⟩, .string ⟨#[112, 97, 105, 100]⟩] 9 milesL (by simp [milesL]) 3 rfl) (by simp [milesL]) (by omega) (by omega) (by omega)
  rcases (by omega : k = 5 ∨ k = 7 ∨ k ≠ 5 ∧ k ≠ 7) with rfl | rfl | ⟨n5, n7⟩
  · go_enter Tryd.func80, Tryd.ntmps80
    go_wp2_with (go_at_call 81; (with_reducible refine cN.mono ?_); rintro e w1 ⟨rfl, hd1, hx1⟩)
    go_ret
    exact ⟨rfl, hd1, hx1⟩
  · go_enter Tryd.func80, Tryd.ntmps80
    go_wp2_with (go_at_call 101; (with_reducible refine cO.mono ?_); rintro e w1 ⟨rfl, hd1, hx1⟩)
    go_ret
    exact ⟨rfl, hd1, (GrX.of_gr (Gr.alloc _ _) g).trans hx1⟩
  · have e1 : gSecond k s = gOne classesL s := by unfold gSecond; rw [if_neg n5, if_neg n7]
    have e2 : gSecondS k s = belowS 3 s := by unfold gSecondS; rw [if_neg n5]
    rw [e1, e2]
    go_enter Tryd.func80, Tryd.ntmps80
    go_wp2_with (go_at_call 82; (with_reducible refine cC.mono ?_); rintro e w1 ⟨rfl, hd1, hx1⟩)
    go_ret
    exact ⟨rfl, hd1, hx1⟩
set_option maxRecDepth 100000 in
theorem gnumber_any (w0 w : World) (g : Nat) (s k : Int) (h : DP w0 g w s) (h0 : 1 ≤ k) (h1 : k ≤ 22) :
    Calls Tryd.prog 83 #[.pointer (some ⟨g, 0, none⟩), .int .i64 k] w fun e w' => e = .returned (.int .i64 (gNumber k s)) ∧ DP w0 g w' (gNumberS k s) ∧ GrX w w' g := by
  have c9 := dbelow_any w0 w g 9 s h (by omega)
  have c8 := dbelow_any w0 w g 8 s h (by omega)
  have hb := belowN_le 9 s (by omega)
  unfold gNumber gNumberS
  generalize belowN 9 s = m at *
  by_cases hk : k = 1
  · subst hk
    go_enter Tryd.func83, Tryd.ntmps83
    go_wp2_with (go_at_call 24; (with_reducible refine c9.mono ?_); rintro e w1 ⟨rfl, hd1, hx1⟩)
    go_ret
    exact ⟨rfl, hd1, hx1⟩
  · rw [if_neg hk, if_neg hk]
    go_enter Tryd.func83, Tryd.ntmps83
    go_wp2_with (go_at_call 24; (with_reducible refine c8.mono ?_); rintro e w1 ⟨rfl, hd1, hx1⟩)
    go_ret
    exact ⟨rfl, hd1, hx1⟩
end Go.Proofs.YteoidkjiigjlaaaDoor
