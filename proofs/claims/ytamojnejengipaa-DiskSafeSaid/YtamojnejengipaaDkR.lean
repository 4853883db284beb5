/- Disks: the page's examples (live). -/
import Derived.Test.YtamojnejengipaaDkQ
import Derived.Test.YtamojnejengipaaDkI
namespace Go.Proofs.Ytamojnejengipaa
open Go Go.RowKit Go.Maps Go.MapKept Go.ChangeMaps

theorem full_rd {W : World} {b : Nat} {c : UInt8} (h : Blk W b 5 (fillS c 256)) : RdB W W.heap.size (.slice (some ⟨b, 0, none⟩) 256 256) (fullS c) := by
  refine ⟨_, _, by rw [fullS_len], by rw [fullS_len]; exact Nat.le_refl _, by rw [bvs_length]; omega, fun _ => ⟨_, rfl, h.lt, fun j u hu => ?_⟩⟩
  rw [addrD, h.cell j, ← Array.getElem?_toList, fillS_end, hu]
theorem OwnB.but {w w' : World} {base : Nat} {v : Value} {l : List UInt8} {S : Nat → Prop} (h : OwnB w base v l) (hb : But S w w') (hS : ∀ k, S k → k < base) : OwnB w' base v l := by
  refine ⟨h.1, ?_⟩
  rcases h.2 with h0 | ⟨gb, cap, cur, e1, e2, e3, e4⟩
  · exact .inl h0
  · refine .inr ⟨gb, cap, cur, e1, e2, ?_, e4⟩
    rw [hb.block gb (Array.getElem?_eq_some_iff.1 e3).1 (fun hs => by have := hS gb hs; omega)]
    exact e3
theorem OwnB.rdD {w : World} {base : Nat} {v : Value} {l : List UInt8} (h : OwnB w base v l) : RdB w w.heap.size v l := h.rk.rd fun b hb => hb.2
theorem num_d (n : Int) (w : World) : Calls Try.prog 7 #[.int .i64 n] w fun e w' => e = .returned (.int .i64 n) ∧ w = w' := by
  go_enter Try.func7, Try.ntmps7
  go_wp2
  go_ret
  exact ⟨rfl, rfl⟩
theorem dk_writeZ {w : World} {K : Nat → Prop} {g gs gm n m : Nat} {d : Dk} (h : DkAt w K g gs gm n m d) (i : Nat) (z : Int) (hz : z = i) (v : Value) (l : List UInt8) (hi : d.there i = 0) (hv : RdB w w.heap.size v l) (hl : l.length = 256) (hm : m ≤ 1000000) :
    Calls Try.prog 8 #[.pointer (some ⟨g, 0, none⟩), .int .i64 z, v] w fun e w' => e = .returned (.int .i64 0) ∧ DkAt w' (KW K w w') g gs gm n (m + 1) (d.put i l).did ∧ But (DkS g gs gm) w w' := by
  subst hz
  exact dk_write h i v l hi hv hl hm
theorem dk_readZ {w : World} {K : Nat → Prop} {g gs gm n m : Nat} {d : Dk} (h : DkAt w K g gs gm n m d) (i : Nat) (z : Int) (hz : z = i) (l : List UInt8) (hi : d.there i = 0) (hat : d.at_ i = l) (hl : l.length ≤ 1000000) : Calls Try.prog 14 #[.pointer (some ⟨g, 0, none⟩), .int .i64 z] w fun e w' => ∃ v, e = .returned (.tuple #[v, .int .i64 0]) ∧ OwnB w' w.heap.size v l ∧ Gr w w' := by
  subst hz hat
  exact dk_read h i hi hl
theorem dk_newZ (n : Nat) (z : Int) (hz : z = n) (w : World) (hn : 1 ≤ n) (hn2 : n ≤ 1024) : Calls Try.prog 6 #[.int .i64 z] w fun e w' => ∃ g gs gm K, e = .returned (.tuple #[.pointer (some ⟨g, 0, none⟩), .int .i64 0]) ∧ DkAt w' K g gs gm n 0 (Dk.new n) ∧ (∀ b, DkS g gs gm b ∨ K b → w.heap.size ≤ b) ∧ Gr w w' := by
  subst hz
  exact dk_new n w hn hn2
theorem full_z (c : UInt8) (z : Int) (hz : z = (c.toNat : Int)) (w : World) : Calls Try.prog 9 #[.int .u8 z] w fun e w' => e = .returned (.slice (some ⟨w.heap.size, 0, none⟩) 256 256) ∧ Blk w' w.heap.size 5 (fillS c 256) ∧ Gr w w' := by
  subst hz
  exact full_d c w
theorem nil_bools (w : World) : RdBools w (fun _ => False) (.slice none 0 0) [] := ⟨none, 0, rfl, ⟨Nat.le_refl _, Nat.zero_le _⟩, Rk.nil _ _ _ _⟩
def dL1 : Dk := Dk.new 4
def dL3 : Dk := (dL1.put 3 (fullS 7)).did
def dL4 : Dk := dL3.crash []
def dL7 : Dk := (dL4.put 3 (fullS 7)).did
def dL8 : Dk := dL7.flushed.did
def dL9 : Dk := dL8.crash []
theorem dL_facts : dL1.there ((3 : Nat) : Int) = 0 ∧ dL4.there ((3 : Nat) : Int) = 0 ∧ dL7.dead = false ∧ dL9.there ((3 : Nat) : Int) = 0 ∧ dL4.at_ 3 = fullS 0 ∧ dL9.at_ 3 = fullS 7 := ⟨rfl, rfl, rfl, rfl, rfl, rfl⟩
set_option maxRecDepth 100000 in
set_option maxHeartbeats 16000000 in
theorem live_d (w : World) : Calls Try.prog 5 #[] w fun e w' => e = .returned (.bool true) ∧ Gr w w' := by
  obtain ⟨t1, t4, t7, t9, a4, a9⟩ := dL_facts
  have cN := dk_newZ 4 4 rfl w (by decide) (by decide)
  rw [show Dk.new 4 = dL1 from rfl] at cN
  have cS := fun W a b (ha : RdB W W.heap.size a (fullS 0)) (hb : RdB W W.heap.size b (fullS 0)) => same_d W W.heap.size a b (fullS 0) (fullS 0) (Nat.le_refl _) ha hb (by rw [fullS_len]; decide)
  have cS7 := fun W a b (ha : RdB W W.heap.size a (fullS 7)) (hb : RdB W W.heap.size b (fullS 7)) => same_d W W.heap.size a b (fullS 7) (fullS 7) (Nat.le_refl _) ha hb (by rw [fullS_len]; decide)
  have cF7 := fun W => full_z 7 7 rfl W
  have cF0 := fun W => full_z 0 0 rfl W
  go_enter Try.func5, Try.ntmps5
  go_wp2_with (first
    | (go_at_call 6; (with_reducible refine cN.mono ?_); rintro e w1 ⟨g, gs, gm, K, rfl, h1, hK, hg1⟩
       have hlt := h1.lt)
    | (go_at_call 9; (with_reducible refine (cF7 w1).mono ?_); rintro e w2 ⟨rfl, hB2, hg2⟩
       have h2 := h1.gr hg2
       have cW1 := dk_writeZ h2 3 3 rfl _ (fullS 7) t1 (full_rd hB2) (fullS_len 7) (by decide))
    | (go_at_call 8; (with_reducible refine cW1.mono ?_); rintro e w3 ⟨rfl, h3, hb3⟩
       have cC1 := dk_crash h3 [] _ (fun _ => False) (fun _ h => h.elim) (nil_bools w3))
    | (go_at_call 13; (with_reducible refine cC1.mono ?_); rintro e w4 ⟨rfl, h4, hb4⟩
       have cR1 := dk_readZ h4 3 3 rfl (fullS 0) t4 a4 (by rw [fullS_len]; decide)
       have hA := (But.of_gr (DkS g gs gm) hg2).trans (hb3.trans hb4))
    | (go_at_call 14; (with_reducible refine cR1.mono ?_); rintro e w5 ⟨x, rfl, hx5, hg5⟩
       have h5 := h4.gr hg5)
    | (go_at_call 9; (with_reducible refine (cF7 w5).mono ?_); rintro e w6 ⟨rfl, hB6, hg6⟩
       have h6 := h5.gr hg6
       have cW2 := dk_writeZ h6 3 3 rfl _ (fullS 7) t4 (full_rd hB6) (fullS_len 7) (by decide))
    | (go_at_call 8; (with_reducible refine cW2.mono ?_); rintro e w7 ⟨rfl, h7, hb7⟩
       have cFl := dk_flush h7 t7)
    | (go_at_call 10; (with_reducible refine cFl.mono ?_); rintro e w8 ⟨rfl, h8, hb8⟩
       have cC2 := dk_crash h8 [] _ (fun _ => False) (fun _ h => h.elim) (nil_bools w8))
    | (go_at_call 13; (with_reducible refine cC2.mono ?_); rintro e w9 ⟨rfl, h9, hb9⟩
       have cR2 := dk_readZ h9 3 3 rfl (fullS 7) t9 a9 (by rw [fullS_len]; decide)
       have hB59 := (But.of_gr (DkS g gs gm) hg6).trans (hb7.trans (hb8.trans hb9)))
    | (go_at_call 14; (with_reducible refine cR2.mono ?_); rintro e w10 ⟨y, rfl, hy10, hg10⟩
       have hx10 := hx5.but (hB59.gr hg10) (fun k hk => Nat.lt_of_lt_of_le (hlt k hk) hA.size)
       have hA2 := ((hA.gr hg5).trans hB59).gr hg10)
    | (go_at_call 7; (with_reducible refine (num_d _ _).mono ?_); rintro e w11 ⟨rfl, rfl⟩)
    | (go_at_call 9; (with_reducible refine (cF0 w10).mono ?_); rintro e w12 ⟨rfl, hB12, hg12⟩
       have cS1 := cS w12 _ _ (hx10.gr hg12).rdD (full_rd hB12))
    | (go_at_call 15; (with_reducible refine cS1.mono ?_); rintro e w13 ⟨rfl, hg13⟩)
    | (go_at_call 9; (with_reducible refine (cF7 w13).mono ?_); rintro e w14 ⟨rfl, hB14, hg14⟩
       have cS2 := cS7 w14 _ _ (hy10.gr (Gr.trans hg12 (Gr.trans hg13 hg14))).rdD (full_rd hB14))
    | (go_at_call 15; (with_reducible refine cS2.mono ?_); rintro e w15 ⟨rfl, hg15⟩))
  go_ret
  exact ⟨rfl, Below.trans hg1 ((hA2.gr (Gr.trans hg12 (Gr.trans hg13 (Gr.trans hg14 hg15)))).below hg1.size fun k hk => hK k (.inl hk))⟩
end Go.Proofs.Ytamojnejengipaa
