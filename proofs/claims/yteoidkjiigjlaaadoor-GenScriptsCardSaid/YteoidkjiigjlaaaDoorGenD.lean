/- The program's dice: bytes, scopes. -/
import Derived.Test.YteoidkjiigjlaaaDoorGenW
namespace Go.Proofs.YteoidkjiigjlaaaDoor
open Go Go.RowKit

theorem GrX.far {w w' : World} {g : Nat} (h : GrX w w' g) {p : Addr} (hp : w.heap.size ≤ p.block) (v : Value) : GrX w (w'.setCell p v) g :=
  ⟨h.os, h.tape, h.output, by simpa [World.setCell] using h.size, fun k hk hne => (Below.heap_setCell w' p v k (by omega)).trans (h.block k hk hne)⟩
theorem GrX.new {w w' : World} {g : Nat} (h : GrX w w' g) (o : Obj) : GrX w (w'.alloc o) g := h.trans (GrX.of_gr (Gr.alloc w' o) g)
theorem DP.far {w0 w : World} {g : Nat} {s : Int} (h : DP w0 g w s) {p : Addr} (hp : w0.heap.size ≤ p.block) (hg : g ≠ p.block) (v : Value) : DP w0 g (w.setCell p v) s :=
  ⟨h.pow, h.gr.setCell hp v, h.ge, h.dice.1.far hg v, h.dice.2⟩
/-- New blocks. -/
abbrev KN (w w' : World) (b : Nat) : Prop := w.heap.size ≤ b ∧ b < w'.heap.size
theorem RdN.rk {w : World} {base : Nat} {v : Value} {l : List UInt8} (h : RdN w base v l) : RkB w (fun b => base ≤ b ∧ b < w.heap.size) v l := by
  obtain ⟨A, c, e, hc, hr, hn⟩ := h
  refine ⟨A, c, e, hc, hr.1, fun h0 => ?_⟩
  obtain ⟨ad, ea, hlt, hcs⟩ := hr.2 h0
  exact ⟨ad, ea, ⟨hn ad ea, hlt⟩, hcs⟩
theorem RkB.of_blk {w : World} {K : Nat → Prop} {gb n : Nat} {l : List UInt8} {cs : Array Value} (h : Blk w gb 5 cs) (hc : cs.toList = bvs l) (hK : K gb) (hn : n = l.length) : RkB w K (.slice (some ⟨gb, 0, none⟩) n n) l := by
  subst hn
  refine ⟨_, _, rfl, Nat.le_refl _, by rw [bvs_length]; omega, fun _ => ⟨_, rfl, hK, fun j u hu => ?_⟩⟩
  have e : (⟨gb, 0, none⟩ : Addr).add j = ⟨gb, j, none⟩ := by
    unfold Addr.add
    split
    · rename_i h0; simp_all
    · simp
  rw [e, h.cell j, ← Array.getElem?_toList, hc, hu]
theorem bytes_set (l : List Value) (n j : Nat) (hl : l.length = j) (hj : j < n) (u z : Value) : (l ++ List.replicate (n - j) z).toArray.setIfInBounds j u = ((l ++ [u]) ++ List.replicate (n - (j + 1)) z).toArray := by
  obtain ⟨k, hk⟩ : ∃ k, n - j = k + 1 := ⟨n - j - 1, by omega⟩
  have hk' : n - (j + 1) = k := by omega
  rw [hk, hk', List.replicate_succ]
  simp [← hl]
def wordsD : List ByteArray := [⟨textLong.toArray⟩, ⟨textShort.toArray⟩]
theorem data_word (s : Int) : (gOne wordsD s).data.toList = gData 2 s := by
  have hb := belowN_le 2 s (by omega)
  unfold gOne gData wordsD
  rw [if_pos rfl]
  show (List.getD ([⟨textLong.toArray⟩, ⟨textShort.toArray⟩] : List ByteArray) (belowN 2 s).toNat ⟨#[]⟩).data.toList = _
  rcases (by omega : belowN 2 s = 0 ∨ belowN 2 s = 1) with h | h
  · rw [h, if_neg (by omega)]; rfl
  · rw [h, if_pos rfl]; rfl
set_option maxRecDepth 100000 in
theorem gdata_any (w0 w : World) (g : Nat) (s k : Int) (h : DP w0 g w s) :
    Calls Tryd.prog 84 #[.pointer (some ⟨g, 0, none⟩), .int .i64 k] w fun e w' => ∃ v, e = .returned v ∧ RkB w' (KN w w') v (gData k s) ∧ DP w0 g w' (gDataS k s) ∧ GrX w w' g := by
  by_cases hk : k = 2
  · subst hk
    have cO := gone_any w0 _ g s (h.grow (Gr.alloc w _)) wordsD _ 2 2 (Words.lit w g h.lt #[.string ⟨textLong.toArray⟩, .string ⟨textShort.toArray⟩] 9 wordsD (by simp [wordsD]) 2 rfl) (by simp [wordsD]) (by omega) (by omega) (by omega)
    unfold textLong textShort at cO
    have hD := data_word s
    generalize gOne wordsD s = W at *
    have hcv := fun w' => conv_str w' W
    go_enter Tryd.func84, Tryd.ntmps84
    go_wp2_with (first
      | (go_at_call 101; (with_reducible refine cO.mono ?_); rintro e w1 ⟨rfl, hd1, hx1⟩)
      | fail)
    go_ret
    refine ⟨_, rfl, ?_, hd1.grow (bytes_below _ _ _), ((GrX.of_gr (Gr.alloc _ _) g).trans hx1).trans (GrX.of_gr (bytes_below _ _ _) g)⟩
    rw [← hD]
    have hr := (conv_rdN w1 W w1.heap.size (Nat.le_refl _)).rk
    have hle := hx1.size
    simp at hle
    exact hr.mono fun b hb => ⟨by omega, hb.2⟩
  · have c8 := dbelow_any w0 w g 8 s h (by omega)
    have hb := belowN_le 8 s (by omega)
    have e1 : gData k s = gBytes (belowN 8 s).toNat (belowS 8 s) := by unfold gData; rw [if_neg hk]
    have e2 : gDataS k s = gBytesS (belowN 8 s).toNat (belowS 8 s) := by unfold gDataS; rw [if_neg hk]
    rw [e1, e2]
    clear e1 e2
    generalize belowN 8 s = m at *
    obtain ⟨n, rfl⟩ : ∃ n : Nat, m = n := ⟨m.toNat, by omega⟩
    rw [Int.toNat_natCast]
    have hm := fun W => make_u8 n (by omega) W
    go_enter Tryd.func84, Tryd.ntmps84
    go_wp2_with (go_at_call 24; (with_reducible refine c8.mono ?_); rintro e w1 ⟨rfl, hd1, hx1⟩)
    have hz : g ≠ w1.heap.size := by have := hd1.lt; omega
    have hzw : w.heap.size ≤ w1.heap.size := hx1.size
    have hz0 : w0.heap.size ≤ w1.heap.size := hd1.gr.size
    go_loopw [18] (fun v18 wr => ∃ j : Nat, v18 = .int .i64 j ∧ j ≤ n ∧ Blk wr w1.heap.size 5 (bvs (gBytes j (belowS 8 s)) ++ List.replicate (n - j) (Value.int .u8 0)).toArray ∧ DP w0 g wr (gBytesS j (belowS 8 s)) ∧ GrX w wr g) (fun v18 _ => n - (intOf v18).toNat)
    case atStart => exact ⟨0, rfl, by omega, by simpa [gBytes, bvs] using Blk.new w1 5 (Array.replicate n (.int .u8 0)), hd1.grow (Gr.alloc _ _), hx1.new _⟩
    case round =>
      obtain ⟨j, rfl, hj, hB, hd, hx⟩ := hrel
      by_cases hlt : j < n
      · have cB := dbelow_any w0 wr g 256 _ hd (by omega)
        have hm := belowN_le 256 (gBytesS j (belowS 8 s)) (by omega)
        have hs1 := gBytes_snoc j (belowS 8 s)
        have hs2 := gBytesS_snoc j (belowS 8 s)
        have HS1 := Lib.hid hs1
        have HS2 := Lib.hid hs2
        clear hs1 hs2
        have hcl : wr.cell? ⟨w1.heap.size, j, none⟩ = some (.int .u8 0) := by
          rw [hB.cell j]
          have hl : (bvs (gBytes j (belowS 8 s))).length = j := by rw [bvs_length, gBytes_len]
          rw [← Array.getElem?_toList, List.getElem?_append_right (by omega), hl, Nat.sub_self, List.getElem?_replicate, if_pos (by omega)]
        have HCL := Lib.hid hcl
        clear hcl
        generalize belowN 256 (gBytesS j (belowS 8 s)) = m at *
        go_wp2_with (go_at_call 24; (with_reducible refine cB.mono ?_); rintro e w2 ⟨rfl, hd2, hx2⟩
                     have hB2 := hB.grown hx2 (by intro e; injection e with e; exact hz e.symm)
                     have hc2 := hB2.frozen j
                     have hl2 := (hB2.cell j).trans ((hB.cell j).symm.trans HCL.out))
        go_roundw
        case rel =>
          refine ⟨j + 1, by go_num, by omega, ?_, ?_, ?_⟩
          · have h2 := hB2.set_ j (.int .u8 m)
            rw [bytes_set (bvs (gBytes j (belowS 8 s))) n j (by rw [bvs_length, gBytes_len]) hlt] at h2
            rw [HS1.out]
            have e : bvs (gBytes j (belowS 8 s) ++ [UInt8.ofNat m.toNat]) = bvs (gBytes j (belowS 8 s)) ++ [Value.int .u8 m] := by
              rw [← bvs_app]
              have : bvs [UInt8.ofNat m.toNat] = [bv (UInt8.ofNat m.toNat)] := rfl
              rw [this, bv_nat _ (by omega)]
              congr 3
              omega
            rw [e]
            exact h2
          · rw [HS2.out]
            exact hd2.far hz0 hz _
          · exact (hx.trans hx2).far hzw _
        case measure => simp [intOf]; omega
      · obtain rfl : j = n := by omega
        go_wp2
        go_ret
        refine ⟨_, rfl, RkB.of_blk hB ?_ ⟨hzw, hB.lt⟩ (gBytes_len _ _).symm, hd, hx⟩
        simp
end Go.Proofs.YteoidkjiigjlaaaDoor
