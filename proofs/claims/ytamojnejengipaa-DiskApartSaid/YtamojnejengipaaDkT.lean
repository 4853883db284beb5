/- Disks: the law DiskApart. -/
import Derived.Test.YtamojnejengipaaDkS
namespace Go.Proofs.Ytamojnejengipaa
open Go Go.RowKit Go.Maps Go.MapKept Go.ChangeMaps

theorem own_blk256 {w : World} {base : Nat} {v : Value} {l : List UInt8} (h : OwnB w base v l) (hl : l.length = 256) : ∃ b cap cs, v = .slice (some ⟨b, 0, none⟩) 256 cap ∧ base ≤ b ∧ Blk w b 5 cs ∧ 256 ≤ cs.size ∧ ∀ j, j < 256 → cs[j]? = (bvs l)[j]? := by
  rcases h.2 with ⟨_, h0⟩ | ⟨b, cap, cur, e, e2, e3, e4, e5, e6, e7⟩
  · omega
  · rw [hl] at e e7
    have hbl : (bvs l).length = 256 := by rw [bvs_length, hl]
    have hle : 256 ≤ cur.size := by
      have h1 := congrArg List.length e7
      rw [List.length_take, hbl, Array.length_toList] at h1
      omega
    refine ⟨b, cap, cur, e, e2, e3, hle, fun j hj => ?_⟩
    rw [← e7, List.getElem?_take, if_pos (by omega), Array.getElem?_toList]
theorem bv_at (c : UInt8) (j : Nat) (hj : j < 256) : (bvs (fullS c))[j]? = some (.int .u8 (c.toNat : Int)) := by
  unfold bvs fullS
  rw [List.map_replicate, List.getElem?_replicate, if_pos hj]
  rfl
def dA (c : UInt8) : Dk := ((Dk.new 3).put 1 (fullS c)).did
theorem dA_facts (c : UInt8) : (Dk.new 3).there ((1 : Nat) : Int) = 0 ∧ (dA c).there ((1 : Nat) : Int) = 0 ∧ (dA c).at_ 1 = fullS c ∧ (dA c).safe = [fullS 0, fullS 0, fullS 0] := ⟨rfl, rfl, rfl, rfl⟩
/-- The stores of the law into what was told. -/
def S2 (a b : Nat) : Nat → Prop := fun k => k = a ∨ k = b
set_option maxRecDepth 100000 in
set_option maxHeartbeats 16000000 in
theorem law_diskapart (c : UInt8) (i : Int) (w : World) : Calls Try.prog 4 #[.int .u8 (c.toNat : Int), .int .i64 i] w fun e w' => e = .returned (.bool true) ∧ Gr w w' := by
  obtain ⟨t1, t4, a4, s4⟩ := dA_facts c
  have hc256 : (c.toNat : Int) < 256 := by have := c.toNat_lt; omega
  have cN := dk_newZ 3 3 rfl w (by decide) (by decide)
  have cF := fun W => full_d c W
  have cS := fun W a b (ha : RdB W W.heap.size a (fullS c)) (hb : RdB W W.heap.size b (fullS c)) => same_d W W.heap.size a b (fullS c) (fullS c) (Nat.le_refl _) ha hb (by rw [fullS_len]; decide)
  go_enter Try.func4, Try.ntmps4
  go_wp2_with (first
    | (go_at_call 6; (with_reducible refine cN.mono ?_); rintro e w1 ⟨g, gs, gm, K, rfl, h1, hK, hg1⟩
       have hlt := h1.lt)
    | (go_at_call 9; (with_reducible refine (cF w1).mono ?_); rintro e w2 ⟨rfl, hB2, hg2⟩
       have h2 := h1.gr hg2
       have hl2 := hB2.lt
       have cW1 := dk_writeZ h2 1 1 rfl _ (fullS c) t1 (full_rd hB2) (fullS_len c) (by decide))
    | (go_at_call 8; (with_reducible refine cW1.mono ?_); rintro e w3 ⟨rfl, h3, hb3⟩
       have hnS : ¬ DkS g gs gm w1.heap.size := fun hs => by have := hlt _ hs; omega
       have hB3 := hb3.blk hB2 hnS
       have hK3 : ¬ KW K w2 w3 w1.heap.size := by
         rintro (h4 | h4)
         · exact absurd (h1.kk _ h4).1 (Nat.lt_irrefl _)
         · omega
       have hcell3 : w3.cell? ⟨w1.heap.size, 0, none⟩ = some (.int .u8 (c.toNat : Int)) := by
         rw [hB3.cell 0, ← Array.getElem?_toList, fillS_end, bv_at c 0 (by decide)]
       have hfr3 := hB3.frozen 0
       have hb34 : ∀ u, But (S2 w1.heap.size w1.heap.size) w3 (w3.setCell ⟨w1.heap.size, 0, none⟩ u) := fun u => (But.refl _ _).setCell (p := ⟨w1.heap.size, 0, none⟩) (.inl (.inl rfl)) u
       have h4 := fun u => h3.but (hb34 u) fun k hk => by
         have hk : k = w1.heap.size := hk.elim id id
         subst hk
         exact ⟨hnS, hK3⟩
       have cR1 := fun u => dk_readZ (h4 u) 1 1 rfl (fullS c) t4 a4 (by rw [fullS_len]; decide))
    | (go_at_call 7; (with_reducible refine (num_d _ _).mono ?_); rintro e w11 ⟨rfl, rfl⟩)
    | (go_at_call 14; (with_reducible refine (cR1 _).mono ?_); rintro e w5 ⟨x, rfl, hx5, hg5⟩
       have h5 := (h4 _).gr hg5
       have cI := dk_image h5 (by rw [show ((Dk.new 3).put 1 (fullS c)).did.safe = [fullS 0, fullS 0, fullS 0] from s4]; intro l hl; simp only [List.mem_cons, List.not_mem_nil, or_false, or_self] at hl; rw [hl, fullS_len]; decide)
       obtain ⟨gx, xc, xcs, rfl, hgx, hBx, hxs, hxat⟩ := own_blk256 hx5 (fullS_len c))
    | (go_at_call 17; (with_reducible refine cI.mono ?_); rintro e w6 ⟨y, vs, rfl, hy6, hR6, hg6⟩
       obtain ⟨gy, yc, ycs, rfl, hgy, hBy, hyat⟩ : ∃ gy yc ycs, y = .slice (some ⟨gy, 0, none⟩) 3 yc ∧ w5.heap.size ≤ gy ∧ Blk w6 gy 30 ycs ∧ ycs[1]? = vs[1]? := by
         rcases hy6.2 with ⟨_, h0⟩ | ⟨b, cap, cur, e, e2, e3, e4, e5, e6, e7⟩
         · cases h0
         · refine ⟨b, cap, cur, e, e2, e3, ?_⟩
           rw [← e7, List.getElem?_take, if_pos (by decide), Array.getElem?_toList]
       obtain ⟨y1, hy1⟩ : ∃ y1, vs[1]? = some y1 := ⟨_, List.getElem?_eq_getElem (by have := hy6.1; omega)⟩
       have hy1o := hR6 1 y1 (fullS 0) (by decide) hy1 (by rw [show ((Dk.new 3).put 1 (fullS c)).did.safe = [fullS 0, fullS 0, fullS 0] from s4]; rfl)
       obtain ⟨gz, zc, zcs, rfl, hgz, hBz, hzs, hzat⟩ := own_blk256 hy1o (fullS_len 0)
       have hyc : w6.cell? ⟨gy, 1, none⟩ = some (.slice (some ⟨gz, 0, none⟩) 256 zc) := by rw [hBy.cell 1, hyat, hy1]))
  have hBx6 := hBx.below hg6 hBx.lt
  have hxlt := hBx.lt
  have hsz4 : ∀ u, (w3.setCell ⟨w1.heap.size, 0, none⟩ u).heap.size = w3.heap.size := fun u => by simp [World.setCell]
  have hgx' : w3.heap.size ≤ gx := by rw [hsz4] at hgx; exact hgx
  have hg56 := hg6.size
  have hg45 : w3.heap.size ≤ w5.heap.size := by have := hg5.size; rw [hsz4] at this; exact this
  have hxz : gx ≠ gz := by omega
  have hcx : w6.cell? ⟨gx, 0, none⟩ = some (.int .u8 (c.toNat : Int)) := by rw [hBx6.cell 0, hxat 0 (by decide), bv_at c 0 (by decide)]
  have hcz : w6.cell? ⟨gz, 0, none⟩ = some (.int .u8 0) := by rw [hBz.cell 0, hzat 0 (by decide), bv_at 0 0 (by decide)]; rfl
  let fI : Fact := ⟨fun v _ => ∃ n, v = .int .u8 n, fun v W W' hp hg => hp⟩
  let fA : Fact := ⟨fun _ W => But (S2 gx gz) w6 W ∧ Blk W gz 5 zcs, fun _ W W' hp hg => ⟨hp.1.gr hg, hp.2.below hg hp.2.lt⟩⟩
  let fE : Fact := ⟨fun _ W => But (S2 gx gz) w6 W, fun _ W W' hp hg => hp.gr hg⟩
  refine wp_region_facts [.is (.slice (some ⟨gx, 0, none⟩) 256 xc), .is (.slice (some ⟨gy, 0, none⟩) 3 yc), .is (.pointer (some ⟨gy, 1, none⟩)), .is (.slice (some ⟨gz, 0, none⟩) 256 zc), .is (.slice (some ⟨gx, 0, none⟩) 256 xc), .is (.pointer (some ⟨gx, 0, none⟩)), .is (.int .u8 (c.toNat : Int)), fI, .is (.slice (some ⟨gy, 0, none⟩) 3 yc), .is (.pointer (some ⟨gy, 1, none⟩)), .is (.slice (some ⟨gz, 0, none⟩) 256 zc), .is (.pointer (some ⟨gz, 0, none⟩)), .is (.int .u8 0), fI, .is (.pointer (some ⟨gx, 0, none⟩)), fA, .is (.pointer (some ⟨gz, 0, none⟩)), fE]
    (fun W => Gr w6 W) (fun q j => q == 17 && j == 15) (fun q => q == 15 || q == 17) 0 (by kernel_rfl) rfl (by kernel_rfl) (by kernel_rfl) (Nat.zero_le _) (Gr.drew _) (fun vals => by simp [fillA, dstsOf, go_sem]; rfl) ?_ ?_
  · intro q hq
    replace hq : q < 18 := hq
    have hI : ∀ W W', Gr w6 W → Gr W W' → Gr w6 W' := fun W W' hp hg => Gr.trans hp hg
    have hkeep : ∀ (vals : Nat → Value) (W W' : World), ∀ j ∈ [0, 1, 2, 3, 4, 5, 6, 7, 8, 9, 10, 11, 12, 13, 14, 16], ∀ f : Fact, ([.is (.slice (some ⟨gx, 0, none⟩) 256 xc), .is (.slice (some ⟨gy, 0, none⟩) 3 yc), .is (.pointer (some ⟨gy, 1, none⟩)), .is (.slice (some ⟨gz, 0, none⟩) 256 zc), .is (.slice (some ⟨gx, 0, none⟩) 256 xc), .is (.pointer (some ⟨gx, 0, none⟩)), .is (.int .u8 (c.toNat : Int)), fI, .is (.slice (some ⟨gy, 0, none⟩) 3 yc), .is (.pointer (some ⟨gy, 1, none⟩)), .is (.slice (some ⟨gz, 0, none⟩) 256 zc), .is (.pointer (some ⟨gz, 0, none⟩)), .is (.int .u8 0), fI, .is (.pointer (some ⟨gx, 0, none⟩)), fA, .is (.pointer (some ⟨gz, 0, none⟩)), fE] : List Fact)[j]? = some f → f.p (vals j) W → f.p (vals j) W' := fun vals W W' j hj f hf hp => by
      simp only [List.mem_cons, List.not_mem_nil, or_false] at hj
      rcases hj with rfl | rfl | rfl | rfl | rfl | rfl | rfl | rfl | rfl | rfl | rfl | rfl | rfl | rfl | rfl | rfl <;> (cases hf; exact hp)
    rcases (by omega : q = 0 ∨ q = 1 ∨ q = 2 ∨ q = 3 ∨ q = 4 ∨ q = 5 ∨ q = 6 ∨ q = 7 ∨ q = 8 ∨ q = 9 ∨ q = 10 ∨ q = 11 ∨ q = 12 ∨ q = 13 ∨ q = 14 ∨ q = 15 ∨ q = 16 ∨ q = 17) with rfl | rfl | rfl | rfl | rfl | rfl | rfl | rfl | rfl | rfl | rfl | rfl | rfl | rfl | rfl | rfl | rfl | rfl
    · refine step_g 0 [] _ _ rfl rfl hI (by kernel_rfl) fun vals W hb_ hB_ hIw hd => ?_
      go_wp2
      exact ⟨rfl, _, rfl, Gr.refl _, rfl⟩
    · refine step_g 1 [] _ _ rfl rfl hI (by kernel_rfl) fun vals W hb_ hB_ hIw hd => ?_
      go_wp2
      exact ⟨rfl, _, rfl, Gr.refl _, rfl⟩
    · refine step_g 2 [1] _ _ rfl rfl hI (by kernel_rfl) fun vals W hb_ hB_ hIw hd => ?_
      have e1 : vals 1 = _ := hd 1 (by simp) _ rfl
      rw [e1]
      go_wp2
      exact ⟨rfl, _, rfl, Gr.refl _, rfl⟩
    · refine step_g 3 [2] _ _ rfl rfl hI (by kernel_rfl) fun vals W hb_ hB_ hIw hd => ?_
      have e2 : vals 2 = _ := hd 2 (by simp) _ rfl
      rw [e2]
      have hgW := hIw (by kernel_rfl)
      have hq := (hgW.cell (p := ⟨gy, 1, none⟩) hBy.lt).trans hyc
      go_wp2
      exact ⟨rfl, _, rfl, Gr.refl _, rfl⟩
    · refine step_g 4 [] _ _ rfl rfl hI (by kernel_rfl) fun vals W hb_ hB_ hIw hd => ?_
      go_wp2
      exact ⟨rfl, _, rfl, Gr.refl _, rfl⟩
    · refine step_g 5 [4] _ _ rfl rfl hI (by kernel_rfl) fun vals W hb_ hB_ hIw hd => ?_
      have e4 : vals 4 = _ := hd 4 (by simp) _ rfl
      rw [e4]
      go_wp2
      exact ⟨rfl, _, rfl, Gr.refl _, rfl⟩
    · refine step_g 6 [5] _ _ rfl rfl hI (by kernel_rfl) fun vals W hb_ hB_ hIw hd => ?_
      have e5 : vals 5 = _ := hd 5 (by simp) _ rfl
      rw [e5]
      have hgW := hIw (by kernel_rfl)
      have hq := (hgW.cell (p := ⟨gx, 0, none⟩) hBx6.lt).trans hcx
      go_wp2
      exact ⟨rfl, _, rfl, Gr.refl _, rfl⟩
    · refine step_g 7 [6] _ _ rfl rfl hI (by kernel_rfl) fun vals W hb_ hB_ hIw hd => ?_
      have e6 : vals 6 = _ := hd 6 (by simp) _ rfl
      rw [e6]
      go_wp2
      exact ⟨rfl, _, rfl, Gr.refl _, ⟨_, rfl⟩⟩
    · refine step_g 8 [] _ _ rfl rfl hI (by kernel_rfl) fun vals W hb_ hB_ hIw hd => ?_
      go_wp2
      exact ⟨rfl, _, rfl, Gr.refl _, rfl⟩
    · refine step_g 9 [8] _ _ rfl rfl hI (by kernel_rfl) fun vals W hb_ hB_ hIw hd => ?_
      have e8 : vals 8 = _ := hd 8 (by simp) _ rfl
      rw [e8]
      go_wp2
      exact ⟨rfl, _, rfl, Gr.refl _, rfl⟩
    · refine step_g 10 [9] _ _ rfl rfl hI (by kernel_rfl) fun vals W hb_ hB_ hIw hd => ?_
      have e9 : vals 9 = _ := hd 9 (by simp) _ rfl
      rw [e9]
      have hgW := hIw (by kernel_rfl)
      have hq := (hgW.cell (p := ⟨gy, 1, none⟩) hBy.lt).trans hyc
      go_wp2
      exact ⟨rfl, _, rfl, Gr.refl _, rfl⟩
    · refine step_g 11 [10] _ _ rfl rfl hI (by kernel_rfl) fun vals W hb_ hB_ hIw hd => ?_
      have e10 : vals 10 = _ := hd 10 (by simp) _ rfl
      rw [e10]
      go_wp2
      exact ⟨rfl, _, rfl, Gr.refl _, rfl⟩
    · refine step_g 12 [11] _ _ rfl rfl hI (by kernel_rfl) fun vals W hb_ hB_ hIw hd => ?_
      have e11 : vals 11 = _ := hd 11 (by simp) _ rfl
      rw [e11]
      have hgW := hIw (by kernel_rfl)
      have hq := (hgW.cell (p := ⟨gz, 0, none⟩) hBz.lt).trans hcz
      go_wp2
      exact ⟨rfl, _, rfl, Gr.refl _, rfl⟩
    · refine step_g 13 [12] _ _ rfl rfl hI (by kernel_rfl) fun vals W hb_ hB_ hIw hd => ?_
      have e12 : vals 12 = _ := hd 12 (by simp) _ rfl
      rw [e12]
      go_wp2
      exact ⟨rfl, _, rfl, Gr.refl _, ⟨_, rfl⟩⟩
    · refine step_g 14 [0] _ _ rfl rfl hI (by kernel_rfl) fun vals W hb_ hB_ hIw hd => ?_
      have e0 : vals 0 = _ := hd 0 (by simp) _ rfl
      rw [e0]
      go_wp2
      exact ⟨rfl, _, rfl, Gr.refl _, rfl⟩
    · refine step_s 15 [7, 14] [0, 1, 2, 3, 4, 5, 6, 7, 8, 9, 10, 11, 12, 13, 14, 16] _ _ rfl rfl (by kernel_rfl) (by kernel_rfl) fun vals W hb_ hB_ hIw hd => ?_
      obtain ⟨nx, e7⟩ := (show ∃ n, vals 7 = .int .u8 n from hd 7 (by simp) _ rfl)
      have e14 : vals 14 = _ := hd 14 (by simp) _ rfl
      rw [e7, e14]
      have hgW := hIw (by kernel_rfl)
      have hq := (hgW.cell (p := ⟨gx, 0, none⟩) hBx6.lt).trans hcx
      have hqf := (hBx6.below hgW hBx6.lt).frozen 0
      have hBzW := (hBz.below hgW hBz.lt).far (p := ⟨gx, 0, none⟩) (fun e => hxz e.symm) (.int .u8 nx)
      have hbt := (But.of_gr (S2 gx gz) hgW).setCell (p := ⟨gx, 0, none⟩) (.inl (.inl rfl)) (.int .u8 nx)
      go_wp2
      exact ⟨rfl, undef, rfl, ⟨rfl, rfl, rfl, by simp [World.setCell], fun k hk => absurd hk (Nat.not_lt_zero k)⟩, ⟨hbt, hBzW⟩, fun h _ => absurd h (by decide), hkeep vals W _⟩
    · refine step_g 16 [3] _ _ rfl rfl hI (by kernel_rfl) fun vals W hb_ hB_ hIw hd => ?_
      have e3 : vals 3 = _ := hd 3 (by simp) _ rfl
      rw [e3]
      go_wp2
      exact ⟨rfl, _, rfl, Gr.refl _, rfl⟩
    · refine step_s 17 [13, 15, 16] [0, 1, 2, 3, 4, 5, 6, 7, 8, 9, 10, 11, 12, 13, 14, 16] _ _ rfl rfl (by kernel_rfl) (by kernel_rfl) fun vals W hb_ hB_ hIw hd => ?_
      obtain ⟨nx, e13⟩ := (show ∃ n, vals 13 = .int .u8 n from hd 13 (by simp) _ rfl)
      obtain ⟨hbtW, hBzW⟩ := (show But (S2 gx gz) w6 W ∧ Blk W gz 5 zcs from hd 15 (by simp) _ rfl)
      have e16 : vals 16 = _ := hd 16 (by simp) _ rfl
      rw [e13, e16]
      have hq : W.cell? ⟨gz, 0, none⟩ = some (.int .u8 0) := by rw [hBzW.cell 0, ← hBz.cell 0, hcz]
      have hqf := hBzW.frozen 0
      have hbt := hbtW.setCell (p := ⟨gz, 0, none⟩) (.inl (.inr rfl)) (.int .u8 nx)
      go_wp2
      exact ⟨rfl, undef, rfl, ⟨rfl, rfl, rfl, by simp [World.setCell], fun k hk => absurd hk (Nat.not_lt_zero k)⟩, hbt, fun h _ => absurd h (by decide), hkeep vals W _⟩
  · intro vals W7 hb7 hfs
    have hbt7 : But (S2 gx gz) w6 W7 := hfs 17 _ rfl (fun k hk => by simp)
    have h7 := (h5.gr hg6).but hbt7 fun k hk => by
      have hk3 : w3.heap.size ≤ k := by
        rcases hk with rfl | rfl
        · exact hgx'
        · omega
      refine ⟨fun hs => by have := hlt k hs; have := hg2.size; have := hb3.size; omega, ?_⟩
      rintro (h8 | h8)
      · have := (h1.kk _ h8).1
        have := hg2.size
        have := hb3.size
        omega
      · omega
    have cR2 := dk_readZ h7 1 1 rfl (fullS c) t4 a4 (by rw [fullS_len]; decide)
    clear cR1 cI hcell3 hcx hcz hfs
    go_wp2_with (first
      | (go_at_call 14; (with_reducible refine cR2.mono ?_); rintro e w8 ⟨z, rfl, hz8, hg8⟩)
      | (go_at_call 14; (with_reducible refine (nil_read _ _).mono ?_); rintro e w9 ⟨rfl, rfl⟩)
      | (go_at_call 18; (with_reducible refine (nil_fuse _ _).mono ?_); rintro e w9 ⟨rfl, rfl⟩)
      | (go_at_call 13; (with_reducible refine (nil_crash _ _).mono ?_); rintro e w9 ⟨rfl, rfl⟩)
      | (go_at_call 7; (with_reducible refine (num_d _ _).mono ?_); rintro e w9 ⟨rfl, rfl⟩)
      | (go_at_call 9; (with_reducible refine (cF w8).mono ?_); rintro e w10 ⟨rfl, hB10, hg10⟩
         have cS1 := cS w10 _ _ (hz8.gr hg10).rdD (full_rd hB10))
      | (go_at_call 15; (with_reducible refine cS1.mono ?_); rintro e w11 ⟨rfl, hg11⟩)
      | (go_at_call 8; (with_reducible refine (nil_write _ _ _).mono ?_); rintro e w12 ⟨rfl, rfl⟩)
      | (go_at_call 10; (with_reducible refine (nil_flush _).mono ?_); rintro e w12 ⟨rfl, rfl⟩)
      | (go_at_call 19; (with_reducible refine (nil_size _).mono ?_); rintro e w12 ⟨rfl, rfl⟩)
      | (go_at_call 16; (with_reducible refine (nil_dead _).mono ?_); rintro e w12 ⟨rfl, rfl⟩)
      | (go_at_call 17; (with_reducible refine (nil_image _).mono ?_); rintro e w12 ⟨rfl, rfl⟩)
      | (go_at_call 12; (with_reducible refine (nil_pending _).mono ?_); rintro e w12 ⟨rfl, rfl⟩)
      | (go_at_call 20; (with_reducible refine (nil_acts _).mono ?_); rintro e w12 ⟨rfl, rfl⟩)
      | (go_at_call 5; (with_reducible refine (live_d _).mono ?_); rintro e w13 ⟨rfl, hg13⟩))
    go_ret
    have hw1 := hg1.size
    have hw2 := hg2.size
    have hw3 := hb3.size
    have hA : But (fun k => w.heap.size ≤ k) w1 w3 := (But.of_gr _ hg2).trans (hb3.mono fun k hk => hK k (.inl hk))
    have hB := (hA.trans ((hb34 _).mono fun k hk => by rcases hk with rfl | rfl <;> exact hw1)).gr (Gr.trans hg5 hg6)
    have hC := ((hB.trans (hbt7.mono fun k hk => by rcases hk with rfl | rfl <;> (show w.heap.size ≤ _) <;> omega)).gr (Gr.trans hg8 (Gr.trans hg10 (Gr.trans hg11 hg13))))
    exact ⟨rfl, Below.trans hg1 (hC.below hw1 fun k hk => hk)⟩
theorem row_diskapart (c i : Int) (W : World) (hc : (Lit.int .u8 c).wf = true) (_hi : (Lit.int .i64 i).wf = true) : Calls Try.prog 4 #[.int .u8 c, .int .i64 i] W fun e w' => e = .returned (.bool true) ∧ Below W.heap.size W w' := by
  have hw := (Lit.wf_int_iff .u8 _).1 hc
  have h0 : 0 ≤ c := hw.1
  have h1 : c ≤ 255 := hw.2
  have e : ((UInt8.ofNat c.toNat).toNat : Int) = c := by rw [UInt8.toNat_ofNat']; omega
  have h := law_diskapart (UInt8.ofNat c.toNat) i W
  rw [e] at h
  exact h
end Go.Proofs.Ytamojnejengipaa
