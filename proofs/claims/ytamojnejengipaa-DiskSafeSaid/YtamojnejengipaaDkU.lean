/- Disks: the law DiskSafe. -/
import Derived.Test.YtamojnejengipaaDkV
import Derived.RegionTactic
import Derived.ChangeAlike
namespace Go.Proofs.Ytamojnejengipaa
open Go Go.RowKit Go.Maps Go.MapKept Go.ChangeMaps

theorem own_blkD {w : World} {base : Nat} {v : Value} {l : List UInt8} (h : OwnB w base v l) (hl : l.length = 256) : ∃ b cap cs, v = .slice (some ⟨b, 0, none⟩) 256 cap ∧ Blk w b 5 cs := by
  rcases h.2 with ⟨_, h0⟩ | ⟨b, cap, cur, e, e2, e3, e4, e5, e6, e7⟩
  · omega
  · rw [hl] at e
    exact ⟨b, cap, cur, e, e3⟩
/-- The blocks that a store of the law turns. -/
def S2 (a b : Nat) : Nat → Prop := fun k => k = a ∨ k = b
/-- Nine bytes that are 0. -/
def nine0 : Array Value := (List.replicate 9 (Value.int .u8 0)).toArray
theorem make9 (W : World) : (Instr.makeSlice 30 (.int .i64 9) (.int .i64 9)).run Try.prog W = .ok (.slice (some ⟨W.heap.size, 0, none⟩) 9 9) (W.alloc (.cells nine0 5)) := make_d 9 (by decide) W
theorem nine0_bvs : nine0 = (bvs (List.replicate 9 0)).toArray := by unfold nine0 bvs; rw [List.map_replicate]; rfl
/-- The law between two acts. -/
structure SfAt (w w1 : World) (g gs gm bl : Nat) (K : Nat → Prop) (m : Nat) (d : Dk) (s t : List UInt8) (v7 : Value) (wr : World) : Prop where
  dk : DkAt wr K g gs gm 9 m d
  inv : SafeI d s t
  sv : RkB wr (fun b => w1.heap.size ≤ b ∧ b < wr.heap.size ∧ b ≠ bl) v7 s
  last : Blk wr bl 5 (bvs t).toArray
  blK : ¬ K bl ∧ w1.heap.size ≤ bl
  below : Below w.heap.size w wr
  lt : ∀ k, DkS g gs gm k → k < w1.heap.size ∧ w.heap.size ≤ k
  sz : w.heap.size ≤ w1.heap.size
section
variable {w w1 wr w2 w3 w' : World} {g gs gm bl m : Nat} {K : Nat → Prop} {d : Dk} {s t : List UInt8} {v7 : Value}
theorem SfAt.gr (h : SfAt w w1 g gs gm bl K m d s t v7 wr) (hg : Gr wr w') : SfAt w w1 g gs gm bl K m d s t v7 w' :=
  ⟨h.dk.gr hg, h.inv, (h.sv.keep fun p hp => hg.cell hp.2.1).mono fun b hb => ⟨hb.1, Nat.lt_of_lt_of_le hb.2.1 hg.size, hb.2.2⟩, h.last.below hg h.last.lt, h.blK, Below.trans h.below (Below.mono hg (by have := h.below.size; exact this)), h.lt, h.sz⟩
theorem SfAt.nb (h : SfAt w w1 g gs gm bl K m d s t v7 wr) : ¬ DkS g gs gm bl := fun hs => by have := (h.lt bl hs).1; have := h.blK.2; omega
/-- A sector was written, and what was written last is kept. -/
theorem SfAt.put (h : SfAt w w1 g gs gm bl K m d s t v7 w2) (i : Nat) (_hi : i < 9) (c : UInt8) (hD : DkAt w3 (KW K w2 w3) g gs gm 9 (m + 1) (d.put i (fullS c)).did) (hb : But (DkS g gs gm) w2 w3) :
    SfAt w w1 g gs gm bl (KW K w2 w3) (m + 1) (d.put i (fullS c)) s (t.set i c) v7 (w3.setCell ⟨bl, i, none⟩ (.int .u8 (c.toNat : Int))) := by
  have hI := h.inv.put i c
  rw [hI.did] at hD
  have hl3 := hb.blk h.last h.nb
  have hnK : ¬ KW K w2 w3 bl := by
    rintro (h4 | h4)
    · exact h.blK.1 h4
    · have := h.last.lt; omega
  have hb34 : But (S2 bl bl) w3 (w3.setCell ⟨bl, i, none⟩ (.int .u8 (c.toNat : Int))) := (But.refl _ _).setCell (p := ⟨bl, i, none⟩) (.inl (.inl rfl)) _
  have hsz : (w3.setCell ⟨bl, i, none⟩ (.int .u8 (c.toNat : Int))).heap.size = w3.heap.size := by simp [World.setCell]
  refine ⟨hD.but hb34 fun k hk => ?_, hI, ?_, ?_, ⟨hnK, h.blK.2⟩, ?_, h.lt, h.sz⟩
  · have hk : k = bl := hk.elim id id
    subst hk
    exact ⟨h.nb, hnK⟩
  · refine ((h.sv.keep fun p hp => ?_).mono fun b hb2 => ⟨hb2.1, by rw [hsz]; exact Nat.lt_of_lt_of_le hb2.2.1 hb.size, hb2.2.2⟩)
    rw [hb34.cell (Nat.lt_of_lt_of_le hp.2.1 hb.size) (fun hs => hp.2.2 (hs.elim id id)), hb.cell hp.2.1 (fun hs => by have := (h.lt _ hs).1; have := hp.1; omega)]
  · have := hl3.set_ i (.int .u8 (c.toNat : Int))
    rw [List.setIfInBounds_toArray] at this
    unfold bvs at this ⊢
    rw [List.map_set]
    exact this
  · refine Below.setCell (Below.trans h.below (hb.below h.below.size fun k hk => (h.lt k hk).2)) ?_ _
    have := h.blK.2
    have := h.sz
    show w.heap.size ≤ bl
    omega
/-- What was written last was made safe. -/
theorem SfAt.flush {u : Value} (h : SfAt w w1 g gs gm bl K m d s t v7 w2) (hD : DkAt w3 K g gs gm 9 0 d.flushed.did) (hb : But (DkS g gs gm) w2 w3) (hu : OwnB w' w3.heap.size u t) (hg : Gr w3 w') : SfAt w w1 g gs gm bl K 0 d.flushed t t u w' := by
  have hI := h.inv.flushed
  rw [hI.did] at hD
  refine ⟨hD.gr hg, hI, hu.rk.mono fun b hb2 => ⟨?_, hb2.2, ?_⟩, (hb.blk h.last h.nb).below hg (hb.blk h.last h.nb).lt, h.blK, Below.trans (Below.trans h.below (hb.below h.below.size fun k hk => (h.lt k hk).2)) (Below.mono hg (Nat.le_trans h.below.size hb.size)), h.lt, h.sz⟩
  · have h1 := h.last.lt
    have h2 := hb.size
    have h3 := h.blK.2
    have h4 := hb2.1
    omega
  · have h1 := h.last.lt
    have h2 := hb.size
    have h4 := hb2.1
    omega
end
/-- An act in memory. -/
theorem act_cells {w wr : World} {lA : Option Addr} {lvs : List Value} {l : List Ac} (hlr : Rk w (· < w.heap.size) 5 lA l.length lvs) (hla : ∀ (i : Nat) a, l[i]? = some a → lvs[i * 5]? = some (.int .i64 a.kind) ∧ lvs[i * 5 + 1]? = some (.int .i64 a.at_) ∧ lvs[i * 5 + 2]? = some (.int .u8 (a.c.toNat : Int)) ∧ ∃ (b : Bool) (A : Option Addr) (n c : Nat), lvs[i * 5 + 3]? = some (.bool b) ∧ lvs[i * 5 + 4]? = some (.slice A n c)) (hg : Below w.heap.size w wr) {k : Nat} {a : Ac} (ha : l[k]? = some a) :
    ∃ (ad : Addr) (b : Bool) (A : Option Addr) (n c : Nat), lA = some ad ∧ wr.cell? (ad.add (k * 5)) = some (.int .i64 a.kind) ∧ wr.cell? ⟨(ad.add (k * 5)).block, (ad.add (k * 5)).off + 1, none⟩ = some (.int .i64 a.at_) ∧ wr.cell? ⟨(ad.add (k * 5)).block, (ad.add (k * 5)).off + 2, none⟩ = some (.int .u8 (a.c.toNat : Int)) ∧ wr.cell? ⟨(ad.add (k * 5)).block, (ad.add (k * 5)).off + 3, none⟩ = some (.bool b) ∧ wr.cell? ⟨(ad.add (k * 5)).block, (ad.add (k * 5)).off + 4, none⟩ = some (.slice A n c) := by
  have hkl := (List.getElem?_eq_some_iff.1 ha).1
  obtain ⟨ad, e, hb, hc⟩ := hlr.2 (by omega)
  have hb : ad.block < w.heap.size := hb
  obtain ⟨e0, e1, e2, ab, aA, an, ac, e3, e4⟩ := hla k a ha
  have f := fun j u (h : lvs[j]? = some u) => (hg.cell (p := ad.add j) (by rw [block_of_add]; exact hb)).trans (hc j u h)
  have q : ∀ j u, j ≠ 0 → wr.cell? (ad.add (k * 5 + j)) = some u → wr.cell? ⟨(ad.add (k * 5)).block, (ad.add (k * 5)).off + j, none⟩ = some u := fun j u hj h => by
    rw [← add_of_add] at h
    rw [← h]
    congr 1
    generalize ad.add (k * 5) = p
    unfold Addr.add
    rw [if_neg hj]
  exact ⟨ad, ab, aA, an, ac, e, f _ _ e0, q 1 _ (by decide) (f _ _ e1), q 2 _ (by decide) (f _ _ e2), q 3 _ (by decide) (f _ _ e3), q 4 _ (by decide) (f _ _ e4)⟩
set_option maxRecDepth 100000 in
set_option maxHeartbeats 16000000 in
theorem law_disksafe (l : List Ac) (keep : List Bool) (lv kv : Value) (w : World) (hl : RdActs w (· < w.heap.size) lv l) (hk : RdBools w (· < w.heap.size) kv keep) (hll : l.length ≤ 60) :
    Calls Try.prog 3 #[lv, kv] w fun e w' => e = .returned (.bool true) ∧ Gr w w' := by
  obtain ⟨lA, lc, lvs, rfl, ⟨hlc1, hlc2⟩, hlr, hla⟩ := hl
  unfold maxLen at hlc2
  have hmk := make9
  have cN := dk_newZ 9 9 rfl w (by decide) (by decide)
  go_enter Try.func3, Try.ntmps3
  go_wp2_with (first
    | (go_at_call 6; (with_reducible refine cN.mono ?_); rintro e w1 ⟨g, gs, gm, K, rfl, h1, hK, hg1⟩
       have hlt := h1.lt)
    | (go_at_call 7; (with_reducible refine (num_d _ _).mono ?_); rintro e w9 ⟨rfl, rfl⟩))
  all_goals (try (exfalso; omega))
  have hB1 : Blk ((w1.alloc (.cells nine0 5)).alloc (.cells nine0 5)).drew w1.heap.size 5 nine0 := ((Blk.new w1 _ _).alloc _).drew
  have hB2 : Blk ((w1.alloc (.cells nine0 5)).alloc (.cells nine0 5)).drew (w1.heap.size + 1) 5 nine0 := by
    have := (Blk.new (w1.alloc (.cells nine0 5)) 5 nine0).drew
    rwa [show (w1.alloc (.cells nine0 5)).heap.size = w1.heap.size + 1 by simp] at this
  have hg10 : Gr w1 ((w1.alloc (.cells nine0 5)).alloc (.cells nine0 5)).drew := Gr.trans (Gr.alloc _ _) (Gr.trans (Gr.alloc _ _) (Gr.drew _))
  have start : ∀ bs bl : Nat, bs ≠ bl → w1.heap.size ≤ bs → w1.heap.size ≤ bl → Blk ((w1.alloc (.cells nine0 5)).alloc (.cells nine0 5)).drew bs 5 nine0 → Blk ((w1.alloc (.cells nine0 5)).alloc (.cells nine0 5)).drew bl 5 nine0 →
      SfAt w w1 g gs gm bl K 0 (Dk.new 9) (List.replicate 9 0) (List.replicate 9 0) (.slice (some ⟨bs, 0, none⟩) 9 9) ((w1.alloc (.cells nine0 5)).alloc (.cells nine0 5)).drew := fun bs bl hne h7 h8 hBs hBl => by
    refine ⟨h1.gr hg10, SafeI.new, ⟨_, _, rfl, Nat.le_refl _, by rw [bvs_length]; omega, fun _ => ⟨_, rfl, ⟨h7, hBs.lt, hne⟩, fun j u hu => ?_⟩⟩, by rw [← nine0_bvs]; exact hBl, ⟨fun hk => ?_, h8⟩, Below.trans hg1 (Below.mono hg10 hg1.size), fun k hk => ⟨hlt k hk, hK k (.inl hk)⟩, hg1.size⟩
    · rw [addrD, hBs.cell j, ← Array.getElem?_toList, ← hu, nine0_bvs]
    · have := (h1.kk bl hk).1
      omega
  go_region
  obtain ⟨bs, hbs⟩ : ∃ b, b = w1.heap.size := ⟨_, rfl⟩
  obtain ⟨bl, hbl⟩ : ∃ b, b = w1.heap.size + 1 := ⟨_, rfl⟩
  have hS0 := start bs bl (by omega) (by omega) (by omega) (hbs ▸ hB1) (hbl ▸ hB2)
  rw [← hbl, ← hbs]
  rotate_left
  obtain ⟨bl, hbl⟩ : ∃ b, b = w1.heap.size := ⟨_, rfl⟩
  obtain ⟨bs, hbs⟩ : ∃ b, b = w1.heap.size + 1 := ⟨_, rfl⟩
  have hS0 := start bs bl (by omega) (by omega) (by omega) (hbs ▸ hB2) (hbl ▸ hB1)
  rw [← hbs, ← hbl]
  all_goals
    clear start hB1 hB2 hbs hbl
    generalize ((w1.alloc (.cells nine0 5)).alloc (.cells nine0 5)).drew = W0 at *
    revert hS0 hg10
    revert W0
    revert bl
    revert bs
  refine ?core
  rotate_left
  exact ?core
  case core =>
    intro bs bl W0 hg10 hS0
    go_wp2
    go_loopw [7, 9] (fun v7 v9 wr => ∃ (k m : Nat) (K : Nat → Prop) (d : Dk) (s t : List UInt8), v9 = .int .i64 k ∧ k ≤ l.length ∧ m ≤ k ∧ SfAt w w1 g gs gm bl K m d s t v7 wr) (fun _ v9 _ => l.length - (intOf v9).toNat)
    case atStart => exact ⟨0, 0, K, _, _, _, rfl, Nat.zero_le _, Nat.le_refl _, hS0⟩
    case round =>
      clear hS0
      obtain ⟨k, m, K, d, s, t, rfl, hk9, hmk9, hS⟩ := hrel
      obtain ⟨sA, sc, rfl, hsc, hsr⟩ := id hS.sv
      have e9 := hS.inv.sl
      rw [e9] at hS hsc hsr ⊢
      clear e9
      by_cases hp : k < l.length
      · obtain ⟨a, ha⟩ : ∃ a, l[k]? = some a := ⟨_, List.getElem?_eq_getElem hp⟩
        obtain ⟨ad, ab, aA, an, ac, rfl, c0, c1, c2, c3, c4⟩ := act_cells hlr hla hS.below ha
        have hSA := hS.gr (Gr.alloc wr (.cells #[.int .i64 a.kind, .int .i64 a.at_, .int .u8 (a.c.toNat : Int), .bool ab, .slice aA an ac] 32))
        have hBa := Blk.new wr 32 #[.int .i64 a.kind, .int .i64 a.at_, .int .u8 (a.c.toNat : Int), .bool ab, .slice aA an ac]
        obtain ⟨⟨b0, b1, b2, b3, b4⟩, _⟩ := five_dk hBa
        have hthr := hS.inv.there a.at_
        by_cases hk0 : a.kind = 0
        · rw [hk0] at hSA hBa b0 b1 b2 b3 b4 c0
          let fF : Fact := ⟨fun u W => ∃ b, u = .slice (some ⟨b, 0, none⟩) 256 256 ∧ Blk W b 5 (fillS a.c 256), fun u W W' ⟨b, e, hb⟩ hg => ⟨b, e, hb.below hg hb.lt⟩⟩
          let fN : Fact := ⟨fun u W => u = .int .i64 5 ∧ Gr (wr.alloc (.cells #[.int .i64 0, .int .i64 a.at_, .int .u8 (a.c.toNat : Int), .bool ab, .slice aA an ac] 32)) W, fun u W W' hp hg => ⟨hp.1, Gr.trans hp.2 hg⟩⟩
          by_cases hrg : a.at_ < 0 ∨ 9 ≤ a.at_
          · have hth : d.there a.at_ = 5 := by rw [hthr, if_pos hrg]
            go_wp2
            refine wp_region_facts [.is (.pointer (some ⟨wr.heap.size, 0, none⟩)), .is (.int .i64 0), .is (.bool true), .is (.bool true), .is (.pointer (some ⟨g, 0, none⟩)), .is (.pointer (some ⟨wr.heap.size, 1, none⟩)), .is (.int .i64 a.at_), .is (.pointer (some ⟨wr.heap.size, 2, none⟩)), .is (.int .u8 (a.c.toNat : Int)), fF, fN, .is (.int .i64 5), .is (.bool false), .is (.bool false)]
              (fun W => Gr (wr.alloc (.cells #[.int .i64 0, .int .i64 a.at_, .int .u8 (a.c.toNat : Int), .bool ab, .slice aA an ac] 32)) W) (fun q j => q == 10 && j == 9) (fun q => q == 10) 0 (by kernel_rfl) rfl (by kernel_rfl) (by kernel_rfl) (Nat.zero_le _) (Gr.drew _) (fun vals => by simp [fillA, dstsOf, go_sem]; rfl) ?_ ?_
            · intro q hq
              replace hq : q < 14 := hq
              have hI : ∀ W W', Gr (wr.alloc (.cells #[.int .i64 0, .int .i64 a.at_, .int .u8 (a.c.toNat : Int), .bool ab, .slice aA an ac] 32)) W → Gr W W' → Gr (wr.alloc (.cells #[.int .i64 0, .int .i64 a.at_, .int .u8 (a.c.toNat : Int), .bool ab, .slice aA an ac] 32)) W' := fun W W' hp hg => Gr.trans hp hg
              rcases (by omega : q = 0 ∨ q = 1 ∨ q = 2 ∨ q = 3 ∨ q = 4 ∨ q = 5 ∨ q = 6 ∨ q = 7 ∨ q = 8 ∨ q = 9 ∨ q = 10 ∨ q = 11 ∨ q = 12 ∨ q = 13) with rfl | rfl | rfl | rfl | rfl | rfl | rfl | rfl | rfl | rfl | rfl | rfl | rfl | rfl
              · refine step_g 0 [] _ _ rfl rfl hI (by kernel_rfl) fun vals W hb_ hB_ hIw hd => ?_
                go_wp2
                exact ⟨rfl, _, rfl, Gr.refl _, rfl⟩
              · refine step_g 1 [0] _ _ rfl rfl hI (by kernel_rfl) fun vals W hb_ hB_ hIw hd => ?_
                have e0 : vals 0 = _ := hd 0 (by simp) _ rfl
                rw [e0]
                have hBW := hBa.below (hIw (by kernel_rfl)) hBa.lt
                obtain ⟨⟨q0, q1, q2, q3, q4⟩, _⟩ := five_dk hBW
                go_wp2
                exact ⟨rfl, _, rfl, Gr.refl _, rfl⟩
              · refine step_g 2 [1] _ _ rfl rfl hI (by kernel_rfl) fun vals W hb_ hB_ hIw hd => ?_
                have e1 : vals 1 = _ := hd 1 (by simp) _ rfl
                rw [e1]
                go_wp2
                exact ⟨rfl, _, rfl, Gr.refl _, rfl⟩
              · refine step_g 3 [2] _ _ rfl rfl hI (by kernel_rfl) fun vals W hb_ hB_ hIw hd => ?_
                have e2 : vals 2 = _ := hd 2 (by simp) _ rfl
                rw [e2]
                go_wp2
                exact ⟨rfl, _, rfl, Gr.refl _, rfl⟩
              · refine step_g 4 [3] _ _ rfl rfl hI (by kernel_rfl) fun vals W hb_ hB_ hIw hd => ?_
                have e3 : vals 3 = _ := hd 3 (by simp) _ rfl
                rw [e3]
                go_wp2
                exact ⟨rfl, _, rfl, Gr.refl _, rfl⟩
              · refine step_g 5 [3] _ _ rfl rfl hI (by kernel_rfl) fun vals W hb_ hB_ hIw hd => ?_
                have e3 : vals 3 = _ := hd 3 (by simp) _ rfl
                rw [e3]
                go_wp2
                exact ⟨rfl, _, rfl, Gr.refl _, rfl⟩
              · refine step_g 6 [3, 5] _ _ rfl rfl hI (by kernel_rfl) fun vals W hb_ hB_ hIw hd => ?_
                have e3 : vals 3 = _ := hd 3 (by simp) _ rfl
                have e5 : vals 5 = _ := hd 5 (by simp) _ rfl
                rw [e3, e5]
                have hBW := hBa.below (hIw (by kernel_rfl)) hBa.lt
                obtain ⟨⟨q0, q1, q2, q3, q4⟩, _⟩ := five_dk hBW
                go_wp2
                exact ⟨rfl, _, rfl, Gr.refl _, rfl⟩
              · refine step_g 7 [3] _ _ rfl rfl hI (by kernel_rfl) fun vals W hb_ hB_ hIw hd => ?_
                have e3 : vals 3 = _ := hd 3 (by simp) _ rfl
                rw [e3]
                go_wp2
                exact ⟨rfl, _, rfl, Gr.refl _, rfl⟩
              · refine step_g 8 [3, 7] _ _ rfl rfl hI (by kernel_rfl) fun vals W hb_ hB_ hIw hd => ?_
                have e3 : vals 3 = _ := hd 3 (by simp) _ rfl
                have e7 : vals 7 = _ := hd 7 (by simp) _ rfl
                rw [e3, e7]
                have hBW := hBa.below (hIw (by kernel_rfl)) hBa.lt
                obtain ⟨⟨q0, q1, q2, q3, q4⟩, _⟩ := five_dk hBW
                go_wp2
                exact ⟨rfl, _, rfl, Gr.refl _, rfl⟩
              · refine step_g 9 [3, 8] _ _ rfl rfl hI (by kernel_rfl) fun vals W hb_ hB_ hIw hd => ?_
                have e3 : vals 3 = _ := hd 3 (by simp) _ rfl
                have e8 : vals 8 = _ := hd 8 (by simp) _ rfl
                rw [e3, e8]
                go_wp2_with (go_at_call 9; (with_reducible refine (full_d a.c W).mono ?_); rintro e w2 ⟨rfl, hB2, hg2⟩)
                exact ⟨rfl, _, rfl, hg2, ⟨_, rfl, hB2⟩⟩
              · refine step_g 10 [3, 4, 6, 9] _ _ rfl rfl hI (by kernel_rfl) fun vals W hb_ hB_ hIw hd => ?_
                have e3 : vals 3 = _ := hd 3 (by simp) _ rfl
                have e4 : vals 4 = _ := hd 4 (by simp) _ rfl
                have e6 : vals 6 = _ := hd 6 (by simp) _ rfl
                obtain ⟨b9, e9, hB9⟩ := (show ∃ b, vals 9 = .slice (some ⟨b, 0, none⟩) 256 256 ∧ Blk W b 5 (fillS a.c 256) from hd 9 (by simp) _ rfl)
                rw [e3, e4, e6, e9]
                have hgW := hIw (by kernel_rfl)
                have cW := dk_write_no (hSA.dk.gr hgW) a.at_ (.slice (some ⟨b9, 0, none⟩) 256 256) (by rw [hth]; decide)
                rw [hth] at cW
                go_wp2_with (go_at_call 8; (with_reducible refine cW.mono ?_); rintro e w3 ⟨rfl, rfl⟩)
                exact ⟨rfl, _, rfl, Gr.refl _, ⟨rfl, hgW⟩⟩
              · refine step_g 11 [3, 10] _ _ rfl rfl hI (by kernel_rfl) fun vals W hb_ hB_ hIw hd => ?_
                have e3 : vals 3 = _ := hd 3 (by simp) _ rfl
                have e10 : vals 10 = .int .i64 5 := (show vals 10 = .int .i64 5 ∧ Gr (wr.alloc (.cells #[.int .i64 0, .int .i64 a.at_, .int .u8 (a.c.toNat : Int), .bool ab, .slice aA an ac] 32)) W from hd 10 (by simp) _ rfl).1
                rw [e3, e10]
                go_wp2_with (go_at_call 7; (with_reducible refine (num_d _ _).mono ?_); rintro e w9 ⟨rfl, rfl⟩)
                exact ⟨rfl, _, rfl, Gr.refl _, rfl⟩
              · refine step_g 12 [3, 11] _ _ rfl rfl hI (by kernel_rfl) fun vals W hb_ hB_ hIw hd => ?_
                have e3 : vals 3 = _ := hd 3 (by simp) _ rfl
                have e11 : vals 11 = _ := hd 11 (by simp) _ rfl
                rw [e3, e11]
                go_wp2
                exact ⟨rfl, _, rfl, Gr.refl _, rfl⟩
              · refine step_g 13 [3, 12] _ _ rfl rfl hI (by kernel_rfl) fun vals W hb_ hB_ hIw hd => ?_
                have e3 : vals 3 = _ := hd 3 (by simp) _ rfl
                have e12 : vals 12 = _ := hd 12 (by simp) _ rfl
                rw [e3, e12]
                go_wp2
                exact ⟨rfl, _, rfl, Gr.refl _, rfl⟩
            · intro vals W3 hb3 hfs
              have e13 : vals 13 = .bool false := hfs 13 _ rfl (fun k hk => by simp)
              obtain ⟨_, hgW3⟩ := (show vals 10 = .int .i64 5 ∧ Gr (wr.alloc (.cells #[.int .i64 0, .int .i64 a.at_, .int .u8 (a.c.toNat : Int), .bool ab, .slice aA an ac] 32)) W3 from hfs 10 _ rfl (fun k hk => by simp))
              have hS3 := hSA.gr hgW3
              obtain ⟨⟨q0, q1, q2, q3, q4⟩, _⟩ := five_dk (hBa.below hgW3 hBa.lt)
              rw [e13]
              go_wp2
              go_roundw
              case rel => exact ⟨k + 1, m, K, d, s, t, by go_num, by omega, by omega, hS3⟩
              case measure => simp [intOf]; omega
          · have hth0 : d.there a.at_ = 0 := by rw [hthr, if_neg hrg]
            obtain ⟨i, hi⟩ : ∃ i : Nat, a.at_ = i := ⟨a.at_.toNat, by omega⟩
            have hi9 : i < 9 := by omega
            rw [hi] at hSA hBa b0 b1 b2 b3 b4 c1
            have hth : d.there (i : Int) = 0 := hi ▸ hth0
            let fW : Fact := ⟨fun u W => u = .int .i64 0 ∧ ∃ w2, Gr (wr.alloc (.cells #[.int .i64 0, .int .i64 i, .int .u8 (a.c.toNat : Int), .bool ab, .slice aA an ac] 32)) w2 ∧ DkAt W (KW K w2 W) g gs gm 9 (m + 1) (d.put i (fullS a.c)).did ∧ But (DkS g gs gm) w2 W, fun u W W' ⟨e, w2, h1, h2, h3⟩ hg => ⟨e, w2, h1, h2.kw (fun k hk => Nat.lt_of_lt_of_le (hSA.dk.lt k hk) h1.size) (fun b hb => (hSA.dk.kk b hb).2) hg, h3.gr hg⟩⟩
            clear hrg hth0
            go_wp2
            refine wp_region_facts [.is (.pointer (some ⟨wr.heap.size, 0, none⟩)), .is (.int .i64 0), .is (.bool true), .is (.bool true), .is (.pointer (some ⟨g, 0, none⟩)), .is (.pointer (some ⟨wr.heap.size, 1, none⟩)), .is (.int .i64 i), .is (.pointer (some ⟨wr.heap.size, 2, none⟩)), .is (.int .u8 (a.c.toNat : Int)), fF, fW, .is (.int .i64 0), .is (.bool true), .is (.bool true)]
              (fun W => Gr (wr.alloc (.cells #[.int .i64 0, .int .i64 i, .int .u8 (a.c.toNat : Int), .bool ab, .slice aA an ac] 32)) W) (fun q j => q == 10 && j == 9) (fun q => q == 10) 0 (by kernel_rfl) rfl (by kernel_rfl) (by kernel_rfl) (Nat.zero_le _) (Gr.drew _) (fun vals => by simp [fillA, dstsOf, go_sem]; rfl) ?_ ?_
            · intro q hq
              replace hq : q < 14 := hq
              have hI : ∀ W W', Gr (wr.alloc (.cells #[.int .i64 0, .int .i64 i, .int .u8 (a.c.toNat : Int), .bool ab, .slice aA an ac] 32)) W → Gr W W' → Gr (wr.alloc (.cells #[.int .i64 0, .int .i64 i, .int .u8 (a.c.toNat : Int), .bool ab, .slice aA an ac] 32)) W' := fun W W' hp hg => Gr.trans hp hg
              rcases (by omega : q = 0 ∨ q = 1 ∨ q = 2 ∨ q = 3 ∨ q = 4 ∨ q = 5 ∨ q = 6 ∨ q = 7 ∨ q = 8 ∨ q = 9 ∨ q = 10 ∨ q = 11 ∨ q = 12 ∨ q = 13) with rfl | rfl | rfl | rfl | rfl | rfl | rfl | rfl | rfl | rfl | rfl | rfl | rfl | rfl
              · refine step_g 0 [] _ _ rfl rfl hI (by kernel_rfl) fun vals W hb_ hB_ hIw hd => ?_
                go_wp2
                exact ⟨rfl, _, rfl, Gr.refl _, rfl⟩
              · refine step_g 1 [0] _ _ rfl rfl hI (by kernel_rfl) fun vals W hb_ hB_ hIw hd => ?_
                have e0 : vals 0 = _ := hd 0 (by simp) _ rfl
                rw [e0]
                have hBW := hBa.below (hIw (by kernel_rfl)) hBa.lt
                obtain ⟨⟨q0, q1, q2, q3, q4⟩, _⟩ := five_dk hBW
                go_wp2
                exact ⟨rfl, _, rfl, Gr.refl _, rfl⟩
              · refine step_g 2 [1] _ _ rfl rfl hI (by kernel_rfl) fun vals W hb_ hB_ hIw hd => ?_
                have e1 : vals 1 = _ := hd 1 (by simp) _ rfl
                rw [e1]
                go_wp2
                exact ⟨rfl, _, rfl, Gr.refl _, rfl⟩
              · refine step_g 3 [2] _ _ rfl rfl hI (by kernel_rfl) fun vals W hb_ hB_ hIw hd => ?_
                have e2 : vals 2 = _ := hd 2 (by simp) _ rfl
                rw [e2]
                go_wp2
                exact ⟨rfl, _, rfl, Gr.refl _, rfl⟩
              · refine step_g 4 [3] _ _ rfl rfl hI (by kernel_rfl) fun vals W hb_ hB_ hIw hd => ?_
                have e3 : vals 3 = _ := hd 3 (by simp) _ rfl
                rw [e3]
                go_wp2
                exact ⟨rfl, _, rfl, Gr.refl _, rfl⟩
              · refine step_g 5 [3] _ _ rfl rfl hI (by kernel_rfl) fun vals W hb_ hB_ hIw hd => ?_
                have e3 : vals 3 = _ := hd 3 (by simp) _ rfl
                rw [e3]
                go_wp2
                exact ⟨rfl, _, rfl, Gr.refl _, rfl⟩
              · refine step_g 6 [3, 5] _ _ rfl rfl hI (by kernel_rfl) fun vals W hb_ hB_ hIw hd => ?_
                have e3 : vals 3 = _ := hd 3 (by simp) _ rfl
                have e5 : vals 5 = _ := hd 5 (by simp) _ rfl
                rw [e3, e5]
                have hBW := hBa.below (hIw (by kernel_rfl)) hBa.lt
                obtain ⟨⟨q0, q1, q2, q3, q4⟩, _⟩ := five_dk hBW
                go_wp2
                exact ⟨rfl, _, rfl, Gr.refl _, rfl⟩
              · refine step_g 7 [3] _ _ rfl rfl hI (by kernel_rfl) fun vals W hb_ hB_ hIw hd => ?_
                have e3 : vals 3 = _ := hd 3 (by simp) _ rfl
                rw [e3]
                go_wp2
                exact ⟨rfl, _, rfl, Gr.refl _, rfl⟩
              · refine step_g 8 [3, 7] _ _ rfl rfl hI (by kernel_rfl) fun vals W hb_ hB_ hIw hd => ?_
                have e3 : vals 3 = _ := hd 3 (by simp) _ rfl
                have e7 : vals 7 = _ := hd 7 (by simp) _ rfl
                rw [e3, e7]
                have hBW := hBa.below (hIw (by kernel_rfl)) hBa.lt
                obtain ⟨⟨q0, q1, q2, q3, q4⟩, _⟩ := five_dk hBW
                go_wp2
                exact ⟨rfl, _, rfl, Gr.refl _, rfl⟩
              · refine step_g 9 [3, 8] _ _ rfl rfl hI (by kernel_rfl) fun vals W hb_ hB_ hIw hd => ?_
                have e3 : vals 3 = _ := hd 3 (by simp) _ rfl
                have e8 : vals 8 = _ := hd 8 (by simp) _ rfl
                rw [e3, e8]
                go_wp2_with (go_at_call 9; (with_reducible refine (full_d a.c W).mono ?_); rintro e w2 ⟨rfl, hB2, hg2⟩)
                exact ⟨rfl, _, rfl, hg2, ⟨_, rfl, hB2⟩⟩
              · refine step_s 10 [3, 4, 6, 9] [0, 1, 2, 3, 4, 5, 6, 7, 8] _ _ rfl rfl (by kernel_rfl) (by kernel_rfl) fun vals W hb_ hB_ hIw hd => ?_
                have e3 : vals 3 = _ := hd 3 (by simp) _ rfl
                have e4 : vals 4 = _ := hd 4 (by simp) _ rfl
                have e6 : vals 6 = _ := hd 6 (by simp) _ rfl
                obtain ⟨b9, e9, hB9⟩ := (show ∃ b, vals 9 = .slice (some ⟨b, 0, none⟩) 256 256 ∧ Blk W b 5 (fillS a.c 256) from hd 9 (by simp) _ rfl)
                rw [e3, e4, e6, e9]
                have hgW := hIw (by kernel_rfl)
                have cW := dk_write (hSA.gr hgW).dk i _ (fullS a.c) hth (full_rd hB9) (fullS_len a.c) (by omega)
                go_wp2_with (go_at_call 8; (with_reducible refine cW.mono ?_); rintro e w3 ⟨rfl, h3, hb3⟩)
                refine ⟨rfl, _, rfl, ⟨hb3.os, hb3.tape, hb3.output, hb3.size, fun k hk => absurd hk (Nat.not_lt_zero k)⟩, ⟨rfl, W, hgW, h3, hb3⟩, fun h _ => absurd h (by decide), fun j hj f hf hp2 => ?_⟩
                simp only [List.mem_cons, List.not_mem_nil, or_false] at hj
                rcases hj with rfl | rfl | rfl | rfl | rfl | rfl | rfl | rfl | rfl <;> (cases hf; exact hp2)
              · refine step_g 11 [3, 10] _ _ rfl rfl hI (by kernel_rfl) fun vals W hb_ hB_ hIw hd => ?_
                have e3 : vals 3 = _ := hd 3 (by simp) _ rfl
                have e10 : vals 10 = .int .i64 0 := (show vals 10 = .int .i64 0 ∧ ∃ w2, Gr (wr.alloc (.cells #[.int .i64 0, .int .i64 i, .int .u8 (a.c.toNat : Int), .bool ab, .slice aA an ac] 32)) w2 ∧ DkAt W (KW K w2 W) g gs gm 9 (m + 1) (d.put i (fullS a.c)).did ∧ But (DkS g gs gm) w2 W from hd 10 (by simp) _ rfl).1
                rw [e3, e10]
                go_wp2_with (go_at_call 7; (with_reducible refine (num_d _ _).mono ?_); rintro e w9 ⟨rfl, rfl⟩)
                exact ⟨rfl, _, rfl, Gr.refl _, rfl⟩
              · refine step_g 12 [3, 11] _ _ rfl rfl hI (by kernel_rfl) fun vals W hb_ hB_ hIw hd => ?_
                have e3 : vals 3 = _ := hd 3 (by simp) _ rfl
                have e11 : vals 11 = _ := hd 11 (by simp) _ rfl
                rw [e3, e11]
                go_wp2
                exact ⟨rfl, _, rfl, Gr.refl _, rfl⟩
              · refine step_g 13 [3, 12] _ _ rfl rfl hI (by kernel_rfl) fun vals W hb_ hB_ hIw hd => ?_
                have e3 : vals 3 = _ := hd 3 (by simp) _ rfl
                have e12 : vals 12 = _ := hd 12 (by simp) _ rfl
                rw [e3, e12]
                go_wp2
                exact ⟨rfl, _, rfl, Gr.refl _, rfl⟩
            · intro vals W3 hb3 hfs
              have e13 : vals 13 = .bool true := hfs 13 _ rfl (fun k hk => by simp)
              obtain ⟨_, w2, hg2, h3, hb3⟩ := (show vals 10 = .int .i64 0 ∧ ∃ w2, Gr (wr.alloc (.cells #[.int .i64 0, .int .i64 i, .int .u8 (a.c.toNat : Int), .bool ab, .slice aA an ac] 32)) w2 ∧ DkAt W3 (KW K w2 W3) g gs gm 9 (m + 1) (d.put i (fullS a.c)).did ∧ But (DkS g gs gm) w2 W3 from hfs 10 _ rfl (fun k hk => by simp))
              have hS2 := hSA.gr hg2
              have hS4 := hS2.put i hi9 a.c h3 hb3
              have hB3 := hb3.blk (hBa.below hg2 hBa.lt) (fun hs => by have := (hSA.lt _ hs).1; have := hS.blK.2; have := hS.last.lt; omega)
              obtain ⟨⟨q0, q1, q2, q3, q4⟩, _⟩ := five_dk hB3
              have hl3 := hb3.blk hS2.last hS2.nb
              have hlc : W3.cell? ⟨bl, i, none⟩ = (bvs t)[i]? := by rw [hl3.cell i, List.getElem?_toArray]
              obtain ⟨vx, hlx⟩ : ∃ vx, (bvs t)[i]? = some vx := ⟨_, List.getElem?_eq_getElem (by rw [bvs_length, hS.inv.tl]; exact hi9)⟩
              rw [hlx] at hlc
              have hlf := hl3.frozen i
              obtain ⟨⟨p0, p1, p2, p3, p4⟩, _⟩ := five_dk (hB3.far (p := ⟨bl, i, none⟩) (fun e => by have e : wr.heap.size = bl := e; have := hS.last.lt; omega) (.int .u8 (a.c.toNat : Int)))
              rw [e13]
              clear hlx hthr
              go_wp2
              all_goals (try (exfalso; omega))
              go_roundw
              case rel => exact ⟨k + 1, m + 1, _, _, s, _, by go_num, by omega, by omega, hS4⟩
              case measure => simp [intOf]; omega
        · have hkA : decide (a.kind = 0) = false := decide_eq_false hk0
          have hkB : (a.kind == 0) = false := by rw [beq_eq_false_iff_ne]; exact hk0
          by_cases hk1 : a.kind = 1
          · rw [hk1] at hSA hBa b0 b1 b2 b3 b4 c0
            have cFl := fun n => dk_flush (hSA.gr (Gr.drewN _ n)).dk hSA.inv.dead
            have hlen9 : (bvs t).length = 9 := by rw [bvs_length, hSA.inv.tl]
            clear hkA hkB hk0
            go_wp2
            go_quiet (fail)
            go_wp2_with (first
              | (go_at_call 10; (with_reducible refine (cFl _).mono ?_); rintro e w3 ⟨rfl, h3, hb3⟩
                 have hl3 := hb3.blk (hSA.gr (Gr.drewN _ _)).last hSA.nb
                 have hlr : RdB w3 w3.heap.size (.slice (some ⟨bl, 0, none⟩) 9 9) t := ⟨_, _, by rw [hSA.inv.tl], by rw [hSA.inv.tl]; exact Nat.le_refl _, by rw [bvs_length]; omega, fun _ => ⟨_, rfl, hl3.lt, fun j u hu => by rw [addrD, hl3.cell j, List.getElem?_toArray, hu]⟩⟩
                 have cC := copy_d w3 w3.heap.size _ t (Nat.le_refl _) hlr (by rw [hSA.inv.tl]; decide))
              | (go_at_call 7; (with_reducible refine (num_d _ _).mono ?_); rintro e w9 ⟨rfl, rfl⟩)
              | (go_at_call 11; (with_reducible refine cC.mono ?_); rintro e w4 ⟨u, rfl, hu4, hg4⟩
                 have hS4 := (hSA.gr (Gr.drewN _ _)).flush h3 hb3 hu4 hg4))
            go_roundw
            case rel => exact ⟨k + 1, 0, K, _, t, t, by go_num, by omega, by omega, hS4⟩
            case measure => simp [intOf]; omega
          · have hkC : decide (a.kind = 1) = false := decide_eq_false hk1
            have hkD : (a.kind == 1) = false := by rw [beq_eq_false_iff_ne]; exact hk1
            go_wp2
            go_quiet (fail)
            go_wp2
            go_roundw
            case rel => exact ⟨k + 1, m, K, d, s, t, by go_num, by omega, by omega, hSA.gr (Gr.drewN _ _)⟩
            case measure => simp [intOf]; omega
      · obtain rfl : k = l.length := by omega
        have hkp : RdBools wr (· < w.heap.size) kv keep := hk.keep fun p hp => hS.below.cell hp
        have hbs9 := hS.below.size
        have cP := dk_pending hS.dk
        go_wp2_with (first
          | (go_at_call 12; (with_reducible refine cP.mono ?_); rintro e w2 ⟨pv, rfl, hown2, hg2⟩
             have hS2 := hS.gr hg2
             have hkp2 : RdBools w2 (· < w.heap.size) kv keep := hkp.keep fun p hp => hg2.cell (Nat.lt_of_lt_of_le hp hbs9)
             obtain ⟨pA, pc, rfl, hpc1, hpc2⟩ := own_formD hown2
             have cC := dk_crash hS2.dk keep kv (· < w.heap.size) (fun b hb => ⟨Nat.lt_of_lt_of_le hb hS2.below.size, fun hs => by have := (hS.lt b hs).2; have hb : b < w.heap.size := hb; omega⟩) hkp2)
          | (go_at_call 13; (with_reducible refine cC.mono ?_); rintro e w3 ⟨rfl, h3, hb3⟩))
        have hpl : d.pending.length ≤ 9 := by
          have := pendS_keys d.wait 0
          unfold Dk.pending
          rw [this, List.length_map]
          refine Nat.le_trans (List.length_filter_le _ _) ?_
          rw [List.length_range, hS.inv.wl]
          exact Nat.le_refl _
        have hpb : ∀ (j : Nat) y, d.pending[j]? = some y → ∃ pb, pA = some ⟨pb, 0, none⟩ ∧ pb < w3.heap.size ∧ w3.cell? ⟨pb, j, none⟩ = some (.int .i64 (y : Int)) := fun j y hy => by
          rcases hown2.2 with ⟨e, e2⟩ | ⟨pb, cap, cur, e, e2, e3, _⟩
          · have := (List.getElem?_eq_some_iff.1 hy).1; omega
          · injection e with e
            subst e
            have hpl2 : pb < w2.heap.size := (Array.getElem?_eq_some_iff.1 e3).1
            have hc := World.ownsRow.cells hown2 rfl j (.int .i64 (y : Int)) (by rw [List.getElem?_map, hy]; rfl)
            rw [addrD] at hc
            exact ⟨pb, rfl, Nat.lt_of_lt_of_le hpl2 hb3.size, (hb3.cell (p := ⟨pb, j, none⟩) hpl2 (fun hs => by have := (hS.lt pb hs).1; have := hS.last.lt; have := hS.blK.2; omega)).trans hc⟩
        obtain ⟨sad, rfl, hsb, hscell⟩ := hsr.2 (by decide)
        obtain ⟨hsb1, hsb2, hsb3⟩ := hsb
        have hs3 : ∀ i, i < 9 → w3.cell? (sad.add i) = some (.int .u8 ((s.getD i 0).toNat : Int)) := fun i hi => by
          rw [hb3.cell (by rw [block_of_add]; exact Nat.lt_of_lt_of_le hsb2 hg2.size) (fun hs => by rw [block_of_add] at hs; have := (hS.lt _ hs).1; omega), hg2.cell (by rw [block_of_add]; exact hsb2)]
          refine hscell i _ ?_
          unfold bvs
          rw [List.getElem?_map, List.getElem?_eq_getElem (by rw [hS.inv.sl]; exact hi), List.getD_eq_getElem?_getD, List.getElem?_eq_getElem (by rw [hS.inv.sl]; exact hi)]
          rfl
        have hbl3 := hb3.blk hS2.last hS2.nb
        have ht3 : ∀ i, i < 9 → w3.cell? ⟨bl, i, none⟩ = some (.int .u8 ((t.getD i 0).toNat : Int)) := fun i hi => by
          rw [hbl3.cell i, List.getElem?_toArray]
          unfold bvs
          rw [List.getElem?_map, List.getElem?_eq_getElem (by rw [hS.inv.tl]; exact hi), List.getD_eq_getElem?_getD, List.getElem?_eq_getElem (by rw [hS.inv.tl]; exact hi)]
          rfl
        have hin : ∀ i, i ∈ d.pending ↔ ∃ l, d.wait[i]? = some (some l) := fun i => by
          unfold Dk.pending
          rw [pendS_mem]
          constructor
          · rintro ⟨k, l, e, h⟩
            obtain rfl : i = k := by omega
            exact ⟨l, h⟩
          · rintro ⟨l, h⟩
            exact ⟨i, l, by omega, h⟩
        go_loopw [12] (fun v12 wq => ∃ i : Nat, v12 = .int .i64 i ∧ i ≤ 9 ∧ Gr w3 wq) (fun v12 _ => 9 - (intOf v12).toNat)
        case atStart => exact ⟨0, rfl, by omega, Gr.refl _⟩
        case round =>
          obtain ⟨i, rfl, hi9, hgq⟩ := hrel
          by_cases hpi : i < 9
          · have hD3 := h3.gr hgq
            have hth : (d.crash keep).there (i : Int) = 0 := by
              unfold Dk.there
              rw [hS.inv.there_crash keep, show (d.crash keep).dead = false from rfl, if_neg (by decide), if_neg (by omega)]
            have hcr := hS.inv.crash keep i hpi
            have hxl : ((d.crash keep).at_ i).length = 256 := by rcases hcr with ⟨e, _⟩ | ⟨_, e⟩ <;> rw [e, fullS_len]
            have cR := dk_read hD3 i hth (by rw [hxl]; decide)
            go_wp2_with (go_at_call 14; (with_reducible refine cR.mono ?_); rintro e w5 ⟨x, rfl, hx5, hg5⟩)
            go_loopw [15, 16] (fun v15 v16 wz => ∃ j : Nat, v16 = .int .i64 j ∧ j ≤ d.pending.length ∧ v15 = .bool (decide (i ∈ d.pending.take j)) ∧ w5 = wz) (fun _ v16 _ => d.pending.length - (intOf v16).toNat)
            case atStart => exact ⟨0, rfl, Nat.zero_le _, by rw [List.take_zero]; simp, rfl⟩
            case round =>
              obtain ⟨j, rfl, hj, rfl, rfl⟩ := hrel
              by_cases hpj : j < d.pending.length
              · obtain ⟨y, hy⟩ : ∃ y, d.pending[j]? = some y := ⟨_, List.getElem?_eq_getElem hpj⟩
                obtain ⟨pb, rfl, hpb1, hpb2⟩ := hpb j y hy
                have hpc5 : w5.cell? ⟨pb, j, none⟩ = some (.int .i64 (y : Int)) := ((Gr.trans hgq hg5).cell (p := ⟨pb, j, none⟩) hpb1).trans hpb2
                have htk : d.pending.take (j + 1) = d.pending.take j ++ [y] := by rw [List.take_add_one, hy]; rfl
                by_cases hm : i ∈ d.pending.take j
                · have e1 : decide (i ∈ d.pending.take j) = true := decide_eq_true hm
                  have e2 : decide (i ∈ d.pending.take (j + 1)) = true := decide_eq_true (by rw [htk]; exact List.mem_append_left _ hm)
                  rw [e1]
                  clear hin hpb htk hm e1 hy
                  go_wp2
                  go_roundw
                  case rel => exact ⟨j + 1, by go_num, by omega, by rw [e2], trivial⟩
                  case measure => simp [intOf]; omega
                · have e1 : decide (i ∈ d.pending.take j) = false := decide_eq_false hm
                  rw [e1]
                  by_cases hyi : y = i
                  · have e2 : decide (i ∈ d.pending.take (j + 1)) = true := decide_eq_true (by rw [htk, hyi]; simp)
                    rw [hyi] at hpc5
                    clear hin hpb htk hm e1 hy
                    go_wp2
                    go_roundw
                    case rel => exact ⟨j + 1, by go_num, by omega, by rw [e2], trivial⟩
                    case measure => simp [intOf]; omega
                  · have e2 : decide (i ∈ d.pending.take (j + 1)) = false := decide_eq_false (by rw [htk, List.mem_append, List.mem_singleton]; exact fun h => h.elim hm fun e => hyi e.symm)
                    have e3 : ((y : Int) == (i : Int)) = false := by rw [beq_eq_false_iff_ne]; omega
                    have e4 : decide ((y : Int) = (i : Int)) = false := decide_eq_false (by omega)
                    clear hin hpb htk hm e1 hy
                    go_wp2
                    go_roundw
                    case rel => exact ⟨j + 1, by go_num, by omega, by rw [e2], trivial⟩
                    case measure => simp [intOf]; omega
              · obtain rfl : j = d.pending.length := by omega
                rw [List.take_length]
                have hcs5 := ((Gr.trans hgq hg5).cell (p := sad.add i) (by rw [block_of_add]; exact Nat.lt_of_lt_of_le hsb2 (Nat.le_trans hg2.size hb3.size))).trans (hs3 i hpi)
                have hct5 := ((Gr.trans hgq hg5).cell (p := ⟨bl, i, none⟩) hbl3.lt).trans (ht3 i hpi)
                have hsad5 : (sad.add i).block < w5.heap.size := by rw [block_of_add]; exact Nat.lt_of_lt_of_le hsb2 (Nat.le_trans hg2.size (Nat.le_trans hb3.size (Gr.trans hgq hg5).size))
                have hbl5 : bl < w5.heap.size := Nat.lt_of_lt_of_le hbl3.lt (Gr.trans hgq hg5).size
                obtain ⟨gx, xc, xcs, rfl, _⟩ := own_blkD hx5 hxl
                have hw0 := (hS.inv.at_ i hpi).2
                have hcr2 := hcr
                generalize hsi : s.getD i 0 = si at hcs5 hcr hw0
                generalize hti : t.getD i 0 = ti at hct5 hcr hw0
                clear hcr2
                have hcase : ((d.crash keep).at_ i = fullS si ∧ decide (i ∈ d.pending) = true) ∨ ((d.crash keep).at_ i = fullS si ∧ decide (i ∈ d.pending) = false ∧ si = ti) ∨ ((d.crash keep).at_ i = fullS ti ∧ decide (i ∈ d.pending) = true ∧ si ≠ ti) := by
                  by_cases hpd : i ∈ d.pending
                  · rcases hcr with ⟨e, _⟩ | ⟨_, e⟩
                    · exact .inl ⟨e, decide_eq_true hpd⟩
                    · by_cases hst : si = ti
                      · exact .inl ⟨by rw [e, hst], decide_eq_true hpd⟩
                      · exact .inr (.inr ⟨e, decide_eq_true hpd, hst⟩)
                  · rcases hcr with ⟨e, hn⟩ | ⟨e2, e⟩
                    · refine .inr (.inl ⟨e, decide_eq_false hpd, ?_⟩)
                      rcases hw0 with ⟨h1, h2⟩ | h1
                      · exact h2
                      · exact absurd ((hin i).2 ⟨_, h1⟩) hpd
                    · exact absurd ((hin i).2 e2) hpd
                clear hin hpb hcr hw0 hs3 ht3 hscell hsi hti
                rcases hcase with ⟨hxe, hpd⟩ | ⟨hxe, hpd, hst⟩ | ⟨hxe, hpd, hst⟩
                · rw [hxe] at hx5
                  rw [hpd]
                  have hl256 : (fullS si).length ≤ 1073741824 := by rw [fullS_len]; decide
                  clear hxe hpd hxl cR
                  go_wp2
                  refine reg28_wait w5 gx xc sc bl i _ sad si ti hpi hx5 hsad5 hcs5 hbl5 hct5 _ _ _ _ _ _ _ _ _ _ _ _ _ _ _ _ _ _ _ _ _ _ _ _ _ _ _ _ _ _ _ _ _ _ _ _ _ _ _ _ _ _ _ _ _ _ _ _ _ _ _ _ _ _ _ _ _ _ _ _ _ _ _ _ _ _ _ _ _ _ _ _ _ _ _ _ _ _ _ _ _ _ _ _ _ _ _ _ _ _ _ _ _ _ _ _ _ _ _ _ _ _ _ _ _ _ _ _ _ _ _ _ _ _ _ _ _ _ _ _ _ _ _ _ _ _ _ _ _ _ _ _ _ _ _ _ _ _ _ _ _ _ _ _ _ _ _ _ _ _ _ _ _ _ _ _ _ _ ?_
                  intro vals W7 hb7 e41
                  rw [e41]
                  go_wp2
                  go_roundw
                  case rel => exact ⟨i + 1, by go_num, by omega, Gr.trans hgq (Gr.trans hg5 hb7)⟩
                  case measure => simp [intOf]; omega
                · rw [hxe] at hx5
                  rw [hpd]
                  rw [← hst] at hct5
                  have hl256 : (fullS si).length ≤ 1073741824 := by rw [fullS_len]; decide
                  clear hxe hpd hxl cR hst
                  go_wp2
                  refine reg28_still w5 gx xc sc bl i _ sad si ti hpi hx5 hsad5 hcs5 hbl5 hct5 _ _ _ _ _ _ _ _ _ _ _ _ _ _ _ _ _ _ _ _ _ _ _ _ _ _ _ _ _ _ _ _ _ _ _ _ _ _ _ _ _ _ _ _ _ _ _ _ _ _ _ _ _ _ _ _ _ _ _ _ _ _ _ _ _ _ _ _ _ _ _ _ _ _ _ _ _ _ _ _ _ _ _ _ _ _ _ _ _ _ _ _ _ _ _ _ _ _ _ _ _ _ _ _ _ _ _ _ _ _ _ _ _ _ _ _ _ _ _ _ _ _ _ _ _ _ _ _ _ _ _ _ _ _ _ _ _ _ _ _ _ _ _ _ _ _ _ _ _ _ _ _ _ _ _ _ _ _ ?_
                  intro vals W7 hb7 e41
                  rw [e41]
                  go_wp2
                  go_roundw
                  case rel => exact ⟨i + 1, by go_num, by omega, Gr.trans hgq (Gr.trans hg5 hb7)⟩
                  case measure => simp [intOf]; omega
                · rw [hxe] at hx5
                  rw [hpd]
                  have hne : fullS ti ≠ fullS si := fun e => hst (fullS_inj e).symm
                  clear hxe hpd hxl cR
                  go_wp2
                  refine reg28_last w5 gx xc sc bl i _ sad si ti hpi hx5 hsad5 hcs5 hbl5 hct5 hst _ _ _ _ _ _ _ _ _ _ _ _ _ _ _ _ _ _ _ _ _ _ _ _ _ _ _ _ _ _ _ _ _ _ _ _ _ _ _ _ _ _ _ _ _ _ _ _ _ _ _ _ _ _ _ _ _ _ _ _ _ _ _ _ _ _ _ _ _ _ _ _ _ _ _ _ _ _ _ _ _ _ _ _ _ _ _ _ _ _ _ _ _ _ _ _ _ _ _ _ _ _ _ _ _ _ _ _ _ _ _ _ _ _ _ _ _ _ _ _ _ _ _ _ _ _ _ _ _ _ _ _ _ _ _ _ _ _ _ _ _ _ _ _ _ _ _ _ _ _ _ _ _ _ _ _ _ _ ?_
                  intro vals W7 hb7 e41
                  rw [e41]
                  go_wp2
                  go_roundw
                  case rel => exact ⟨i + 1, by go_num, by omega, Gr.trans hgq (Gr.trans hg5 hb7)⟩
                  case measure => simp [intOf]; omega
          · obtain rfl : i = 9 := by omega
            have hD3 := h3.gr hgq
            have cP2 := dk_pending hD3
            rw [crash_pending] at cP2
            have cDd := fun W hg => dk_dead (hD3.gr (w' := W) hg)
            go_wp2_with (first
              | (go_at_call 12; (with_reducible refine cP2.mono ?_); rintro e w6 ⟨pv, rfl, hown6, hg6⟩
                 obtain ⟨qA, qc, rfl, _⟩ := own_formD hown6)
              | (go_at_call 16; (with_reducible refine (cDd _ hg6).mono ?_); rintro e w7 ⟨rfl, rfl⟩)
              | (go_at_call 5; (with_reducible refine (live_d _).mono ?_); rintro e w8 ⟨rfl, hg8⟩))
            go_ret
            exact ⟨rfl, Below.trans hS2.below (Below.trans (hb3.below hS2.below.size fun k hk => (hS.lt k hk).2) (Below.mono (Gr.trans hgq (Gr.trans hg6 hg8)) (Nat.le_trans hS2.below.size hb3.size)))⟩
end Go.Proofs.Ytamojnejengipaa
