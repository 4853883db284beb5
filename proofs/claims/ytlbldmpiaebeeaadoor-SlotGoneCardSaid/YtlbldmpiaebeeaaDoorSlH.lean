/- Slots: the law SlotGone. -/
import Derived.Test.YtlbldmpiaebeeaaDoorSlE
import Derived.Test.YtlbldmpiaebeeaaDoorSlG
import Derived.Test.YtlbldmpiaebeeaaDoorSlI
namespace Go.Proofs.YtlbldmpiaebeeaaDoor
open Go Go.RowKit Go.Maps Go.MapKept Go.ChangeMaps

def s8 : List (List UInt8) := List.replicate 8 (zerosS 256)
theorem d8_s : Dk.new 8 = DQ s8 := by rw [Dk.new_dq]; rfl
theorem s8_256 : ∀ k ∈ s8, k.length = 256 := fun k hk => by rw [(List.mem_replicate.1 hk).2]; exact zerosS_len _
set_option maxRecDepth 100000 in
set_option maxHeartbeats 4000000 in
theorem gone_live (l : List Sa) (lv : Value) (at_ xf : Int) (kA : Option Addr) (kn kc : Nat) (w : World) (hl : RdSas w (· < w.heap.size) lv l) (ho : ¬ fewS l ∨ at_ < 0 ∨ 3 < at_) :
    Calls Tryd.prog 4 #[lv, .int .i64 at_, .agg #[.int .i64 xf, .slice kA kn kc]] w fun e w' => e = .returned (.bool true) ∧ Gr w w' := by
  obtain ⟨A, cc, vs, rfl, _⟩ := id hl
  have hl0 := hl.gr (Gr.alloc w (.cells #[.int .i64 xf, .slice kA kn kc] 42))
  have hg0 := Gr.alloc w (.cells #[.int .i64 xf, .slice kA kn kc] 42)
  by_cases hf : fewS l
  · have cH := huge_few _ _ l hl0 hf
    rcases (by rcases ho with h | h | h; exact absurd hf h; exact .inl h; exact .inr ⟨by omega, h⟩ : at_ < 0 ∨ (0 ≤ at_ ∧ 3 < at_)) with h | ⟨h, h2⟩
    all_goals
      go_enter Tryd.func4, Tryd.ntmps4
      go_wp2_with (first
        | (go_at_call 14; (with_reducible refine cH.mono ?_); rintro e w1 ⟨rfl, rfl⟩)
        | (go_at_call 5; (with_reducible refine (live_s _).mono ?_); rintro e w2 ⟨rfl, hg2⟩))
      all_goals (try (exfalso; omega))
      go_ret
      exact ⟨rfl, Gr.trans hg0 hg2⟩
  · have cH := huge_many _ _ l hl0 hf
    go_enter Tryd.func4, Tryd.ntmps4
    go_wp2_with (first
      | (go_at_call 14; (with_reducible refine cH.mono ?_); rintro e w1 ⟨rfl, rfl⟩)
      | (go_at_call 5; (with_reducible refine (live_s _).mono ?_); rintro e w2 ⟨rfl, hg2⟩))
    all_goals (try (exfalso; omega))
    go_ret
    exact ⟨rfl, Gr.trans hg0 hg2⟩
/-- The law between two acts. -/
structure GnAt (w : World) (x : Array Value) (h g gs gm : Nat) (K : Nat → Prop) (m : Nat) (s : List (List UInt8)) (wr : World) : Prop where
  dk : DkAt wr K g gs gm 8 m (DQ s)
  sl : SlAt wr h g 2 4
  hh : ¬ DkS g gs gm h
  len : s.length = 8
  all : ∀ k ∈ s, k.length = 256
  below : Below w.heap.size w wr
  low : ∀ k, DkS g gs gm k → w.heap.size < k
  box : Blk wr w.heap.size 42 x
section
variable {w wr w' : World} {x : Array Value} {h g gs gm m : Nat} {K : Nat → Prop} {s : List (List UInt8)}
theorem GnAt.gr (hG : GnAt w x h g gs gm K m s wr) (hg : Gr wr w') : GnAt w x h g gs gm K m s w' :=
  ⟨hG.dk.gr hg, hG.sl.gr hg, hG.hh, hG.len, hG.all, Below.trans hG.below (Below.mono hg hG.below.size), hG.low, hG.box.below hg hG.box.lt⟩
/-- What stays behind the acts. -/
structure TlAt (w : World) (x : Array Value) (h g gs gm : Nat) (wr : World) : Prop where
  sl : SlAt wr h g 2 4
  hh : ¬ DkS g gs gm h
  below : Below w.heap.size w wr
  low : ∀ k, DkS g gs gm k → w.heap.size < k
  box : Blk wr w.heap.size 42 x
theorem GnAt.tl (hG : GnAt w x h g gs gm K m s wr) : TlAt w x h g gs gm wr := ⟨hG.sl, hG.hh, hG.below, hG.low, hG.box⟩
theorem TlAt.gr (hG : TlAt w x h g gs gm wr) (hg : Gr wr w') : TlAt w x h g gs gm w' :=
  ⟨hG.sl.gr hg, hG.hh, Below.trans hG.below (Below.mono hg hG.below.size), hG.low, hG.box.below hg hG.box.lt⟩
theorem TlAt.but (hG : TlAt w x h g gs gm wr) (hb : But (DkS g gs gm) wr w') : TlAt w x h g gs gm w' :=
  ⟨hG.sl.but hb hG.hh, hG.hh, Below.trans hG.below (hb.below hG.below.size fun k hk => Nat.le_of_lt (hG.low k hk)), hG.low, hb.blk hG.box fun hs => Nat.lt_irrefl _ (hG.low _ hs)⟩
theorem GnAt.put {K' : Nat → Prop} {m' : Nat} {s' : List (List UInt8)} (hG : GnAt w x h g gs gm K m s wr) (hD : DkAt w' K' g gs gm 8 m' (DQ s')) (hl : s'.length = s.length) (ha : ∀ k ∈ s', k.length = 256) (hb : But (DkS g gs gm) wr w') : GnAt w x h g gs gm K' m' s' w' :=
  ⟨hD, hG.sl.but hb hG.hh, hG.hh, hl.trans hG.len, ha, Below.trans hG.below (hb.below hG.below.size fun k hk => Nat.le_of_lt (hG.low k hk)), hG.low, hb.blk hG.box fun hs => Nat.lt_irrefl _ (hG.low _ hs)⟩
end
set_option maxRecDepth 100000 in
set_option maxHeartbeats 8000000 in
theorem gone_law (l : List Sa) (lv : Value) (a : Nat) (xf : Int) (kA : Option Addr) (kn kc : Nat) (keep : List Bool) (w : World) (hl : RdSas w (· < w.heap.size) lv l) (hk : RdBools w (· < w.heap.size) (.slice kA kn kc) keep) (hf : fewS l) (ha : a < 4) (hx : xf ≤ 9223372036854775807) (hx0 : -9223372036854775808 ≤ xf) :
    Calls Tryd.prog 4 #[lv, .int .i64 (a : Int), .agg #[.int .i64 xf, .slice kA kn kc]] w fun e w' => e = .returned (.bool true) ∧ Gr w w' := by
  have hl0 := hl.gr (Gr.alloc w (.cells #[.int .i64 xf, .slice kA kn kc] 42))
  have cH := huge_few _ _ l hl0 hf
  obtain ⟨lA, lc, lvs, rfl, ⟨hlc1, hlc2⟩, hlr, hla⟩ := hl
  have hcell := fun (wr : World) (hg : Below w.heap.size w wr) (k : Nat) (b : Sa) (hb : l[k]? = some b) => sa_cells hlr hla hg hb
  have hl40 := hf.1
  have hl300 := hf.2
  clear hlr hla hl0 hf
  unfold maxLen at hlc2
  have hg0 := Gr.alloc w (.cells #[.int .i64 xf, .slice kA kn kc] 42)
  have hBx := Blk.new w 42 #[.int .i64 xf, .slice kA kn kc]
  have cN := fun W => dk_newZ 8 8 rfl W (by decide) (by decide)
  rw [d8_s] at cN
  have d1 : decide ((a : Int) < 0) = false := decide_eq_false (by omega)
  have d2 : decide ((3 : Int) < (a : Int)) = false := decide_eq_false (by omega)
  have d3 : decide (3 < a) = false := decide_eq_false (by omega)
  go_enter Tryd.func4, Tryd.ntmps4
  go_wp2_with (first
    | (go_at_call 14; (with_reducible refine cH.mono ?_); rintro e w1 ⟨rfl, rfl⟩)
    | (go_at_call 9; (with_reducible refine (cN _).mono ?_); rintro e w2 ⟨g, gs, gm, K, rfl, hD2, hK, hg2⟩
       have cS := new_sl hD2 2 4 2 4 rfl rfl (by decide) (by decide) (by decide) (by decide)
       have hh : ¬ DkS g gs gm w2.heap.size := fun h => by have := hD2.lt _ h; omega)
    | (go_at_call 8; (with_reducible refine cS.mono ?_); rintro e w3 ⟨rfl, hs3, hg3⟩)
    | (go_at_call 11; (with_reducible refine (num_s _ _).mono ?_); rintro e w9 ⟨rfl, rfl⟩))
  have hG3 : GnAt w #[.int .i64 xf, .slice kA kn kc] w2.heap.size g gs gm K 0 s8 w3 := by
    have hsz := hg2.size
    have h1 : (w.alloc (.cells #[.int .i64 xf, .slice kA kn kc] 42)).heap.size = w.heap.size + 1 := by simp
    have hgr := Gr.trans hg2 hg3
    refine ⟨hD2.gr hg3, hs3, hh, by decide, s8_256, Gr.trans hg0 hgr, fun k hk => ?_, hBx.below hgr hBx.lt⟩
    have := hK k (.inl hk)
    omega
  clear hD2 hs3 hh hK hg3 hg2 hBx cN cS cH
  generalize w2.heap.size = h at *
  go_loopw [11] (fun v11 wr => ∃ (k m : Nat) (K : Nat → Prop) (s : List (List UInt8)), v11 = .int .i64 k ∧ k ≤ l.length ∧ m ≤ k ∧ GnAt w #[.int .i64 xf, .slice kA kn kc] h g gs gm K m s wr) (fun v11 _ => l.length - (intOf v11).toNat)
  case atStart => exact ⟨0, 0, K, _, rfl, Nat.zero_le _, Nat.le_refl _, hG3⟩
  case round =>
    clear hG3
    obtain ⟨k, m, K, s, rfl, hkl, hmk, hG⟩ := hrel
    by_cases hp : k < l.length
    · obtain ⟨b, hb⟩ : ∃ b, l[k]? = some b := ⟨_, List.getElem?_eq_getElem hp⟩
      obtain ⟨ad, A, c, rfl, c0, c1, c2, hadl, hrb⟩ := hcell wr hG.below k b hb
      have hb300 := hl300 k b hb
      obtain ⟨_, _, ex, hbc, _⟩ := id hrb
      have hadw : (ad.add (k * 3)).block < wr.heap.size := Nat.lt_of_lt_of_le hadl hG.below.size
      have hws := hG.below.size
      clear hcell hl300 hb ex hbc
      generalize hp3 : ad.add (k * 3) = p3 at *
      have hkb : ((b.kind : Int) == 0) = decide (b.kind = 0) := by rw [Bool.eq_iff_iff, beq_iff_eq, decide_eq_true_iff]
      by_cases hk0 : b.kind = 0
      · rw [hk0] at c0
        clear hkb hk0
        go_wp2
        let fE : Fact := ⟨fun _ W => ∃ (s' : List (List UInt8)) (K' : Nat → Prop) (m' : Nat), m' ≤ k + 1 ∧ GnAt w #[.int .i64 xf, .slice kA kn kc] h g gs gm K' m' s' W, fun _ W W' ⟨s', K', m', h1, h2⟩ hg => ⟨s', K', m', h1, h2.gr hg⟩⟩
        refine wp_region_facts [.is (.pointer (some ⟨h, 0, none⟩)), .is (.slice (some ad) l.length lc), .is (.int .i64 k), .is (.pointer (some p3)), .is (.pointer (some ⟨p3.block, p3.off + 1, none⟩)), .is (.int .i64 b.at_), .is (.slice (some ad) l.length lc), .is (.int .i64 k), .is (.pointer (some p3)), .is (.pointer (some ⟨p3.block, p3.off + 2, none⟩)), .is (.slice A b.b.length c), fE]
          (fun W => Gr wr W) (fun q j => q == 11 && decide (j < 11)) (fun q => q == 11) 0 (by kernel_rfl) rfl (by kernel_rfl) (by kernel_rfl) (Nat.zero_le _) (Gr.drew _) (fun vals => by simp [fillA, dstsOf, go_sem]; rfl) ?_ ?_
        · intro q hqn
          replace hqn : q < 12 := hqn
          have hI : ∀ W W', Gr wr W → Gr W W' → Gr wr W' := fun W W' hp hg => Gr.trans hp hg
          rcases (by omega : q = 0 ∨ q = 1 ∨ q = 2 ∨ q = 3 ∨ q = 4 ∨ q = 5 ∨ q = 6 ∨ q = 7 ∨ q = 8 ∨ q = 9 ∨ q = 10 ∨ q = 11) with rfl | rfl | rfl | rfl | rfl | rfl | rfl | rfl | rfl | rfl | rfl | rfl
          · refine step_g 0 [] _ _ rfl rfl hI (by kernel_rfl) fun vals W hb_ hB_ hIw hd => ?_
            go_wp2
            exact ⟨rfl, _, rfl, Gr.refl _, rfl⟩
          · refine step_g 1 [] _ _ rfl rfl hI (by kernel_rfl) fun vals W hb_ hB_ hIw hd => ?_
            go_wp2
            exact ⟨rfl, _, rfl, Gr.refl _, rfl⟩
          · refine step_g 2 [] _ _ rfl rfl hI (by kernel_rfl) fun vals W hb_ hB_ hIw hd => ?_
            go_wp2
            exact ⟨rfl, _, rfl, Gr.refl _, rfl⟩
          · refine step_g 3 [1, 2] _ _ rfl rfl hI (by kernel_rfl) fun vals W hb_ hB_ hIw hd => ?_
            have e1 : vals 1 = _ := hd 1 (by simp) _ rfl
            have e2 : vals 2 = _ := hd 2 (by simp) _ rfl
            rw [e1, e2]
            go_wp2
            exact ⟨rfl, _, rfl, Gr.refl _, rfl⟩
          · refine step_g 4 [3] _ _ rfl rfl hI (by kernel_rfl) fun vals W hb_ hB_ hIw hd => ?_
            have e3 : vals 3 = _ := hd 3 (by simp) _ rfl
            rw [e3]
            go_wp2
            exact ⟨rfl, _, rfl, Gr.refl _, rfl⟩
          · refine step_g 5 [4] _ _ rfl rfl hI (by kernel_rfl) fun vals W hb_ hB_ hIw hd => ?_
            have e4 : vals 4 = _ := hd 4 (by simp) _ rfl
            rw [e4]
            have hq := ((hIw (by kernel_rfl)).cell (p := ⟨p3.block, p3.off + 1, none⟩) hadw).trans c1
            go_wp2
            exact ⟨rfl, _, rfl, Gr.refl _, rfl⟩
          · refine step_g 6 [] _ _ rfl rfl hI (by kernel_rfl) fun vals W hb_ hB_ hIw hd => ?_
            go_wp2
            exact ⟨rfl, _, rfl, Gr.refl _, rfl⟩
          · refine step_g 7 [] _ _ rfl rfl hI (by kernel_rfl) fun vals W hb_ hB_ hIw hd => ?_
            go_wp2
            exact ⟨rfl, _, rfl, Gr.refl _, rfl⟩
          · refine step_g 8 [6, 7] _ _ rfl rfl hI (by kernel_rfl) fun vals W hb_ hB_ hIw hd => ?_
            have e6 : vals 6 = _ := hd 6 (by simp) _ rfl
            have e7 : vals 7 = _ := hd 7 (by simp) _ rfl
            rw [e6, e7]
            go_wp2
            exact ⟨rfl, _, rfl, Gr.refl _, rfl⟩
          · refine step_g 9 [8] _ _ rfl rfl hI (by kernel_rfl) fun vals W hb_ hB_ hIw hd => ?_
            have e8 : vals 8 = _ := hd 8 (by simp) _ rfl
            rw [e8]
            go_wp2
            exact ⟨rfl, _, rfl, Gr.refl _, rfl⟩
          · refine step_g 10 [9] _ _ rfl rfl hI (by kernel_rfl) fun vals W hb_ hB_ hIw hd => ?_
            have e9 : vals 9 = _ := hd 9 (by simp) _ rfl
            rw [e9]
            have hq := ((hIw (by kernel_rfl)).cell (p := ⟨p3.block, p3.off + 2, none⟩) hadw).trans c2
            go_wp2
            exact ⟨rfl, _, rfl, Gr.refl _, rfl⟩
          · refine step_s 11 [0, 5, 10] [] _ _ rfl rfl (by kernel_rfl) (by kernel_rfl) fun vals W hb_ hB_ hIw hd => ?_
            have e0 : vals 0 = _ := hd 0 (by simp) _ rfl
            have e5 : vals 5 = _ := hd 5 (by simp) _ rfl
            have e10 : vals 10 = _ := hd 10 (by simp) _ rfl
            rw [e0, e5, e10]
            have hgW := hIw (by kernel_rfl)
            have hGW := hG.gr hgW
            have cP := put_any_dq hGW.dk hGW.sl hGW.hh b.at_ (by decide) (by decide) (by rw [hGW.len]; decide) hGW.all (.slice A b.b.length c) b.b ((hrb.gr hws hgW).more (Nat.le_trans hws hgW.size)) (by omega)
            go_wp2_with (go_at_call 12; (with_reducible refine cP.mono ?_); rintro e w2 ⟨q, s2, K2, m2, rfl, hD2, hl2, ha2, hm2, hb2⟩)
            exact ⟨rfl, _, rfl, hb2.below (Nat.zero_le _) (fun k _ => Nat.zero_le _), ⟨s2, K2, m2, by omega, hGW.put hD2 hl2 ha2 hb2⟩, fun h _ => absurd h (by decide), fun j hj => absurd hj List.not_mem_nil⟩
        · intro vals W2 hb2 hfs
          obtain ⟨s2, K2, m2, hm2, hG2⟩ := (show ∃ (s' : List (List UInt8)) (K' : Nat → Prop) (m' : Nat), m' ≤ k + 1 ∧ GnAt w #[.int .i64 xf, .slice kA kn kc] h g gs gm K' m' s' W2 from hfs 11 _ rfl (fun k hk => by simp))
          go_wp2
          go_roundw
          case rel => exact ⟨k + 1, m2, K2, s2, by go_num, by omega, hm2, hG2⟩
          case measure => simp [intOf]; omega
      · rw [decide_eq_false hk0] at hkb
        go_wp2
        all_goals (try (exfalso; omega))
        go_roundw
        case rel => exact ⟨k + 1, m, K, s, by go_num, by omega, by omega, hG⟩
        case measure => simp [intOf]; omega
    · obtain rfl : k = l.length := by omega
      clear hcell hl300
      obtain ⟨j, hj⟩ : ∃ j, j = (a + 1) % 4 := ⟨_, rfl⟩
      have hj4 : j < 4 := by omega
      have hja : 2 + a ≠ 2 + j := by omega
      have hm1 : ((a : Int) + 1).tmod 4 = (j : Int) := by rw [Int.tmod_eq_emod_of_nonneg (by omega)]; omega
      have hm2 : ((a : Int) + 1) % 4 = (j : Int) := by omega
      have hs8 := hG.len
      have hall := hG.all
      have hT := hG.tl
      have hbx0 : wr.cell? ⟨w.heap.size, 0, none⟩ = some (.int .i64 xf) := hG.box.cell 0
      have hbx1 : wr.cell? ⟨w.heap.size, 1, none⟩ = some (.slice kA kn kc) := hG.box.cell 1
      have hcv := fun (W : World) C n c => Lib.run_convert_bytes_const (P := Tryd.prog) W 22 5 C n c Tryd.underlying22 Tryd.underlying5
      obtain ⟨kb, hkb⟩ : ∃ kb : List UInt8, kb = [107, 101, 112, 116] := ⟨_, rfl⟩
      have hkl4 : kb.length ≤ 249 := by rw [hkb]; decide
      have hgi := fun z => gone_all s z (2 + a) (2 + j) kb (by omega) (by omega) hja hs8 hall hkl4
      have hle := fun z => clear_le s z (2 + a) (by omega) hall (2 + j)
      have hat4 : ∀ z, ((DF s z).at_ (2 + a)).length ≤ 1000000 := fun z => by rw [df_at, List.getD_eq_getElem?_getD, List.getElem?_eq_getElem (by omega)]; exact Nat.le_trans (Nat.le_of_eq (hall _ (List.getElem_mem _))) (by decide)
      have hD0 := hG.dk
      clear hG hj
      rcases Int.lt_or_le 0 xf with hxf | hxf
      · have dxf : decide (0 < xf) = true := decide_eq_true (by omega)
        replace hgi := hgi xf
        replace hle := hle xf
        replace hat4 := hat4 xf
        rcases hcl : (DF s xf).slotClear (2 + a) with ⟨ef, d5⟩
        rw [hcl] at hgi hle
        dsimp only at hgi hle
        rcases hpl : d5.slotPut (2 + j) kb with ⟨eg, d6⟩
        rw [hpl] at hgi
        dsimp only at hgi
        obtain ⟨s7, ecr, hl7, hall7, hgone, hkept⟩ := gone_crash hgi keep (by omega) (by omega)
        clear hgi
        have cFu := dk_fuse hD0 xf hxf hx rfl
        go_wp2_with (first
          | (go_at_call 15; (with_reducible refine cFu.mono ?_); rintro e w4 ⟨rfl, hD4x, hbF⟩
             have hT4 := hT.but (hbF.mono fun k hk => .inl hk)
             have hD4 : DkAt w4 K g gs gm 8 m (DF s xf) := hD4x
             have cC := clear_sl hD4 hT4.sl hT4.hh a ha (by decide) (by decide) hat4 (by omega)
             rw [hcl] at cC
             dsimp only at cC)
          | (go_at_call 13; (with_reducible refine cC.mono ?_); rintro e w5 ⟨K5, m5, rfl, hD5, hm5, hb5⟩
             have hT5 := hT4.but hb5
             have hrd : RdB (w5.alloc (.cells #[.int .u8 107, .int .u8 101, .int .u8 112, .int .u8 116] 5 (4, 5))) (w5.alloc (.cells #[.int .u8 107, .int .u8 101, .int .u8 112, .int .u8 116] 5 (4, 5))).heap.size (.slice (some ⟨w5.heap.size, 0, none⟩) 4 4) kb := hkb ▸ rd_const w5 [107, 101, 112, 116] (4, 5)
             have hgA : Gr w5 (w5.alloc (.cells #[.int .u8 107, .int .u8 101, .int .u8 112, .int .u8 116] 5 (4, 5))) := Gr.alloc _ _
             have hT5a := hT5.gr hgA
             have cP := put_sl (hD5.gr hgA) hT5a.sl hT5a.hh j hj4 (by decide) (by decide) (Nat.le_trans hle (by decide)) _ kb hrd (by omega)
             rw [hpl] at cP
             dsimp only at cP)
          | (go_at_call 12; (with_reducible refine cP.mono ?_); rintro e w6 ⟨K6, m6, rfl, hD6, hm6, hb6⟩
             have hT6 := hT5a.but hb6
             have hlow6 := hT6.low
             have hsz6 := hT6.below.size
             have cX := dk_crash hD6 keep (.slice kA kn kc) (fun b => b < w.heap.size) (fun b hb => ⟨Nat.lt_of_lt_of_le hb hsz6, fun hs => by have := hlow6 b hs; omega⟩) (hk.keep fun p hp => hT6.below.cell hp)
             rw [ecr] at cX
             have hby1 : w6.cell? ⟨w.heap.size, 1, none⟩ = some (.slice kA kn kc) := hT6.box.cell 1)
          | (go_at_call 16; (with_reducible refine cX.mono ?_); rintro e w7 ⟨rfl, hD7, hb7⟩
             have hT7 := hT6.but hb7
             have cI := dk_image hD7 (fun k hk => Nat.le_trans (Nat.le_of_eq (hall7 k hk)) (by decide)))
          | (go_at_call 17; (with_reducible refine cI.mono ?_); rintro e w8 ⟨iv, ivs, rfl, hio, hiw, hg8⟩
             obtain ⟨iA, ic, rfl, _, _⟩ := own_formD hio
             have hT8 := hT7.gr hg8)
          | (go_at_call 11; (with_reducible refine (num_s _ _).mono ?_); rintro e w9 ⟨rfl, rfl⟩))
        clear hcl hpl ecr hD0 hall hle hat4 hbx0 hbx1 hcv hl40
        by_cases hef : ef = 0
        · subst hef
          rcases hio.2 with ⟨_, h0⟩ | ⟨pb, cap, cur, e, e2, e3, _⟩
          · exact absurd h0 (by decide)
          · injection e with e
            subst e
            have hpl2 : pb < w8.heap.size := (Array.getElem?_eq_some_iff.1 e3).1
            obtain ⟨u, hu⟩ : ∃ u, ivs[2 + a]? = some u := ⟨_, List.getElem?_eq_getElem (by rw [hio.1]; omega)⟩
            have hc := World.ownsRow.cells hio rfl (2 + a) u hu
            have hou := hiw (2 + a) u _ (by omega) hu (hgone rfl)
            obtain ⟨uA, uc, eu, _⟩ := hou.rdD
            subst eu
            have hur := hou.rdD
            rw [zerosS_len] at hur hc
            refine reg20_gone w8 a ic ⟨pb, 0, none⟩ uA uc ha hpl2 hc hur _ _ _ _ _ _ _ _ _ _ _ _ _ _ _ _ _ _ _ _ _ _ _ _ _ _ _ _ _ _ _ _ _ _ _ _ _ _ _ _ _ _ _ _ _ _ _ _ _ _ _ _ _ _ _ _ _ _ _ _ _ _ _ _ _ _ _ _ _ _ _ _ _ _ _ _ _ _ _ _ _ _ _ _ _ _ _ _ _ _ _ _ _ _ _ _ _ _ _ _ _ _ _ _ _ _ _ _ _ _ _ _ _ _ _ _ _ _ _ _ _ _ _ _ _ ?_
            intro vals W9 hg9 e12
            rw [e12]
            clear hio hiw hu hc hou hur
            by_cases heg : eg = 0
            · subst heg
              have hk7 : s7.getD (2 + j) [] = secS 4 kb := by rw [List.getD_eq_getElem?_getD, hkept rfl]; rfl
              have cG := get_dq (hD7.gr (Gr.trans hg8 hg9)) (hT8.gr hg9).sl j (j : Int) rfl hj4 (by decide) (by decide) (by omega) kb hkl4 hk7
              rw [hkb] at cG
              go_wp2_with (first
                | (go_at_call 6; (with_reducible refine cG.mono ?_); rintro e w10 ⟨⟨x, rfl, hx⟩, hg10⟩
                   have hst := str_rdS hx.rdD)
                | (go_at_call 11; (with_reducible refine (num_s _ _).mono ?_); rintro e w12 ⟨rfl, rfl⟩)
                | (go_at_call 5; (with_reducible refine (live_s _).mono ?_); rintro e w11 ⟨rfl, hg11⟩))
              go_ret
              exact ⟨rfl, Below.trans hT8.below (Below.mono (Gr.trans hg9 (Gr.trans hg10 hg11)) hT8.below.size)⟩
            · have cG := get_any_dq (hD7.gr (Gr.trans hg8 hg9)) (hT8.gr hg9).sl j (j : Int) rfl hj4 (by decide) (by decide) (by omega) hall7
              have dge : ((eg : Int) != 0) = true := by rw [bne_iff_ne]; exact heg
              go_wp2_with (first
                | (go_at_call 6; (with_reducible refine cG.mono ?_); rintro e w10 ⟨⟨A10, k10, c10, q10, rfl⟩, hg10⟩)
                | (go_at_call 11; (with_reducible refine (num_s _ _).mono ?_); rintro e w12 ⟨rfl, rfl⟩)
                | (go_at_call 5; (with_reducible refine (live_s _).mono ?_); rintro e w11 ⟨rfl, hg11⟩))
              go_ret
              exact ⟨rfl, Below.trans hT8.below (Below.mono (Gr.trans hg9 (Gr.trans hg10 hg11)) hT8.below.size)⟩
        · refine reg20_else w8 a ic iA ef hef _ _ _ _ _ _ _ _ _ _ _ _ _ _ _ _ _ _ _ _ _ _ _ _ _ _ _ _ _ _ _ _ _ _ _ _ _ _ _ _ _ _ _ _ _ _ _ _ _ _ _ _ _ _ _ _ _ _ _ _ _ _ _ _ _ _ _ _ _ _ _ _ _ _ _ _ _ _ _ _ _ _ _ _ _ _ _ _ _ _ _ _ _ _ _ _ _ _ _ _ _ _ _ _ _ _ _ _ _ _ _ _ _ _ _ _ _ _ _ _ _ _ _ _ _ ?_
          intro vals W9 hg9 e12
          rw [e12]
          clear hio hiw
          by_cases heg : eg = 0
          · subst heg
            have hk7 : s7.getD (2 + j) [] = secS 4 kb := by rw [List.getD_eq_getElem?_getD, hkept rfl]; rfl
            have cG := get_dq (hD7.gr (Gr.trans hg8 hg9)) (hT8.gr hg9).sl j (j : Int) rfl hj4 (by decide) (by decide) (by omega) kb hkl4 hk7
            rw [hkb] at cG
            go_wp2_with (first
              | (go_at_call 6; (with_reducible refine cG.mono ?_); rintro e w10 ⟨⟨x, rfl, hx⟩, hg10⟩
                 have hst := str_rdS hx.rdD)
              | (go_at_call 11; (with_reducible refine (num_s _ _).mono ?_); rintro e w12 ⟨rfl, rfl⟩)
              | (go_at_call 5; (with_reducible refine (live_s _).mono ?_); rintro e w11 ⟨rfl, hg11⟩))
            go_ret
            exact ⟨rfl, Below.trans hT8.below (Below.mono (Gr.trans hg9 (Gr.trans hg10 hg11)) hT8.below.size)⟩
          · have cG := get_any_dq (hD7.gr (Gr.trans hg8 hg9)) (hT8.gr hg9).sl j (j : Int) rfl hj4 (by decide) (by decide) (by omega) hall7
            have dge : ((eg : Int) != 0) = true := by rw [bne_iff_ne]; exact heg
            go_wp2_with (first
              | (go_at_call 6; (with_reducible refine cG.mono ?_); rintro e w10 ⟨⟨A10, k10, c10, q10, rfl⟩, hg10⟩)
              | (go_at_call 11; (with_reducible refine (num_s _ _).mono ?_); rintro e w12 ⟨rfl, rfl⟩)
              | (go_at_call 5; (with_reducible refine (live_s _).mono ?_); rintro e w11 ⟨rfl, hg11⟩))
            go_ret
            exact ⟨rfl, Below.trans hT8.below (Below.mono (Gr.trans hg9 (Gr.trans hg10 hg11)) hT8.below.size)⟩
      · have dxf : decide (0 < xf) = false := decide_eq_false (by omega)
        replace hgi := hgi (-1)
        replace hle := hle (-1)
        replace hat4 := hat4 (-1)
        rcases hcl : (DF s (-1)).slotClear (2 + a) with ⟨ef, d5⟩
        rw [hcl] at hgi hle
        dsimp only at hgi hle
        rcases hpl : d5.slotPut (2 + j) kb with ⟨eg, d6⟩
        rw [hpl] at hgi
        dsimp only at hgi
        obtain ⟨s7, ecr, hl7, hall7, hgone, hkept⟩ := gone_crash hgi keep (by omega) (by omega)
        clear hgi
        have hD4 : DkAt wr K g gs gm 8 m (DF s (-1)) := hD0
        have hT4 := hT
        have cC := clear_sl hD4 hT4.sl hT4.hh a ha (by decide) (by decide) hat4 (by omega)
        rw [hcl] at cC
        dsimp only at cC
        go_wp2_with (first
          | (go_at_call 13; (with_reducible refine cC.mono ?_); rintro e w5 ⟨K5, m5, rfl, hD5, hm5, hb5⟩
             have hT5 := hT4.but hb5
             have hrd : RdB (w5.alloc (.cells #[.int .u8 107, .int .u8 101, .int .u8 112, .int .u8 116] 5 (4, 5))) (w5.alloc (.cells #[.int .u8 107, .int .u8 101, .int .u8 112, .int .u8 116] 5 (4, 5))).heap.size (.slice (some ⟨w5.heap.size, 0, none⟩) 4 4) kb := hkb ▸ rd_const w5 [107, 101, 112, 116] (4, 5)
             have hgA : Gr w5 (w5.alloc (.cells #[.int .u8 107, .int .u8 101, .int .u8 112, .int .u8 116] 5 (4, 5))) := Gr.alloc _ _
             have hT5a := hT5.gr hgA
             have cP := put_sl (hD5.gr hgA) hT5a.sl hT5a.hh j hj4 (by decide) (by decide) (Nat.le_trans hle (by decide)) _ kb hrd (by omega)
             rw [hpl] at cP
             dsimp only at cP)
          | (go_at_call 12; (with_reducible refine cP.mono ?_); rintro e w6 ⟨K6, m6, rfl, hD6, hm6, hb6⟩
             have hT6 := hT5a.but hb6
             have hlow6 := hT6.low
             have hsz6 := hT6.below.size
             have cX := dk_crash hD6 keep (.slice kA kn kc) (fun b => b < w.heap.size) (fun b hb => ⟨Nat.lt_of_lt_of_le hb hsz6, fun hs => by have := hlow6 b hs; omega⟩) (hk.keep fun p hp => hT6.below.cell hp)
             rw [ecr] at cX
             have hby1 : w6.cell? ⟨w.heap.size, 1, none⟩ = some (.slice kA kn kc) := hT6.box.cell 1)
          | (go_at_call 16; (with_reducible refine cX.mono ?_); rintro e w7 ⟨rfl, hD7, hb7⟩
             have hT7 := hT6.but hb7
             have cI := dk_image hD7 (fun k hk => Nat.le_trans (Nat.le_of_eq (hall7 k hk)) (by decide)))
          | (go_at_call 17; (with_reducible refine cI.mono ?_); rintro e w8 ⟨iv, ivs, rfl, hio, hiw, hg8⟩
             obtain ⟨iA, ic, rfl, _, _⟩ := own_formD hio
             have hT8 := hT7.gr hg8)
          | (go_at_call 11; (with_reducible refine (num_s _ _).mono ?_); rintro e w9 ⟨rfl, rfl⟩))
        clear hcl hpl ecr hD0 hall hle hat4 hbx0 hbx1 hcv hl40
        by_cases hef : ef = 0
        · subst hef
          rcases hio.2 with ⟨_, h0⟩ | ⟨pb, cap, cur, e, e2, e3, _⟩
          · exact absurd h0 (by decide)
          · injection e with e
            subst e
            have hpl2 : pb < w8.heap.size := (Array.getElem?_eq_some_iff.1 e3).1
            obtain ⟨u, hu⟩ : ∃ u, ivs[2 + a]? = some u := ⟨_, List.getElem?_eq_getElem (by rw [hio.1]; omega)⟩
            have hc := World.ownsRow.cells hio rfl (2 + a) u hu
            have hou := hiw (2 + a) u _ (by omega) hu (hgone rfl)
            obtain ⟨uA, uc, eu, _⟩ := hou.rdD
            subst eu
            have hur := hou.rdD
            rw [zerosS_len] at hur hc
            refine reg20_gone w8 a ic ⟨pb, 0, none⟩ uA uc ha hpl2 hc hur _ _ _ _ _ _ _ _ _ _ _ _ _ _ _ _ _ _ _ _ _ _ _ _ _ _ _ _ _ _ _ _ _ _ _ _ _ _ _ _ _ _ _ _ _ _ _ _ _ _ _ _ _ _ _ _ _ _ _ _ _ _ _ _ _ _ _ _ _ _ _ _ _ _ _ _ _ _ _ _ _ _ _ _ _ _ _ _ _ _ _ _ _ _ _ _ _ _ _ _ _ _ _ _ _ _ _ _ _ _ _ _ _ _ _ _ _ _ _ _ _ _ _ _ _ ?_
            intro vals W9 hg9 e12
            rw [e12]
            clear hio hiw hu hc hou hur
            by_cases heg : eg = 0
            · subst heg
              have hk7 : s7.getD (2 + j) [] = secS 4 kb := by rw [List.getD_eq_getElem?_getD, hkept rfl]; rfl
              have cG := get_dq (hD7.gr (Gr.trans hg8 hg9)) (hT8.gr hg9).sl j (j : Int) rfl hj4 (by decide) (by decide) (by omega) kb hkl4 hk7
              rw [hkb] at cG
              go_wp2_with (first
                | (go_at_call 6; (with_reducible refine cG.mono ?_); rintro e w10 ⟨⟨x, rfl, hx⟩, hg10⟩
                   have hst := str_rdS hx.rdD)
                | (go_at_call 11; (with_reducible refine (num_s _ _).mono ?_); rintro e w12 ⟨rfl, rfl⟩)
                | (go_at_call 5; (with_reducible refine (live_s _).mono ?_); rintro e w11 ⟨rfl, hg11⟩))
              go_ret
              exact ⟨rfl, Below.trans hT8.below (Below.mono (Gr.trans hg9 (Gr.trans hg10 hg11)) hT8.below.size)⟩
            · have cG := get_any_dq (hD7.gr (Gr.trans hg8 hg9)) (hT8.gr hg9).sl j (j : Int) rfl hj4 (by decide) (by decide) (by omega) hall7
              have dge : ((eg : Int) != 0) = true := by rw [bne_iff_ne]; exact heg
              go_wp2_with (first
                | (go_at_call 6; (with_reducible refine cG.mono ?_); rintro e w10 ⟨⟨A10, k10, c10, q10, rfl⟩, hg10⟩)
                | (go_at_call 11; (with_reducible refine (num_s _ _).mono ?_); rintro e w12 ⟨rfl, rfl⟩)
                | (go_at_call 5; (with_reducible refine (live_s _).mono ?_); rintro e w11 ⟨rfl, hg11⟩))
              go_ret
              exact ⟨rfl, Below.trans hT8.below (Below.mono (Gr.trans hg9 (Gr.trans hg10 hg11)) hT8.below.size)⟩
        · refine reg20_else w8 a ic iA ef hef _ _ _ _ _ _ _ _ _ _ _ _ _ _ _ _ _ _ _ _ _ _ _ _ _ _ _ _ _ _ _ _ _ _ _ _ _ _ _ _ _ _ _ _ _ _ _ _ _ _ _ _ _ _ _ _ _ _ _ _ _ _ _ _ _ _ _ _ _ _ _ _ _ _ _ _ _ _ _ _ _ _ _ _ _ _ _ _ _ _ _ _ _ _ _ _ _ _ _ _ _ _ _ _ _ _ _ _ _ _ _ _ _ _ _ _ _ _ _ _ _ _ _ _ _ ?_
          intro vals W9 hg9 e12
          rw [e12]
          clear hio hiw
          by_cases heg : eg = 0
          · subst heg
            have hk7 : s7.getD (2 + j) [] = secS 4 kb := by rw [List.getD_eq_getElem?_getD, hkept rfl]; rfl
            have cG := get_dq (hD7.gr (Gr.trans hg8 hg9)) (hT8.gr hg9).sl j (j : Int) rfl hj4 (by decide) (by decide) (by omega) kb hkl4 hk7
            rw [hkb] at cG
            go_wp2_with (first
              | (go_at_call 6; (with_reducible refine cG.mono ?_); rintro e w10 ⟨⟨x, rfl, hx⟩, hg10⟩
                 have hst := str_rdS hx.rdD)
              | (go_at_call 11; (with_reducible refine (num_s _ _).mono ?_); rintro e w12 ⟨rfl, rfl⟩)
              | (go_at_call 5; (with_reducible refine (live_s _).mono ?_); rintro e w11 ⟨rfl, hg11⟩))
            go_ret
            exact ⟨rfl, Below.trans hT8.below (Below.mono (Gr.trans hg9 (Gr.trans hg10 hg11)) hT8.below.size)⟩
          · have cG := get_any_dq (hD7.gr (Gr.trans hg8 hg9)) (hT8.gr hg9).sl j (j : Int) rfl hj4 (by decide) (by decide) (by omega) hall7
            have dge : ((eg : Int) != 0) = true := by rw [bne_iff_ne]; exact heg
            go_wp2_with (first
              | (go_at_call 6; (with_reducible refine cG.mono ?_); rintro e w10 ⟨⟨A10, k10, c10, q10, rfl⟩, hg10⟩)
              | (go_at_call 11; (with_reducible refine (num_s _ _).mono ?_); rintro e w12 ⟨rfl, rfl⟩)
              | (go_at_call 5; (with_reducible refine (live_s _).mono ?_); rintro e w11 ⟨rfl, hg11⟩))
            go_ret
            exact ⟨rfl, Below.trans hT8.below (Below.mono (Gr.trans hg9 (Gr.trans hg10 hg11)) hT8.below.size)⟩
end Go.Proofs.YtlbldmpiaebeeaaDoor
