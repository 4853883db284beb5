/- Slots: a region of the law SlotGone: is the sector zero behind a Clear that is OK? -/
import Derived.Test.YtlbldmpiaebeeaaDoorSlD
import Derived.Test.YtlbldmpiaebeeaaDoorDkG
namespace Go.Proofs.YtlbldmpiaebeeaaDoor
open Go Go.RowKit

/-- A function's region by its number. -/
def regAt (k : Nat) : Code → Option Code
  | .region id ops d => if id == k then some (.region id ops d) else none
  | .seq a b => match regAt k a with
    | some c => some c
    | none => regAt k b
  | .cond _ a b => match regAt k a with
    | some c => some c
    | none => regAt k b
  | .block _ c => regAt k c
  | .loop c => regAt k c
  | .scope c => regAt k c
  | _ => none
noncomputable def reg20 : Code := ((Tryd.f4.body.bind (regAt 20)).getD .skip)
section
variable {P : Program} {ops : Array Oper} {Q : Exit → Act → World → Prop} {Fs : List Fact} {I : World → Prop} {spoil : Nat → Nat → Bool} {spoilI : Nat → Bool} {B : Nat} {F : (Nat → Value) → Act} {w0 : World}
/-- What a guard reads. -/
def guardV : Option Value → Option Bool
  | some (.bool b) => some b
  | _ => none
theorem yielded_as (tmps : Array Value) (j : Nat) : yielded ops tmps j = guardV (((ops[j]?).bind (·.dst)).bind (tmps[·]?)) := by
  unfold yielded guardV
  rfl
/-- One operation's step, where its guard does not want it. -/
theorem step_un (i j : Nat) (b : Bool) (o : Oper) (v : Value) (ho : ops[i]? = some o) (hg : o.guard = some (j, b)) (hf : Fs[i]? = some (.is undef)) (hfj : Fs[j]? = some (.is v)) (hd : (depB ops i j && okB ops (fun k => spoil k j) i) = true)
    (hy : ∀ vals, ((ops[j]?).bind (·.dst)).bind ((F vals).tmps[·]?) = some (vals j)) (hv : (guardV (some v) == some b) = false) : StepF P ops Q Fs I spoil spoilI B F w0 i := by
  intro o' f' ho' hf' vals w _ _ _ hfs K hK
  rw [ho] at ho'
  obtain rfl := Option.some.inj ho'
  rw [hf] at hf'
  obtain rfl := Option.some.inj hf'
  rw [Bool.and_eq_true] at hd
  have e : vals j = v := hfs j _ hd.1 hd.2 hfj
  have hw : Region.wanted o (yielded ops (F vals).tmps) = false := by
    unfold Region.wanted
    rw [hg]
    show (yielded ops (F vals).tmps j == some b) = false
    rw [yielded_as, hy, e, hv]
  rw [hw, if_neg (by decide)]
  exact hK undef w (Below.refl _ _) rfl (fun _ h => h) (fun _ _ _ _ _ _ h => h)
end
/-- The facts of a fresh sector of zeros. -/
def fZ : Fact := ⟨fun u W => ∃ b, u = .slice (some ⟨b, 0, none⟩) 256 256 ∧ Blk W b 5 (bvs (zerosS 256)).toArray, fun _ _ _ ⟨b, e, hb⟩ hg => ⟨b, e, hb.below hg hb.lt⟩⟩
set_option maxRecDepth 100000 in
set_option maxHeartbeats 8000000 in
theorem reg20_gone (w8 : World) (a ic : Nat) (iad : Addr) (uA : Option Addr) (uc : Nat) (ha : a < 4) (hib : iad.block < w8.heap.size) (hic : w8.cell? (iad.add (2 + a)) = some (.slice uA 256 uc)) (hu : RdB w8 w8.heap.size (.slice uA 256 uc) (zerosS 256))
    (u0 u2 u3 u4 u5 u6 u7 u8 u9 u10 u11 u13 u15 u16 u17 u18 u19 u20 u21 u22 u23 u24 u25 u26 u27 u28 u29 u30 u31 u32 u33 u34 u35 u36 u37 u38 u39 u40 u41 u42 u43 u44 u45 u46 u47 u48 u49 u50 u51 u52 u53 u54 u55 u56 u57 u58 u59 u60 u61 u62 u63 u64 u65 u66 u67 u68 u69 u70 u71 u72 u73 u74 u75 u76 u77 u78 u79 u80 u81 u82 u83 u84 u85 u86 u87 u88 u89 u90 u91 u92 u93 u94 u95 u96 u97 u98 u99 u100 u101 u102 u103 u104 u105 u106 u107 u108 u109 u110 u111 u112 u113 u114 u115 u116 u117 u118 u119 u120 u121 u122 u123 u124 u125 u126 : Value) (Q : Exit → Act → World → Prop)
    (hend : ∀ (vals : Nat → Value) (W : World), Gr w8 W → vals 12 = .bool false → Q .normal ⟨#[u0, (.int .i64 (a : Int)), u2, u3, u4, u5, u6, u7, u8, u9, u10, u11, (.int .i64 0), u13, (.slice (some iad) 8 ic), u15, u16, u17, u18, u19, u20, u21, u22, u23, u24, u25, u26, u27, u28, u29, u30, u31, u32, u33, u34, u35, u36, u37, u38, u39, u40, u41, u42, u43, u44, u45, u46, u47, u48, u49, u50, u51, u52, u53, u54, u55, u56, u57, u58, u59, u60, u61, u62, u63, u64, u65, u66, u67, u68, u69, u70, u71, u72, u73, u74, u75, u76, u77, u78, u79, u80, u81, u82, u83, u84, u85, u86, u87, u88, u89, (vals 0), (vals 1), (vals 2), (vals 3), (vals 4), (vals 5), (vals 6), (vals 7), (vals 8), (vals 9), (vals 10), (vals 11), (vals 12), u103, u104, u105, u106, u107, u108, u109, u110, u111, u112, u113, u114, u115, u116, u117, u118, u119, u120, u121, u122, u123, u124, u125, u126], []⟩ W) :
    reg20.wp Tryd.prog Q ⟨#[u0, (.int .i64 (a : Int)), u2, u3, u4, u5, u6, u7, u8, u9, u10, u11, (.int .i64 0), u13, (.slice (some iad) 8 ic), u15, u16, u17, u18, u19, u20, u21, u22, u23, u24, u25, u26, u27, u28, u29, u30, u31, u32, u33, u34, u35, u36, u37, u38, u39, u40, u41, u42, u43, u44, u45, u46, u47, u48, u49, u50, u51, u52, u53, u54, u55, u56, u57, u58, u59, u60, u61, u62, u63, u64, u65, u66, u67, u68, u69, u70, u71, u72, u73, u74, u75, u76, u77, u78, u79, u80, u81, u82, u83, u84, u85, u86, u87, u88, u89, u90, u91, u92, u93, u94, u95, u96, u97, u98, u99, u100, u101, u102, u103, u104, u105, u106, u107, u108, u109, u110, u111, u112, u113, u114, u115, u116, u117, u118, u119, u120, u121, u122, u123, u124, u125, u126], []⟩ w8 := by
  conv => arg 2; whnf
  have hmz := make_z
  refine wp_region_facts [.is (.int .i64 0), .is (.int .i64 0), .is (.bool true), .is (.bool true), .is (.slice (some iad) 8 ic), .is (.int .i64 (a : Int)), .is (.int .i64 (2 + (a : Int))), .is (.pointer (some (iad.add (2 + a)))), .is (.slice uA 256 uc), fZ, .is (.bool true), .is (.bool false), .is (.bool false)]
    (fun W => Gr w8 W) noS noSI w8.heap.size (by kernel_rfl) rfl (by kernel_rfl) (by kernel_rfl) (Nat.le_refl _) (Gr.drew _) (F := fun vals => ⟨#[u0, (.int .i64 (a : Int)), u2, u3, u4, u5, u6, u7, u8, u9, u10, u11, (.int .i64 0), u13, (.slice (some iad) 8 ic), u15, u16, u17, u18, u19, u20, u21, u22, u23, u24, u25, u26, u27, u28, u29, u30, u31, u32, u33, u34, u35, u36, u37, u38, u39, u40, u41, u42, u43, u44, u45, u46, u47, u48, u49, u50, u51, u52, u53, u54, u55, u56, u57, u58, u59, u60, u61, u62, u63, u64, u65, u66, u67, u68, u69, u70, u71, u72, u73, u74, u75, u76, u77, u78, u79, u80, u81, u82, u83, u84, u85, u86, u87, u88, u89, (vals 0), (vals 1), (vals 2), (vals 3), (vals 4), (vals 5), (vals 6), (vals 7), (vals 8), (vals 9), (vals 10), (vals 11), (vals 12), u103, u104, u105, u106, u107, u108, u109, u110, u111, u112, u113, u114, u115, u116, u117, u118, u119, u120, u121, u122, u123, u124, u125, u126], []⟩) (fun vals => by kernel_rfl) ?_ ?_
  · intro q hqn
    replace hqn : q < 13 := hqn
    clear hend
    have hI : ∀ W W', Gr w8 W → Gr W W' → Gr w8 W' := fun W W' hp hg => Gr.trans hp hg
    rcases (by omega : q = 0 ∨ q = 1 ∨ q = 2 ∨ q = 3 ∨ q = 4 ∨ q = 5 ∨ q = 6 ∨ q = 7 ∨ q = 8 ∨ q = 9 ∨ q = 10 ∨ q = 11 ∨ q = 12) with rfl | rfl | rfl | rfl | rfl | rfl | rfl | rfl | rfl | rfl | rfl | rfl | rfl
    · refine step_g 0 [] _ _ rfl rfl hI (by kernel_rfl) fun vals W hb_ hB_ hIw hd => ?_
      go_wp2
      exact ⟨rfl, _, rfl, Gr.refl _, rfl⟩
    · refine step_g 1 [0] _ _ rfl rfl hI (by kernel_rfl) fun vals W hb_ hB_ hIw hd => ?_
      have e0 : vals 0 = _ := hd 0 (by simp) _ rfl
      rw [e0]
      go_wp2_with (go_at_call 11; (with_reducible refine (num_s _ _).mono ?_); rintro e w9 ⟨rfl, rfl⟩)
      exact ⟨rfl, _, rfl, Gr.refl _, rfl⟩
    · refine step_g 2 [1] _ _ rfl rfl hI (by kernel_rfl) fun vals W hb_ hB_ hIw hd => ?_
      have e1 : vals 1 = _ := hd 1 (by simp) _ rfl
      rw [e1]
      go_wp2
      exact ⟨rfl, _, rfl, Gr.refl _, rfl⟩
    · refine step_g 3 [2] _ _ rfl rfl hI (by kernel_rfl) fun vals W hb_ hB_ hIw hd => ?_
      have e2 : vals 2 = _ := hd 2 (by simp) _ rfl
      rw [e2]
      go_wp2
      exact ⟨rfl, _, rfl, Gr.refl _, rfl⟩
    · refine step_g 4 [3] _ _ rfl rfl hI (by kernel_rfl) fun vals W hb_ hB_ hIw hd => ?_
      have e3 : vals 3 = _ := hd 3 (by simp) _ rfl
      rw [e3]
      go_wp2
      exact ⟨rfl, _, rfl, Gr.refl _, rfl⟩
    · refine step_g 5 [3] _ _ rfl rfl hI (by kernel_rfl) fun vals W hb_ hB_ hIw hd => ?_
      have e3 : vals 3 = _ := hd 3 (by simp) _ rfl
      rw [e3]
      go_wp2
      exact ⟨rfl, _, rfl, Gr.refl _, rfl⟩
    · refine step_g 6 [3, 5] _ _ rfl rfl hI (by kernel_rfl) fun vals W hb_ hB_ hIw hd => ?_
      have e3 : vals 3 = _ := hd 3 (by simp) _ rfl
      have e5 : vals 5 = _ := hd 5 (by simp) _ rfl
      rw [e3, e5]
      go_wp2
      exact ⟨rfl, _, rfl, Gr.refl _, rfl⟩
    · refine step_g 7 [3, 4, 6] _ _ rfl rfl hI (by kernel_rfl) fun vals W hb_ hB_ hIw hd => ?_
      have e3 : vals 3 = _ := hd 3 (by simp) _ rfl
      have e4 : vals 4 = _ := hd 4 (by simp) _ rfl
      have e6 : vals 6 = _ := hd 6 (by simp) _ rfl
      rw [e3, e4, e6]
      go_wp2
      exact ⟨rfl, _, rfl, Gr.refl _, rfl⟩
    · refine step_g 8 [3, 7] _ _ rfl rfl hI (by kernel_rfl) fun vals W hb_ hB_ hIw hd => ?_
      have e3 : vals 3 = _ := hd 3 (by simp) _ rfl
      have e7 : vals 7 = _ := hd 7 (by simp) _ rfl
      rw [e3, e7]
      have hq := ((hIw (by kernel_rfl)).cell (p := iad.add (2 + a)) (by rw [block_of_add]; exact hib)).trans hic
      go_wp2
      exact ⟨rfl, _, rfl, Gr.refl _, rfl⟩
    · refine step_g 9 [3] _ _ rfl rfl hI (by kernel_rfl) fun vals W hb_ hB_ hIw hd => ?_
      have e3 : vals 3 = _ := hd 3 (by simp) _ rfl
      rw [e3]
      go_wp2
      exact ⟨rfl, _, rfl, Gr.alloc _ _, ⟨_, rfl, Blk.new W _ _⟩⟩
    · refine step_g 10 [3, 8, 9] _ _ rfl rfl hI (by kernel_rfl) fun vals W hb_ hB_ hIw hd => ?_
      have e3 : vals 3 = _ := hd 3 (by simp) _ rfl
      have e8 : vals 8 = _ := hd 8 (by simp) _ rfl
      obtain ⟨b9, e9, hB9⟩ := (show ∃ b, vals 9 = .slice (some ⟨b, 0, none⟩) 256 256 ∧ Blk W b 5 (bvs (zerosS 256)).toArray from hd 9 (by simp) _ rfl)
      rw [e3, e8, e9]
      have hgW := hIw (by kernel_rfl)
      have cS := same_d W W.heap.size _ _ (zerosS 256) (zerosS 256) (Nat.le_refl _) ((hu.gr (Nat.le_refl _) hgW).more hgW.size) (rd_zeros hB9) (by rw [zerosS_len]; decide)
      rw [decide_eq_true (rfl : zerosS 256 = zerosS 256)] at cS
      go_wp2_with (go_at_call 18; (with_reducible refine cS.mono ?_); rintro e w2 ⟨rfl, hg2⟩)
      exact ⟨rfl, _, rfl, hg2, rfl⟩
    · refine step_g 11 [3, 10] _ _ rfl rfl hI (by kernel_rfl) fun vals W hb_ hB_ hIw hd => ?_
      have e3 : vals 3 = _ := hd 3 (by simp) _ rfl
      have e10 : vals 10 = _ := hd 10 (by simp) _ rfl
      rw [e3, e10]
      go_wp2
      exact ⟨rfl, _, rfl, Gr.refl _, rfl⟩
    · refine step_g 12 [3, 11] _ _ rfl rfl hI (by kernel_rfl) fun vals W hb_ hB_ hIw hd => ?_
      have e3 : vals 3 = _ := hd 3 (by simp) _ rfl
      have e11 : vals 11 = _ := hd 11 (by simp) _ rfl
      rw [e3, e11]
      go_wp2
      exact ⟨rfl, _, rfl, Gr.refl _, rfl⟩
  · intro vals W7 hb7 hfs
    exact hend vals W7 hb7 (hfs 12 _ rfl (fun k hk => rfl))
set_option maxRecDepth 100000 in
set_option maxHeartbeats 8000000 in
theorem reg20_else (w8 : World) (a ic : Nat) (iA : Option Addr) (ef : Int) (he : ef ≠ 0)
    (u0 u2 u3 u4 u5 u6 u7 u8 u9 u10 u11 u13 u15 u16 u17 u18 u19 u20 u21 u22 u23 u24 u25 u26 u27 u28 u29 u30 u31 u32 u33 u34 u35 u36 u37 u38 u39 u40 u41 u42 u43 u44 u45 u46 u47 u48 u49 u50 u51 u52 u53 u54 u55 u56 u57 u58 u59 u60 u61 u62 u63 u64 u65 u66 u67 u68 u69 u70 u71 u72 u73 u74 u75 u76 u77 u78 u79 u80 u81 u82 u83 u84 u85 u86 u87 u88 u89 u90 u91 u92 u93 u94 u95 u96 u97 u98 u99 u100 u101 u102 u103 u104 u105 u106 u107 u108 u109 u110 u111 u112 u113 u114 u115 u116 u117 u118 u119 u120 u121 u122 u123 u124 u125 u126 : Value) (Q : Exit → Act → World → Prop)
    (hend : ∀ (vals : Nat → Value) (W : World), Gr w8 W → vals 12 = .bool false → Q .normal ⟨#[u0, (.int .i64 (a : Int)), u2, u3, u4, u5, u6, u7, u8, u9, u10, u11, (.int .i64 ef), u13, (.slice iA 8 ic), u15, u16, u17, u18, u19, u20, u21, u22, u23, u24, u25, u26, u27, u28, u29, u30, u31, u32, u33, u34, u35, u36, u37, u38, u39, u40, u41, u42, u43, u44, u45, u46, u47, u48, u49, u50, u51, u52, u53, u54, u55, u56, u57, u58, u59, u60, u61, u62, u63, u64, u65, u66, u67, u68, u69, u70, u71, u72, u73, u74, u75, u76, u77, u78, u79, u80, u81, u82, u83, u84, u85, u86, u87, u88, u89, (vals 0), (vals 1), (vals 2), (vals 3), (vals 4), (vals 5), (vals 6), (vals 7), (vals 8), (vals 9), (vals 10), (vals 11), (vals 12), u103, u104, u105, u106, u107, u108, u109, u110, u111, u112, u113, u114, u115, u116, u117, u118, u119, u120, u121, u122, u123, u124, u125, u126], []⟩ W) :
    reg20.wp Tryd.prog Q ⟨#[u0, (.int .i64 (a : Int)), u2, u3, u4, u5, u6, u7, u8, u9, u10, u11, (.int .i64 ef), u13, (.slice iA 8 ic), u15, u16, u17, u18, u19, u20, u21, u22, u23, u24, u25, u26, u27, u28, u29, u30, u31, u32, u33, u34, u35, u36, u37, u38, u39, u40, u41, u42, u43, u44, u45, u46, u47, u48, u49, u50, u51, u52, u53, u54, u55, u56, u57, u58, u59, u60, u61, u62, u63, u64, u65, u66, u67, u68, u69, u70, u71, u72, u73, u74, u75, u76, u77, u78, u79, u80, u81, u82, u83, u84, u85, u86, u87, u88, u89, u90, u91, u92, u93, u94, u95, u96, u97, u98, u99, u100, u101, u102, u103, u104, u105, u106, u107, u108, u109, u110, u111, u112, u113, u114, u115, u116, u117, u118, u119, u120, u121, u122, u123, u124, u125, u126], []⟩ w8 := by
  conv => arg 2; whnf
  have he0 : ((ef : Int) == 0) = false := by rw [beq_eq_false_iff_ne]; exact he
  refine wp_region_facts [.is (.int .i64 ef), .is (.int .i64 ef), .is (.bool false), .is (.bool false), .is undef, .is undef, .is undef, .is undef, .is undef, .is undef, .is undef, .is undef, .is (.bool false)]
    (fun W => Gr w8 W) noS noSI w8.heap.size (by kernel_rfl) rfl (by kernel_rfl) (by kernel_rfl) (Nat.le_refl _) (Gr.drew _) (F := fun vals => ⟨#[u0, (.int .i64 (a : Int)), u2, u3, u4, u5, u6, u7, u8, u9, u10, u11, (.int .i64 ef), u13, (.slice iA 8 ic), u15, u16, u17, u18, u19, u20, u21, u22, u23, u24, u25, u26, u27, u28, u29, u30, u31, u32, u33, u34, u35, u36, u37, u38, u39, u40, u41, u42, u43, u44, u45, u46, u47, u48, u49, u50, u51, u52, u53, u54, u55, u56, u57, u58, u59, u60, u61, u62, u63, u64, u65, u66, u67, u68, u69, u70, u71, u72, u73, u74, u75, u76, u77, u78, u79, u80, u81, u82, u83, u84, u85, u86, u87, u88, u89, (vals 0), (vals 1), (vals 2), (vals 3), (vals 4), (vals 5), (vals 6), (vals 7), (vals 8), (vals 9), (vals 10), (vals 11), (vals 12), u103, u104, u105, u106, u107, u108, u109, u110, u111, u112, u113, u114, u115, u116, u117, u118, u119, u120, u121, u122, u123, u124, u125, u126], []⟩) (fun vals => by kernel_rfl) ?_ ?_
  · intro q hqn
    replace hqn : q < 13 := hqn
    clear hend
    have hI : ∀ W W', Gr w8 W → Gr W W' → Gr w8 W' := fun W W' hp hg => Gr.trans hp hg
    rcases (by omega : q = 0 ∨ q = 1 ∨ q = 2 ∨ q = 3 ∨ q = 4 ∨ q = 5 ∨ q = 6 ∨ q = 7 ∨ q = 8 ∨ q = 9 ∨ q = 10 ∨ q = 11 ∨ q = 12) with rfl | rfl | rfl | rfl | rfl | rfl | rfl | rfl | rfl | rfl | rfl | rfl | rfl
    · refine step_g 0 [] _ _ rfl rfl hI (by kernel_rfl) fun vals W hb_ hB_ hIw hd => ?_
      go_wp2
      exact ⟨rfl, _, rfl, Gr.refl _, rfl⟩
    · refine step_g 1 [0] _ _ rfl rfl hI (by kernel_rfl) fun vals W hb_ hB_ hIw hd => ?_
      have e0 : vals 0 = _ := hd 0 (by simp) _ rfl
      rw [e0]
      go_wp2_with (go_at_call 11; (with_reducible refine (num_s _ _).mono ?_); rintro e w9 ⟨rfl, rfl⟩)
      exact ⟨rfl, _, rfl, Gr.refl _, rfl⟩
    · refine step_g 2 [1] _ _ rfl rfl hI (by kernel_rfl) fun vals W hb_ hB_ hIw hd => ?_
      have e1 : vals 1 = _ := hd 1 (by simp) _ rfl
      rw [e1]
      go_wp2
      exact ⟨rfl, _, rfl, Gr.refl _, rfl⟩
    · refine step_g 3 [2] _ _ rfl rfl hI (by kernel_rfl) fun vals W hb_ hB_ hIw hd => ?_
      have e2 : vals 2 = _ := hd 2 (by simp) _ rfl
      rw [e2]
      go_wp2
      exact ⟨rfl, _, rfl, Gr.refl _, rfl⟩
    · exact step_un 4 3 true _ _ rfl rfl rfl rfl (by kernel_rfl) (fun vals => by kernel_rfl) rfl
    · exact step_un 5 3 true _ _ rfl rfl rfl rfl (by kernel_rfl) (fun vals => by kernel_rfl) rfl
    · exact step_un 6 3 true _ _ rfl rfl rfl rfl (by kernel_rfl) (fun vals => by kernel_rfl) rfl
    · exact step_un 7 3 true _ _ rfl rfl rfl rfl (by kernel_rfl) (fun vals => by kernel_rfl) rfl
    · exact step_un 8 3 true _ _ rfl rfl rfl rfl (by kernel_rfl) (fun vals => by kernel_rfl) rfl
    · exact step_un 9 3 true _ _ rfl rfl rfl rfl (by kernel_rfl) (fun vals => by kernel_rfl) rfl
    · exact step_un 10 3 true _ _ rfl rfl rfl rfl (by kernel_rfl) (fun vals => by kernel_rfl) rfl
    · exact step_un 11 3 true _ _ rfl rfl rfl rfl (by kernel_rfl) (fun vals => by kernel_rfl) rfl
    · refine step_g 12 [3, 11] _ _ rfl rfl hI (by kernel_rfl) fun vals W hb_ hB_ hIw hd => ?_
      have e3 : vals 3 = _ := hd 3 (by simp) _ rfl
      have e11 : vals 11 = _ := hd 11 (by simp) _ rfl
      rw [e3, e11]
      go_wp2
      exact ⟨rfl, _, rfl, Gr.refl _, rfl⟩
  · intro vals W7 hb7 hfs
    exact hend vals W7 hb7 (hfs 12 _ rfl (fun k hk => rfl))
end Go.Proofs.YtlbldmpiaebeeaaDoor
