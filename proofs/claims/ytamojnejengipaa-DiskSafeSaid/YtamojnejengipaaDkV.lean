/- Disks: the test of one sector in the law DiskSafe: a region of 42 operations, by its three cases. -/
import Derived.Test.YtamojnejengipaaDkR
import Derived.RegionTactic
import Derived.ChangeAlike
namespace Go.Proofs.Ytamojnejengipaa
open Go Go.RowKit Go.Maps Go.MapKept Go.ChangeMaps

/-- A function's region by its number. -/
def regFind (k : Nat) : Code → Option Code
  | .region id ops d => if id == k then some (.region id ops d) else none
  | .seq a b => match regFind k a with
    | some c => some c
    | none => regFind k b
  | .cond _ a b => match regFind k a with
    | some c => some c
    | none => regFind k b
  | .block _ c => regFind k c
  | .loop c => regFind k c
  | .scope c => regFind k c
  | _ => none
noncomputable def reg28 : Code := ((Try.f3.body.bind (regFind 28)).getD .skip)
section
variable {P : Program} {ops : Array Oper} {Q : Exit → Act → World → Prop} {Fs : List Fact} {I : World → Prop} {spoil : Nat → Nat → Bool} {spoilI : Nat → Bool} {B : Nat} {F : (Nat → Value) → Act} {w0 : World}
/-- What a guard reads. -/
def guardB : Option Value → Option Bool
  | some (.bool b) => some b
  | _ => none
theorem yielded_at (tmps : Array Value) (j : Nat) : yielded ops tmps j = guardB (((ops[j]?).bind (·.dst)).bind (tmps[·]?)) := by
  unfold yielded guardB
  rfl
/-- One operation's step, where its guard does not want it. -/
theorem step_u (i j : Nat) (b : Bool) (o : Oper) (v : Value) (ho : ops[i]? = some o) (hg : o.guard = some (j, b)) (hf : Fs[i]? = some (.is undef)) (hfj : Fs[j]? = some (.is v)) (hd : (depB ops i j && okB ops (fun k => spoil k j) i) = true)
    (hy : ∀ vals, ((ops[j]?).bind (·.dst)).bind ((F vals).tmps[·]?) = some (vals j)) (hv : (guardB (some v) == some b) = false) : StepF P ops Q Fs I spoil spoilI B F w0 i := by
  intro o' f' ho' hf' vals w _ _ _ hfs K hK
  rw [ho] at ho'
  obtain rfl := Option.some.inj ho'
  rw [hf] at hf'
  obtain rfl := Option.some.inj hf'
  rw [Bool.and_eq_true] at hd
  have e : vals j = v := hfs j _ hd.1 hd.2 hfj
  have hw : Region.wanted o (yielded ops (F vals).tmps) = false := by
    unfold Region.wanted
    rw [hg]
    show (yielded ops (F vals).tmps j == some b) = false
    rw [yielded_at, hy, e, hv]
  rw [hw, if_neg (by decide)]
  exact hK undef w (Below.refl _ _) rfl (fun _ h => h) (fun _ _ _ _ _ _ h => h)
end
/-- The facts of a fresh full sector. -/
def fS (s : UInt8) : Fact := ⟨fun u W => ∃ b, u = .slice (some ⟨b, 0, none⟩) 256 256 ∧ Blk W b 5 (fillS s 256), fun _ _ _ ⟨b, e, hb⟩ hg => ⟨b, e, hb.below hg hb.lt⟩⟩
theorem same_yes (W : World) (a b : Value) (l : List UInt8) (ha : RdB W W.heap.size a l) (hb : RdB W W.heap.size b l) (hl : l.length = 256) : Calls Try.prog 15 #[a, b] W fun e w' => e = .returned (.bool true) ∧ Gr W w' := by
  have h := same_d W W.heap.size a b l l (Nat.le_refl _) ha hb (by omega)
  rwa [show decide (l = l) = true from decide_eq_true rfl] at h
theorem same_no (W : World) (a b : Value) (l m : List UInt8) (hne : l ≠ m) (ha : RdB W W.heap.size a l) (hb : RdB W W.heap.size b m) (hl : l.length = 256) : Calls Try.prog 15 #[a, b] W fun e w' => e = .returned (.bool false) ∧ Gr W w' := by
  have h := same_d W W.heap.size a b l m (Nat.le_refl _) ha hb (by omega)
  rwa [show decide (l = m) = false from decide_eq_false hne] at h
set_option maxRecDepth 100000 in
set_option maxHeartbeats 8000000 in
theorem reg28_wait (w5 : World) (gx xc sc bl i bse : Nat) (sad : Addr) (si ti : UInt8) (hi9 : i < 9)
    (hxr : OwnB w5 bse (.slice (some ⟨gx, 0, none⟩) 256 xc) (fullS si)) (hsad5 : (sad.add i).block < w5.heap.size) (hcs5 : w5.cell? (sad.add i) = some (.int .u8 (si.toNat : Int))) (_hbl5 : bl < w5.heap.size) (_hct5 : w5.cell? ⟨bl, i, none⟩ = some (.int .u8 (ti.toNat : Int)))
    (u0 u1 u2 u3 u4 u5 u6 u9 u10 u11 u16 u17 u18 u19 u20 u21 u22 u23 u24 u25 u26 u27 u28 u29 u30 u31 u32 u33 u34 u35 u36 u37 u38 u39 u40 u41 u42 u43 u44 u45 u46 u47 u48 u49 u50 u51 u52 u53 u54 u55 u56 u57 u58 u59 u60 u61 u62 u63 u64 u65 u66 u67 u68 u69 u70 u71 u72 u73 u74 u75 u76 u77 u78 u79 u80 u81 u82 u83 u84 u85 u86 u87 u88 u89 u90 u91 u92 u93 u94 u95 u96 u97 u98 u99 u100 u101 u102 u103 u104 u105 u106 u107 u108 u109 u110 u111 u112 u113 u114 u115 u116 u117 u118 u119 u120 u121 u122 u123 u124 u125 u126 u127 u128 u129 u130 u131 u132 u133 u134 u135 u136 u137 u138 u139 u140 u141 u142 u143 u144 u145 u146 u147 u148 u149 u150 u151 u152 u153 u154 u155 u156 u157 u158 u159 u160 u161 u162 : Value) (Q : Exit → Act → World → Prop)
    (hend : ∀ (vals : Nat → Value) (W : World), Gr w5 W → vals 41 = .bool false → Q .normal ⟨#[u0, u1, u2, u3, u4, u5, u6, (.slice (some sad) 9 sc), (.slice (some ⟨bl, 0, none⟩) 9 9), u9, u10, u11, (.int .i64 i), (.slice (some ⟨gx, 0, none⟩) 256 xc), (.int .i64 0), (.bool true), u16, u17, u18, u19, u20, u21, u22, u23, u24, u25, u26, u27, u28, u29, u30, u31, u32, u33, u34, u35, u36, u37, u38, u39, u40, u41, u42, u43, u44, u45, u46, u47, u48, u49, u50, u51, u52, u53, u54, u55, u56, u57, u58, u59, u60, u61, u62, u63, u64, u65, u66, u67, u68, u69, u70, u71, u72, u73, u74, u75, u76, u77, u78, u79, u80, u81, u82, u83, u84, u85, u86, u87, u88, u89, u90, u91, u92, u93, u94, u95, u96, u97, u98, u99, u100, u101, u102, u103, u104, u105, u106, u107, u108, (vals 0), (vals 1), (vals 2), (vals 3), (vals 4), (vals 5), (vals 6), (vals 7), (vals 8), (vals 9), (vals 10), (vals 11), (vals 12), (vals 13), (vals 14), (vals 15), (vals 16), (vals 17), (vals 18), (vals 19), (vals 20), (vals 21), (vals 22), (vals 23), (vals 24), (vals 25), (vals 26), (vals 27), (vals 28), (vals 29), (vals 30), (vals 31), (vals 32), (vals 33), (vals 34), (vals 35), (vals 36), (vals 37), (vals 38), (vals 39), (vals 40), (vals 41), u151, u152, u153, u154, u155, u156, u157, u158, u159, u160, u161, u162], []⟩ W) :
    reg28.wp Try.prog Q ⟨#[u0, u1, u2, u3, u4, u5, u6, (.slice (some sad) 9 sc), (.slice (some ⟨bl, 0, none⟩) 9 9), u9, u10, u11, (.int .i64 i), (.slice (some ⟨gx, 0, none⟩) 256 xc), (.int .i64 0), (.bool true), u16, u17, u18, u19, u20, u21, u22, u23, u24, u25, u26, u27, u28, u29, u30, u31, u32, u33, u34, u35, u36, u37, u38, u39, u40, u41, u42, u43, u44, u45, u46, u47, u48, u49, u50, u51, u52, u53, u54, u55, u56, u57, u58, u59, u60, u61, u62, u63, u64, u65, u66, u67, u68, u69, u70, u71, u72, u73, u74, u75, u76, u77, u78, u79, u80, u81, u82, u83, u84, u85, u86, u87, u88, u89, u90, u91, u92, u93, u94, u95, u96, u97, u98, u99, u100, u101, u102, u103, u104, u105, u106, u107, u108, u109, u110, u111, u112, u113, u114, u115, u116, u117, u118, u119, u120, u121, u122, u123, u124, u125, u126, u127, u128, u129, u130, u131, u132, u133, u134, u135, u136, u137, u138, u139, u140, u141, u142, u143, u144, u145, u146, u147, u148, u149, u150, u151, u152, u153, u154, u155, u156, u157, u158, u159, u160, u161, u162], []⟩ w5 := by
  conv => arg 2; whnf
  refine wp_region_facts [.is (.int .i64 0), .is (.int .i64 0), .is (.bool false), .is (.bool false), .is (.slice (some ⟨gx, 0, none⟩) 256 xc), .is (.slice (some sad) 9 sc), .is (.int .i64 i), .is (.pointer (some (sad.add i))), .is (.int .u8 (si.toNat : Int)), fS si, .is (.bool true), .is (.bool false), .is (.bool false), .is undef, .is undef, .is undef, .is undef, .is undef, .is undef, .is undef, .is undef, .is undef, .is undef, .is undef, .is undef, .is (.bool false), .is (.bool false), .is (.bool false), .is (.bool true), .is (.bool false), .is (.bool false), .is undef, .is undef, .is undef, .is undef, .is undef, .is undef, .is undef, .is undef, .is undef, .is (.bool false), .is (.bool false)]
    (fun W => Gr w5 W) noS noSI w5.heap.size (by kernel_rfl) rfl (by kernel_rfl) (by kernel_rfl) (Nat.le_refl _) (Gr.drew _) (F := fun vals => ⟨#[u0, u1, u2, u3, u4, u5, u6, (.slice (some sad) 9 sc), (.slice (some ⟨bl, 0, none⟩) 9 9), u9, u10, u11, (.int .i64 i), (.slice (some ⟨gx, 0, none⟩) 256 xc), (.int .i64 0), (.bool true), u16, u17, u18, u19, u20, u21, u22, u23, u24, u25, u26, u27, u28, u29, u30, u31, u32, u33, u34, u35, u36, u37, u38, u39, u40, u41, u42, u43, u44, u45, u46, u47, u48, u49, u50, u51, u52, u53, u54, u55, u56, u57, u58, u59, u60, u61, u62, u63, u64, u65, u66, u67, u68, u69, u70, u71, u72, u73, u74, u75, u76, u77, u78, u79, u80, u81, u82, u83, u84, u85, u86, u87, u88, u89, u90, u91, u92, u93, u94, u95, u96, u97, u98, u99, u100, u101, u102, u103, u104, u105, u106, u107, u108, (vals 0), (vals 1), (vals 2), (vals 3), (vals 4), (vals 5), (vals 6), (vals 7), (vals 8), (vals 9), (vals 10), (vals 11), (vals 12), (vals 13), (vals 14), (vals 15), (vals 16), (vals 17), (vals 18), (vals 19), (vals 20), (vals 21), (vals 22), (vals 23), (vals 24), (vals 25), (vals 26), (vals 27), (vals 28), (vals 29), (vals 30), (vals 31), (vals 32), (vals 33), (vals 34), (vals 35), (vals 36), (vals 37), (vals 38), (vals 39), (vals 40), (vals 41), u151, u152, u153, u154, u155, u156, u157, u158, u159, u160, u161, u162], []⟩) (fun vals => by kernel_rfl) ?_ ?_
  · intro q hq
    replace hq : q < 42 := hq
    have hI : ∀ W W', Gr w5 W → Gr W W' → Gr w5 W' := fun W W' hp hg => Gr.trans hp hg
    clear hend
    rcases (by omega : q = 0 ∨ q = 1 ∨ q = 2 ∨ q = 3 ∨ q = 4 ∨ q = 5 ∨ q = 6 ∨ q = 7 ∨ q = 8 ∨ q = 9 ∨ q = 10 ∨ q = 11 ∨ q = 12 ∨ q = 13 ∨ q = 14 ∨ q = 15 ∨ q = 16 ∨ q = 17 ∨ q = 18 ∨ q = 19 ∨ q = 20 ∨ q = 21 ∨ q = 22 ∨ q = 23 ∨ q = 24 ∨ q = 25 ∨ q = 26 ∨ q = 27 ∨ q = 28 ∨ q = 29 ∨ q = 30 ∨ q = 31 ∨ q = 32 ∨ q = 33 ∨ q = 34 ∨ q = 35 ∨ q = 36 ∨ q = 37 ∨ q = 38 ∨ q = 39 ∨ q = 40 ∨ q = 41) with rfl | rfl | rfl | rfl | rfl | rfl | rfl | rfl | rfl | rfl | rfl | rfl | rfl | rfl | rfl | rfl | rfl | rfl | rfl | rfl | rfl | rfl | rfl | rfl | rfl | rfl | rfl | rfl | rfl | rfl | rfl | rfl | rfl | rfl | rfl | rfl | rfl | rfl | rfl | rfl | rfl | rfl
    · refine step_g 0 [] _ _ rfl rfl hI (by kernel_rfl) fun vals W hb_ hB_ hIw hd => ?_
      go_wp2
      exact ⟨rfl, _, rfl, Gr.refl _, rfl⟩
    · refine step_g 1 [0] _ _ rfl rfl hI (by kernel_rfl) fun vals W hb_ hB_ hIw hd => ?_
      have e0 : vals 0 = _ := hd 0 (by simp) _ rfl
      rw [e0]
      go_wp2_with (go_at_call 7; (with_reducible refine (num_d _ _).mono ?_); rintro e w9 ⟨rfl, rfl⟩)
      exact ⟨rfl, _, rfl, Gr.refl _, rfl⟩
    · refine step_g 2 [1] _ _ rfl rfl hI (by kernel_rfl) fun vals W hb_ hB_ hIw hd => ?_
      have e1 : vals 1 = _ := hd 1 (by simp) _ rfl
      rw [e1]
      go_wp2
      exact ⟨rfl, _, rfl, Gr.refl _, rfl⟩
    · refine step_g 3 [2] _ _ rfl rfl hI (by kernel_rfl) fun vals W hb_ hB_ hIw hd => ?_
      have e2 : vals 2 = _ := hd 2 (by simp) _ rfl
      rw [e2]
      go_wp2
      exact ⟨rfl, _, rfl, Gr.refl _, rfl⟩
    · refine step_g 4 [3] _ _ rfl rfl hI (by kernel_rfl) fun vals W hb_ hB_ hIw hd => ?_
      have e3 : vals 3 = _ := hd 3 (by simp) _ rfl
      rw [e3]
      go_wp2
      exact ⟨rfl, _, rfl, Gr.refl _, rfl⟩
    · refine step_g 5 [3] _ _ rfl rfl hI (by kernel_rfl) fun vals W hb_ hB_ hIw hd => ?_
      have e3 : vals 3 = _ := hd 3 (by simp) _ rfl
      rw [e3]
      go_wp2
      exact ⟨rfl, _, rfl, Gr.refl _, rfl⟩
    · refine step_g 6 [3] _ _ rfl rfl hI (by kernel_rfl) fun vals W hb_ hB_ hIw hd => ?_
      have e3 : vals 3 = _ := hd 3 (by simp) _ rfl
      rw [e3]
      go_wp2
      exact ⟨rfl, _, rfl, Gr.refl _, rfl⟩
    · refine step_g 7 [3, 5, 6] _ _ rfl rfl hI (by kernel_rfl) fun vals W hb_ hB_ hIw hd => ?_
      have e3 : vals 3 = _ := hd 3 (by simp) _ rfl
      have e5 : vals 5 = _ := hd 5 (by simp) _ rfl
      have e6 : vals 6 = _ := hd 6 (by simp) _ rfl
      rw [e3, e5, e6]
      go_wp2
      exact ⟨rfl, _, rfl, Gr.refl _, rfl⟩
    · refine step_g 8 [3, 7] _ _ rfl rfl hI (by kernel_rfl) fun vals W hb_ hB_ hIw hd => ?_
      have e3 : vals 3 = _ := hd 3 (by simp) _ rfl
      have e7 : vals 7 = _ := hd 7 (by simp) _ rfl
      rw [e3, e7]
      have hq := ((hIw (by kernel_rfl)).cell (p := sad.add i) hsad5).trans hcs5
      go_wp2
      exact ⟨rfl, _, rfl, Gr.refl _, rfl⟩
    · refine step_g 9 [3, 8] _ _ rfl rfl hI (by kernel_rfl) fun vals W hb_ hB_ hIw hd => ?_
      have e3 : vals 3 = _ := hd 3 (by simp) _ rfl
      have e8 : vals 8 = _ := hd 8 (by simp) _ rfl
      rw [e3, e8]
      go_wp2_with (go_at_call 9; (with_reducible refine (full_d si W).mono ?_); rintro e w2 ⟨rfl, hB2, hg2⟩)
      exact ⟨rfl, _, rfl, hg2, ⟨_, rfl, hB2⟩⟩
    · refine step_g 10 [3, 4, 9] _ _ rfl rfl hI (by kernel_rfl) fun vals W hb_ hB_ hIw hd => ?_
      have e3 : vals 3 = _ := hd 3 (by simp) _ rfl
      have e4 : vals 4 = _ := hd 4 (by simp) _ rfl
      obtain ⟨b9, e9, hB9⟩ := (show ∃ b, vals 9 = .slice (some ⟨b, 0, none⟩) 256 256 ∧ Blk W b 5 (fillS si 256) from hd 9 (by simp) _ rfl)
      rw [e3, e4, e9]
      have cS := same_yes W _ _ (fullS si) (hxr.gr (hIw (by kernel_rfl))).rdD (full_rd hB9) (fullS_len _)
      go_wp2_with (go_at_call 15; (with_reducible refine cS.mono ?_); rintro e w2 ⟨rfl, hg2⟩)
      exact ⟨rfl, _, rfl, hg2, rfl⟩
    · refine step_g 11 [3, 10] _ _ rfl rfl hI (by kernel_rfl) fun vals W hb_ hB_ hIw hd => ?_
      have e3 : vals 3 = _ := hd 3 (by simp) _ rfl
      have e10 : vals 10 = _ := hd 10 (by simp) _ rfl
      rw [e3, e10]
      go_wp2
      exact ⟨rfl, _, rfl, Gr.refl _, rfl⟩
    · refine step_g 12 [3, 11] _ _ rfl rfl hI (by kernel_rfl) fun vals W hb_ hB_ hIw hd => ?_
      have e3 : vals 3 = _ := hd 3 (by simp) _ rfl
      have e11 : vals 11 = _ := hd 11 (by simp) _ rfl
      rw [e3, e11]
      go_wp2
      exact ⟨rfl, _, rfl, Gr.refl _, rfl⟩
    · exact step_u 13 12 true _ _ rfl rfl rfl rfl (by kernel_rfl) (fun vals => by kernel_rfl) rfl
    · exact step_u 14 12 true _ _ rfl rfl rfl rfl (by kernel_rfl) (fun vals => by kernel_rfl) rfl
    · exact step_u 15 12 true _ _ rfl rfl rfl rfl (by kernel_rfl) (fun vals => by kernel_rfl) rfl
    · exact step_u 16 15 false _ _ rfl rfl rfl rfl (by kernel_rfl) (fun vals => by kernel_rfl) rfl
    · exact step_u 17 15 false _ _ rfl rfl rfl rfl (by kernel_rfl) (fun vals => by kernel_rfl) rfl
    · exact step_u 18 15 false _ _ rfl rfl rfl rfl (by kernel_rfl) (fun vals => by kernel_rfl) rfl
    · exact step_u 19 15 false _ _ rfl rfl rfl rfl (by kernel_rfl) (fun vals => by kernel_rfl) rfl
    · exact step_u 20 15 false _ _ rfl rfl rfl rfl (by kernel_rfl) (fun vals => by kernel_rfl) rfl
    · exact step_u 21 15 false _ _ rfl rfl rfl rfl (by kernel_rfl) (fun vals => by kernel_rfl) rfl
    · exact step_u 22 15 false _ _ rfl rfl rfl rfl (by kernel_rfl) (fun vals => by kernel_rfl) rfl
    · exact step_u 23 15 false _ _ rfl rfl rfl rfl (by kernel_rfl) (fun vals => by kernel_rfl) rfl
    · exact step_u 24 12 true _ _ rfl rfl rfl rfl (by kernel_rfl) (fun vals => by kernel_rfl) rfl
    · refine step_g 25 [3, 12, 24] _ _ rfl rfl hI (by kernel_rfl) fun vals W hb_ hB_ hIw hd => ?_
      have e3 : vals 3 = _ := hd 3 (by simp) _ rfl
      have e12 : vals 12 = _ := hd 12 (by simp) _ rfl
      have e24 : vals 24 = _ := hd 24 (by simp) _ rfl
      rw [e3, e12, e24]
      go_wp2
      exact ⟨rfl, _, rfl, Gr.refl _, rfl⟩
    · refine step_g 26 [3, 25] _ _ rfl rfl hI (by kernel_rfl) fun vals W hb_ hB_ hIw hd => ?_
      have e3 : vals 3 = _ := hd 3 (by simp) _ rfl
      have e25 : vals 25 = _ := hd 25 (by simp) _ rfl
      rw [e3, e25]
      go_wp2
      exact ⟨rfl, _, rfl, Gr.refl _, rfl⟩
    · refine step_g 27 [26] _ _ rfl rfl hI (by kernel_rfl) fun vals W hb_ hB_ hIw hd => ?_
      have e26 : vals 26 = _ := hd 26 (by simp) _ rfl
      rw [e26]
      go_wp2
      exact ⟨rfl, _, rfl, Gr.refl _, rfl⟩
    · refine step_g 28 [27] _ _ rfl rfl hI (by kernel_rfl) fun vals W hb_ hB_ hIw hd => ?_
      have e27 : vals 27 = _ := hd 27 (by simp) _ rfl
      rw [e27]
      go_wp2
      exact ⟨rfl, _, rfl, Gr.refl _, rfl⟩
    · refine step_g 29 [27, 28] _ _ rfl rfl hI (by kernel_rfl) fun vals W hb_ hB_ hIw hd => ?_
      have e27 : vals 27 = _ := hd 27 (by simp) _ rfl
      have e28 : vals 28 = _ := hd 28 (by simp) _ rfl
      rw [e27, e28]
      go_wp2
      exact ⟨rfl, _, rfl, Gr.refl _, rfl⟩
    · refine step_g 30 [27, 29] _ _ rfl rfl hI (by kernel_rfl) fun vals W hb_ hB_ hIw hd => ?_
      have e27 : vals 27 = _ := hd 27 (by simp) _ rfl
      have e29 : vals 29 = _ := hd 29 (by simp) _ rfl
      rw [e27, e29]
      go_wp2
      exact ⟨rfl, _, rfl, Gr.refl _, rfl⟩
    · exact step_u 31 30 true _ _ rfl rfl rfl rfl (by kernel_rfl) (fun vals => by kernel_rfl) rfl
    · exact step_u 32 30 true _ _ rfl rfl rfl rfl (by kernel_rfl) (fun vals => by kernel_rfl) rfl
    · exact step_u 33 30 true _ _ rfl rfl rfl rfl (by kernel_rfl) (fun vals => by kernel_rfl) rfl
    · exact step_u 34 30 true _ _ rfl rfl rfl rfl (by kernel_rfl) (fun vals => by kernel_rfl) rfl
    · exact step_u 35 30 true _ _ rfl rfl rfl rfl (by kernel_rfl) (fun vals => by kernel_rfl) rfl
    · exact step_u 36 30 true _ _ rfl rfl rfl rfl (by kernel_rfl) (fun vals => by kernel_rfl) rfl
    · exact step_u 37 30 true _ _ rfl rfl rfl rfl (by kernel_rfl) (fun vals => by kernel_rfl) rfl
    · exact step_u 38 30 true _ _ rfl rfl rfl rfl (by kernel_rfl) (fun vals => by kernel_rfl) rfl
    · exact step_u 39 30 true _ _ rfl rfl rfl rfl (by kernel_rfl) (fun vals => by kernel_rfl) rfl
    · refine step_g 40 [27, 30, 39] _ _ rfl rfl hI (by kernel_rfl) fun vals W hb_ hB_ hIw hd => ?_
      have e27 : vals 27 = _ := hd 27 (by simp) _ rfl
      have e30 : vals 30 = _ := hd 30 (by simp) _ rfl
      have e39 : vals 39 = _ := hd 39 (by simp) _ rfl
      rw [e27, e30, e39]
      go_wp2
      exact ⟨rfl, _, rfl, Gr.refl _, rfl⟩
    · refine step_g 41 [27, 40] _ _ rfl rfl hI (by kernel_rfl) fun vals W hb_ hB_ hIw hd => ?_
      have e27 : vals 27 = _ := hd 27 (by simp) _ rfl
      have e40 : vals 40 = _ := hd 40 (by simp) _ rfl
      rw [e27, e40]
      go_wp2
      exact ⟨rfl, _, rfl, Gr.refl _, rfl⟩
  · intro vals W7 hb7 hfs
    exact hend vals W7 hb7 (hfs 41 _ rfl (fun k hk => rfl))
set_option maxRecDepth 100000 in
set_option maxHeartbeats 8000000 in
theorem reg28_still (w5 : World) (gx xc sc bl i bse : Nat) (sad : Addr) (si _ti : UInt8) (hi9 : i < 9)
    (hxr : OwnB w5 bse (.slice (some ⟨gx, 0, none⟩) 256 xc) (fullS si)) (hsad5 : (sad.add i).block < w5.heap.size) (hcs5 : w5.cell? (sad.add i) = some (.int .u8 (si.toNat : Int))) (hbl5 : bl < w5.heap.size) (hct5 : w5.cell? ⟨bl, i, none⟩ = some (.int .u8 (si.toNat : Int)))
    (u0 u1 u2 u3 u4 u5 u6 u9 u10 u11 u16 u17 u18 u19 u20 u21 u22 u23 u24 u25 u26 u27 u28 u29 u30 u31 u32 u33 u34 u35 u36 u37 u38 u39 u40 u41 u42 u43 u44 u45 u46 u47 u48 u49 u50 u51 u52 u53 u54 u55 u56 u57 u58 u59 u60 u61 u62 u63 u64 u65 u66 u67 u68 u69 u70 u71 u72 u73 u74 u75 u76 u77 u78 u79 u80 u81 u82 u83 u84 u85 u86 u87 u88 u89 u90 u91 u92 u93 u94 u95 u96 u97 u98 u99 u100 u101 u102 u103 u104 u105 u106 u107 u108 u109 u110 u111 u112 u113 u114 u115 u116 u117 u118 u119 u120 u121 u122 u123 u124 u125 u126 u127 u128 u129 u130 u131 u132 u133 u134 u135 u136 u137 u138 u139 u140 u141 u142 u143 u144 u145 u146 u147 u148 u149 u150 u151 u152 u153 u154 u155 u156 u157 u158 u159 u160 u161 u162 : Value) (Q : Exit → Act → World → Prop)
    (hend : ∀ (vals : Nat → Value) (W : World), Gr w5 W → vals 41 = .bool false → Q .normal ⟨#[u0, u1, u2, u3, u4, u5, u6, (.slice (some sad) 9 sc), (.slice (some ⟨bl, 0, none⟩) 9 9), u9, u10, u11, (.int .i64 i), (.slice (some ⟨gx, 0, none⟩) 256 xc), (.int .i64 0), (.bool false), u16, u17, u18, u19, u20, u21, u22, u23, u24, u25, u26, u27, u28, u29, u30, u31, u32, u33, u34, u35, u36, u37, u38, u39, u40, u41, u42, u43, u44, u45, u46, u47, u48, u49, u50, u51, u52, u53, u54, u55, u56, u57, u58, u59, u60, u61, u62, u63, u64, u65, u66, u67, u68, u69, u70, u71, u72, u73, u74, u75, u76, u77, u78, u79, u80, u81, u82, u83, u84, u85, u86, u87, u88, u89, u90, u91, u92, u93, u94, u95, u96, u97, u98, u99, u100, u101, u102, u103, u104, u105, u106, u107, u108, (vals 0), (vals 1), (vals 2), (vals 3), (vals 4), (vals 5), (vals 6), (vals 7), (vals 8), (vals 9), (vals 10), (vals 11), (vals 12), (vals 13), (vals 14), (vals 15), (vals 16), (vals 17), (vals 18), (vals 19), (vals 20), (vals 21), (vals 22), (vals 23), (vals 24), (vals 25), (vals 26), (vals 27), (vals 28), (vals 29), (vals 30), (vals 31), (vals 32), (vals 33), (vals 34), (vals 35), (vals 36), (vals 37), (vals 38), (vals 39), (vals 40), (vals 41), u151, u152, u153, u154, u155, u156, u157, u158, u159, u160, u161, u162], []⟩ W) :
    reg28.wp Try.prog Q ⟨#[u0, u1, u2, u3, u4, u5, u6, (.slice (some sad) 9 sc), (.slice (some ⟨bl, 0, none⟩) 9 9), u9, u10, u11, (.int .i64 i), (.slice (some ⟨gx, 0, none⟩) 256 xc), (.int .i64 0), (.bool false), u16, u17, u18, u19, u20, u21, u22, u23, u24, u25, u26, u27, u28, u29, u30, u31, u32, u33, u34, u35, u36, u37, u38, u39, u40, u41, u42, u43, u44, u45, u46, u47, u48, u49, u50, u51, u52, u53, u54, u55, u56, u57, u58, u59, u60, u61, u62, u63, u64, u65, u66, u67, u68, u69, u70, u71, u72, u73, u74, u75, u76, u77, u78, u79, u80, u81, u82, u83, u84, u85, u86, u87, u88, u89, u90, u91, u92, u93, u94, u95, u96, u97, u98, u99, u100, u101, u102, u103, u104, u105, u106, u107, u108, u109, u110, u111, u112, u113, u114, u115, u116, u117, u118, u119, u120, u121, u122, u123, u124, u125, u126, u127, u128, u129, u130, u131, u132, u133, u134, u135, u136, u137, u138, u139, u140, u141, u142, u143, u144, u145, u146, u147, u148, u149, u150, u151, u152, u153, u154, u155, u156, u157, u158, u159, u160, u161, u162], []⟩ w5 := by
  conv => arg 2; whnf
  refine wp_region_facts [.is (.int .i64 0), .is (.int .i64 0), .is (.bool false), .is (.bool false), .is (.slice (some ⟨gx, 0, none⟩) 256 xc), .is (.slice (some sad) 9 sc), .is (.int .i64 i), .is (.pointer (some (sad.add i))), .is (.int .u8 (si.toNat : Int)), fS si, .is (.bool true), .is (.bool false), .is (.bool false), .is undef, .is undef, .is undef, .is undef, .is undef, .is undef, .is undef, .is undef, .is undef, .is undef, .is undef, .is undef, .is (.bool false), .is (.bool false), .is (.bool false), .is (.bool false), .is (.bool true), .is (.bool true), .is (.slice (some sad) 9 sc), .is (.int .i64 i), .is (.pointer (some (sad.add i))), .is (.int .u8 (si.toNat : Int)), .is (.slice (some ⟨bl, 0, none⟩) 9 9), .is (.int .i64 i), .is (.pointer (some ⟨bl, i, none⟩)), .is (.int .u8 (si.toNat : Int)), .is (.bool false), .is (.bool false), .is (.bool false)]
    (fun W => Gr w5 W) noS noSI w5.heap.size (by kernel_rfl) rfl (by kernel_rfl) (by kernel_rfl) (Nat.le_refl _) (Gr.drew _) (F := fun vals => ⟨#[u0, u1, u2, u3, u4, u5, u6, (.slice (some sad) 9 sc), (.slice (some ⟨bl, 0, none⟩) 9 9), u9, u10, u11, (.int .i64 i), (.slice (some ⟨gx, 0, none⟩) 256 xc), (.int .i64 0), (.bool false), u16, u17, u18, u19, u20, u21, u22, u23, u24, u25, u26, u27, u28, u29, u30, u31, u32, u33, u34, u35, u36, u37, u38, u39, u40, u41, u42, u43, u44, u45, u46, u47, u48, u49, u50, u51, u52, u53, u54, u55, u56, u57, u58, u59, u60, u61, u62, u63, u64, u65, u66, u67, u68, u69, u70, u71, u72, u73, u74, u75, u76, u77, u78, u79, u80, u81, u82, u83, u84, u85, u86, u87, u88, u89, u90, u91, u92, u93, u94, u95, u96, u97, u98, u99, u100, u101, u102, u103, u104, u105, u106, u107, u108, (vals 0), (vals 1), (vals 2), (vals 3), (vals 4), (vals 5), (vals 6), (vals 7), (vals 8), (vals 9), (vals 10), (vals 11), (vals 12), (vals 13), (vals 14), (vals 15), (vals 16), (vals 17), (vals 18), (vals 19), (vals 20), (vals 21), (vals 22), (vals 23), (vals 24), (vals 25), (vals 26), (vals 27), (vals 28), (vals 29), (vals 30), (vals 31), (vals 32), (vals 33), (vals 34), (vals 35), (vals 36), (vals 37), (vals 38), (vals 39), (vals 40), (vals 41), u151, u152, u153, u154, u155, u156, u157, u158, u159, u160, u161, u162], []⟩) (fun vals => by kernel_rfl) ?_ ?_
  · intro q hq
    replace hq : q < 42 := hq
    have hI : ∀ W W', Gr w5 W → Gr W W' → Gr w5 W' := fun W W' hp hg => Gr.trans hp hg
    clear hend
    rcases (by omega : q = 0 ∨ q = 1 ∨ q = 2 ∨ q = 3 ∨ q = 4 ∨ q = 5 ∨ q = 6 ∨ q = 7 ∨ q = 8 ∨ q = 9 ∨ q = 10 ∨ q = 11 ∨ q = 12 ∨ q = 13 ∨ q = 14 ∨ q = 15 ∨ q = 16 ∨ q = 17 ∨ q = 18 ∨ q = 19 ∨ q = 20 ∨ q = 21 ∨ q = 22 ∨ q = 23 ∨ q = 24 ∨ q = 25 ∨ q = 26 ∨ q = 27 ∨ q = 28 ∨ q = 29 ∨ q = 30 ∨ q = 31 ∨ q = 32 ∨ q = 33 ∨ q = 34 ∨ q = 35 ∨ q = 36 ∨ q = 37 ∨ q = 38 ∨ q = 39 ∨ q = 40 ∨ q = 41) with rfl | rfl | rfl | rfl | rfl | rfl | rfl | rfl | rfl | rfl | rfl | rfl | rfl | rfl | rfl | rfl | rfl | rfl | rfl | rfl | rfl | rfl | rfl | rfl | rfl | rfl | rfl | rfl | rfl | rfl | rfl | rfl | rfl | rfl | rfl | rfl | rfl | rfl | rfl | rfl | rfl | rfl
    · refine step_g 0 [] _ _ rfl rfl hI (by kernel_rfl) fun vals W hb_ hB_ hIw hd => ?_
      go_wp2
      exact ⟨rfl, _, rfl, Gr.refl _, rfl⟩
    · refine step_g 1 [0] _ _ rfl rfl hI (by kernel_rfl) fun vals W hb_ hB_ hIw hd => ?_
      have e0 : vals 0 = _ := hd 0 (by simp) _ rfl
      rw [e0]
      go_wp2_with (go_at_call 7; (with_reducible refine (num_d _ _).mono ?_); rintro e w9 ⟨rfl, rfl⟩)
      exact ⟨rfl, _, rfl, Gr.refl _, rfl⟩
    · refine step_g 2 [1] _ _ rfl rfl hI (by kernel_rfl) fun vals W hb_ hB_ hIw hd => ?_
      have e1 : vals 1 = _ := hd 1 (by simp) _ rfl
      rw [e1]
      go_wp2
      exact ⟨rfl, _, rfl, Gr.refl _, rfl⟩
    · refine step_g 3 [2] _ _ rfl rfl hI (by kernel_rfl) fun vals W hb_ hB_ hIw hd => ?_
      have e2 : vals 2 = _ := hd 2 (by simp) _ rfl
      rw [e2]
      go_wp2
      exact ⟨rfl, _, rfl, Gr.refl _, rfl⟩
    · refine step_g 4 [3] _ _ rfl rfl hI (by kernel_rfl) fun vals W hb_ hB_ hIw hd => ?_
      have e3 : vals 3 = _ := hd 3 (by simp) _ rfl
      rw [e3]
      go_wp2
      exact ⟨rfl, _, rfl, Gr.refl _, rfl⟩
    · refine step_g 5 [3] _ _ rfl rfl hI (by kernel_rfl) fun vals W hb_ hB_ hIw hd => ?_
      have e3 : vals 3 = _ := hd 3 (by simp) _ rfl
      rw [e3]
      go_wp2
      exact ⟨rfl, _, rfl, Gr.refl _, rfl⟩
    · refine step_g 6 [3] _ _ rfl rfl hI (by kernel_rfl) fun vals W hb_ hB_ hIw hd => ?_
      have e3 : vals 3 = _ := hd 3 (by simp) _ rfl
      rw [e3]
      go_wp2
      exact ⟨rfl, _, rfl, Gr.refl _, rfl⟩
    · refine step_g 7 [3, 5, 6] _ _ rfl rfl hI (by kernel_rfl) fun vals W hb_ hB_ hIw hd => ?_
      have e3 : vals 3 = _ := hd 3 (by simp) _ rfl
      have e5 : vals 5 = _ := hd 5 (by simp) _ rfl
      have e6 : vals 6 = _ := hd 6 (by simp) _ rfl
      rw [e3, e5, e6]
      go_wp2
      exact ⟨rfl, _, rfl, Gr.refl _, rfl⟩
    · refine step_g 8 [3, 7] _ _ rfl rfl hI (by kernel_rfl) fun vals W hb_ hB_ hIw hd => ?_
      have e3 : vals 3 = _ := hd 3 (by simp) _ rfl
      have e7 : vals 7 = _ := hd 7 (by simp) _ rfl
      rw [e3, e7]
      have hq := ((hIw (by kernel_rfl)).cell (p := sad.add i) hsad5).trans hcs5
      go_wp2
      exact ⟨rfl, _, rfl, Gr.refl _, rfl⟩
    · refine step_g 9 [3, 8] _ _ rfl rfl hI (by kernel_rfl) fun vals W hb_ hB_ hIw hd => ?_
      have e3 : vals 3 = _ := hd 3 (by simp) _ rfl
      have e8 : vals 8 = _ := hd 8 (by simp) _ rfl
      rw [e3, e8]
      go_wp2_with (go_at_call 9; (with_reducible refine (full_d si W).mono ?_); rintro e w2 ⟨rfl, hB2, hg2⟩)
      exact ⟨rfl, _, rfl, hg2, ⟨_, rfl, hB2⟩⟩
    · refine step_g 10 [3, 4, 9] _ _ rfl rfl hI (by kernel_rfl) fun vals W hb_ hB_ hIw hd => ?_
      have e3 : vals 3 = _ := hd 3 (by simp) _ rfl
      have e4 : vals 4 = _ := hd 4 (by simp) _ rfl
      obtain ⟨b9, e9, hB9⟩ := (show ∃ b, vals 9 = .slice (some ⟨b, 0, none⟩) 256 256 ∧ Blk W b 5 (fillS si 256) from hd 9 (by simp) _ rfl)
      rw [e3, e4, e9]
      have cS := same_yes W _ _ (fullS si) (hxr.gr (hIw (by kernel_rfl))).rdD (full_rd hB9) (fullS_len _)
      go_wp2_with (go_at_call 15; (with_reducible refine cS.mono ?_); rintro e w2 ⟨rfl, hg2⟩)
      exact ⟨rfl, _, rfl, hg2, rfl⟩
    · refine step_g 11 [3, 10] _ _ rfl rfl hI (by kernel_rfl) fun vals W hb_ hB_ hIw hd => ?_
      have e3 : vals 3 = _ := hd 3 (by simp) _ rfl
      have e10 : vals 10 = _ := hd 10 (by simp) _ rfl
      rw [e3, e10]
      go_wp2
      exact ⟨rfl, _, rfl, Gr.refl _, rfl⟩
    · refine step_g 12 [3, 11] _ _ rfl rfl hI (by kernel_rfl) fun vals W hb_ hB_ hIw hd => ?_
      have e3 : vals 3 = _ := hd 3 (by simp) _ rfl
      have e11 : vals 11 = _ := hd 11 (by simp) _ rfl
      rw [e3, e11]
      go_wp2
      exact ⟨rfl, _, rfl, Gr.refl _, rfl⟩
    · exact step_u 13 12 true _ _ rfl rfl rfl rfl (by kernel_rfl) (fun vals => by kernel_rfl) rfl
    · exact step_u 14 12 true _ _ rfl rfl rfl rfl (by kernel_rfl) (fun vals => by kernel_rfl) rfl
    · exact step_u 15 12 true _ _ rfl rfl rfl rfl (by kernel_rfl) (fun vals => by kernel_rfl) rfl
    · exact step_u 16 15 false _ _ rfl rfl rfl rfl (by kernel_rfl) (fun vals => by kernel_rfl) rfl
    · exact step_u 17 15 false _ _ rfl rfl rfl rfl (by kernel_rfl) (fun vals => by kernel_rfl) rfl
    · exact step_u 18 15 false _ _ rfl rfl rfl rfl (by kernel_rfl) (fun vals => by kernel_rfl) rfl
    · exact step_u 19 15 false _ _ rfl rfl rfl rfl (by kernel_rfl) (fun vals => by kernel_rfl) rfl
    · exact step_u 20 15 false _ _ rfl rfl rfl rfl (by kernel_rfl) (fun vals => by kernel_rfl) rfl
    · exact step_u 21 15 false _ _ rfl rfl rfl rfl (by kernel_rfl) (fun vals => by kernel_rfl) rfl
    · exact step_u 22 15 false _ _ rfl rfl rfl rfl (by kernel_rfl) (fun vals => by kernel_rfl) rfl
    · exact step_u 23 15 false _ _ rfl rfl rfl rfl (by kernel_rfl) (fun vals => by kernel_rfl) rfl
    · exact step_u 24 12 true _ _ rfl rfl rfl rfl (by kernel_rfl) (fun vals => by kernel_rfl) rfl
    · refine step_g 25 [3, 12, 24] _ _ rfl rfl hI (by kernel_rfl) fun vals W hb_ hB_ hIw hd => ?_
      have e3 : vals 3 = _ := hd 3 (by simp) _ rfl
      have e12 : vals 12 = _ := hd 12 (by simp) _ rfl
      have e24 : vals 24 = _ := hd 24 (by simp) _ rfl
      rw [e3, e12, e24]
      go_wp2
      exact ⟨rfl, _, rfl, Gr.refl _, rfl⟩
    · refine step_g 26 [3, 25] _ _ rfl rfl hI (by kernel_rfl) fun vals W hb_ hB_ hIw hd => ?_
      have e3 : vals 3 = _ := hd 3 (by simp) _ rfl
      have e25 : vals 25 = _ := hd 25 (by simp) _ rfl
      rw [e3, e25]
      go_wp2
      exact ⟨rfl, _, rfl, Gr.refl _, rfl⟩
    · refine step_g 27 [26] _ _ rfl rfl hI (by kernel_rfl) fun vals W hb_ hB_ hIw hd => ?_
      have e26 : vals 26 = _ := hd 26 (by simp) _ rfl
      rw [e26]
      go_wp2
      exact ⟨rfl, _, rfl, Gr.refl _, rfl⟩
    · refine step_g 28 [27] _ _ rfl rfl hI (by kernel_rfl) fun vals W hb_ hB_ hIw hd => ?_
      have e27 : vals 27 = _ := hd 27 (by simp) _ rfl
      rw [e27]
      go_wp2
      exact ⟨rfl, _, rfl, Gr.refl _, rfl⟩
    · refine step_g 29 [27, 28] _ _ rfl rfl hI (by kernel_rfl) fun vals W hb_ hB_ hIw hd => ?_
      have e27 : vals 27 = _ := hd 27 (by simp) _ rfl
      have e28 : vals 28 = _ := hd 28 (by simp) _ rfl
      rw [e27, e28]
      go_wp2
      exact ⟨rfl, _, rfl, Gr.refl _, rfl⟩
    · refine step_g 30 [27, 29] _ _ rfl rfl hI (by kernel_rfl) fun vals W hb_ hB_ hIw hd => ?_
      have e27 : vals 27 = _ := hd 27 (by simp) _ rfl
      have e29 : vals 29 = _ := hd 29 (by simp) _ rfl
      rw [e27, e29]
      go_wp2
      exact ⟨rfl, _, rfl, Gr.refl _, rfl⟩
    · refine step_g 31 [30] _ _ rfl rfl hI (by kernel_rfl) fun vals W hb_ hB_ hIw hd => ?_
      have e30 : vals 30 = _ := hd 30 (by simp) _ rfl
      rw [e30]
      go_wp2
      exact ⟨rfl, _, rfl, Gr.refl _, rfl⟩
    · refine step_g 32 [30] _ _ rfl rfl hI (by kernel_rfl) fun vals W hb_ hB_ hIw hd => ?_
      have e30 : vals 30 = _ := hd 30 (by simp) _ rfl
      rw [e30]
      go_wp2
      exact ⟨rfl, _, rfl, Gr.refl _, rfl⟩
    · refine step_g 33 [30, 31, 32] _ _ rfl rfl hI (by kernel_rfl) fun vals W hb_ hB_ hIw hd => ?_
      have e30 : vals 30 = _ := hd 30 (by simp) _ rfl
      have e31 : vals 31 = _ := hd 31 (by simp) _ rfl
      have e32 : vals 32 = _ := hd 32 (by simp) _ rfl
      rw [e30, e31, e32]
      go_wp2
      exact ⟨rfl, _, rfl, Gr.refl _, rfl⟩
    · refine step_g 34 [30, 33] _ _ rfl rfl hI (by kernel_rfl) fun vals W hb_ hB_ hIw hd => ?_
      have e30 : vals 30 = _ := hd 30 (by simp) _ rfl
      have e33 : vals 33 = _ := hd 33 (by simp) _ rfl
      rw [e30, e33]
      have hq := ((hIw (by kernel_rfl)).cell (p := sad.add i) hsad5).trans hcs5
      go_wp2
      exact ⟨rfl, _, rfl, Gr.refl _, rfl⟩
    · refine step_g 35 [30] _ _ rfl rfl hI (by kernel_rfl) fun vals W hb_ hB_ hIw hd => ?_
      have e30 : vals 30 = _ := hd 30 (by simp) _ rfl
      rw [e30]
      go_wp2
      exact ⟨rfl, _, rfl, Gr.refl _, rfl⟩
    · refine step_g 36 [30] _ _ rfl rfl hI (by kernel_rfl) fun vals W hb_ hB_ hIw hd => ?_
      have e30 : vals 30 = _ := hd 30 (by simp) _ rfl
      rw [e30]
      go_wp2
      exact ⟨rfl, _, rfl, Gr.refl _, rfl⟩
    · refine step_g 37 [30, 35, 36] _ _ rfl rfl hI (by kernel_rfl) fun vals W hb_ hB_ hIw hd => ?_
      have e30 : vals 30 = _ := hd 30 (by simp) _ rfl
      have e35 : vals 35 = _ := hd 35 (by simp) _ rfl
      have e36 : vals 36 = _ := hd 36 (by simp) _ rfl
      rw [e30, e35, e36]
      go_wp2
      exact ⟨rfl, _, rfl, Gr.refl _, rfl⟩
    · refine step_g 38 [30, 37] _ _ rfl rfl hI (by kernel_rfl) fun vals W hb_ hB_ hIw hd => ?_
      have e30 : vals 30 = _ := hd 30 (by simp) _ rfl
      have e37 : vals 37 = _ := hd 37 (by simp) _ rfl
      rw [e30, e37]
      have hq := ((hIw (by kernel_rfl)).cell (p := ⟨bl, i, none⟩) hbl5).trans hct5
      go_wp2
      exact ⟨rfl, _, rfl, Gr.refl _, rfl⟩
    · refine step_g 39 [30, 34, 38] _ _ rfl rfl hI (by kernel_rfl) fun vals W hb_ hB_ hIw hd => ?_
      have e30 : vals 30 = _ := hd 30 (by simp) _ rfl
      have e34 : vals 34 = _ := hd 34 (by simp) _ rfl
      have e38 : vals 38 = _ := hd 38 (by simp) _ rfl
      rw [e30, e34, e38]
      go_wp2
      exact ⟨rfl, _, rfl, Gr.refl _, rfl⟩
    · refine step_g 40 [27, 30, 39] _ _ rfl rfl hI (by kernel_rfl) fun vals W hb_ hB_ hIw hd => ?_
      have e27 : vals 27 = _ := hd 27 (by simp) _ rfl
      have e30 : vals 30 = _ := hd 30 (by simp) _ rfl
      have e39 : vals 39 = _ := hd 39 (by simp) _ rfl
      rw [e27, e30, e39]
      go_wp2
      exact ⟨rfl, _, rfl, Gr.refl _, rfl⟩
    · refine step_g 41 [27, 40] _ _ rfl rfl hI (by kernel_rfl) fun vals W hb_ hB_ hIw hd => ?_
      have e27 : vals 27 = _ := hd 27 (by simp) _ rfl
      have e40 : vals 40 = _ := hd 40 (by simp) _ rfl
      rw [e27, e40]
      go_wp2
      exact ⟨rfl, _, rfl, Gr.refl _, rfl⟩
  · intro vals W7 hb7 hfs
    exact hend vals W7 hb7 (hfs 41 _ rfl (fun k hk => rfl))
set_option maxRecDepth 100000 in
set_option maxHeartbeats 8000000 in
theorem reg28_last (w5 : World) (gx xc sc bl i bse : Nat) (sad : Addr) (si ti : UInt8) (hi9 : i < 9)
    (hxr : OwnB w5 bse (.slice (some ⟨gx, 0, none⟩) 256 xc) (fullS ti)) (hsad5 : (sad.add i).block < w5.heap.size) (hcs5 : w5.cell? (sad.add i) = some (.int .u8 (si.toNat : Int))) (hbl5 : bl < w5.heap.size) (hct5 : w5.cell? ⟨bl, i, none⟩ = some (.int .u8 (ti.toNat : Int))) (hne : si ≠ ti)
    (u0 u1 u2 u3 u4 u5 u6 u9 u10 u11 u16 u17 u18 u19 u20 u21 u22 u23 u24 u25 u26 u27 u28 u29 u30 u31 u32 u33 u34 u35 u36 u37 u38 u39 u40 u41 u42 u43 u44 u45 u46 u47 u48 u49 u50 u51 u52 u53 u54 u55 u56 u57 u58 u59 u60 u61 u62 u63 u64 u65 u66 u67 u68 u69 u70 u71 u72 u73 u74 u75 u76 u77 u78 u79 u80 u81 u82 u83 u84 u85 u86 u87 u88 u89 u90 u91 u92 u93 u94 u95 u96 u97 u98 u99 u100 u101 u102 u103 u104 u105 u106 u107 u108 u109 u110 u111 u112 u113 u114 u115 u116 u117 u118 u119 u120 u121 u122 u123 u124 u125 u126 u127 u128 u129 u130 u131 u132 u133 u134 u135 u136 u137 u138 u139 u140 u141 u142 u143 u144 u145 u146 u147 u148 u149 u150 u151 u152 u153 u154 u155 u156 u157 u158 u159 u160 u161 u162 : Value) (Q : Exit → Act → World → Prop)
    (hend : ∀ (vals : Nat → Value) (W : World), Gr w5 W → vals 41 = .bool false → Q .normal ⟨#[u0, u1, u2, u3, u4, u5, u6, (.slice (some sad) 9 sc), (.slice (some ⟨bl, 0, none⟩) 9 9), u9, u10, u11, (.int .i64 i), (.slice (some ⟨gx, 0, none⟩) 256 xc), (.int .i64 0), (.bool true), u16, u17, u18, u19, u20, u21, u22, u23, u24, u25, u26, u27, u28, u29, u30, u31, u32, u33, u34, u35, u36, u37, u38, u39, u40, u41, u42, u43, u44, u45, u46, u47, u48, u49, u50, u51, u52, u53, u54, u55, u56, u57, u58, u59, u60, u61, u62, u63, u64, u65, u66, u67, u68, u69, u70, u71, u72, u73, u74, u75, u76, u77, u78, u79, u80, u81, u82, u83, u84, u85, u86, u87, u88, u89, u90, u91, u92, u93, u94, u95, u96, u97, u98, u99, u100, u101, u102, u103, u104, u105, u106, u107, u108, (vals 0), (vals 1), (vals 2), (vals 3), (vals 4), (vals 5), (vals 6), (vals 7), (vals 8), (vals 9), (vals 10), (vals 11), (vals 12), (vals 13), (vals 14), (vals 15), (vals 16), (vals 17), (vals 18), (vals 19), (vals 20), (vals 21), (vals 22), (vals 23), (vals 24), (vals 25), (vals 26), (vals 27), (vals 28), (vals 29), (vals 30), (vals 31), (vals 32), (vals 33), (vals 34), (vals 35), (vals 36), (vals 37), (vals 38), (vals 39), (vals 40), (vals 41), u151, u152, u153, u154, u155, u156, u157, u158, u159, u160, u161, u162], []⟩ W) :
    reg28.wp Try.prog Q ⟨#[u0, u1, u2, u3, u4, u5, u6, (.slice (some sad) 9 sc), (.slice (some ⟨bl, 0, none⟩) 9 9), u9, u10, u11, (.int .i64 i), (.slice (some ⟨gx, 0, none⟩) 256 xc), (.int .i64 0), (.bool true), u16, u17, u18, u19, u20, u21, u22, u23, u24, u25, u26, u27, u28, u29, u30, u31, u32, u33, u34, u35, u36, u37, u38, u39, u40, u41, u42, u43, u44, u45, u46, u47, u48, u49, u50, u51, u52, u53, u54, u55, u56, u57, u58, u59, u60, u61, u62, u63, u64, u65, u66, u67, u68, u69, u70, u71, u72, u73, u74, u75, u76, u77, u78, u79, u80, u81, u82, u83, u84, u85, u86, u87, u88, u89, u90, u91, u92, u93, u94, u95, u96, u97, u98, u99, u100, u101, u102, u103, u104, u105, u106, u107, u108, u109, u110, u111, u112, u113, u114, u115, u116, u117, u118, u119, u120, u121, u122, u123, u124, u125, u126, u127, u128, u129, u130, u131, u132, u133, u134, u135, u136, u137, u138, u139, u140, u141, u142, u143, u144, u145, u146, u147, u148, u149, u150, u151, u152, u153, u154, u155, u156, u157, u158, u159, u160, u161, u162], []⟩ w5 := by
  conv => arg 2; whnf
  refine wp_region_facts [.is (.int .i64 0), .is (.int .i64 0), .is (.bool false), .is (.bool false), .is (.slice (some ⟨gx, 0, none⟩) 256 xc), .is (.slice (some sad) 9 sc), .is (.int .i64 i), .is (.pointer (some (sad.add i))), .is (.int .u8 (si.toNat : Int)), fS si, .is (.bool false), .is (.bool true), .is (.bool true), .is (.bool true), .is (.bool false), .is (.bool false), .is (.slice (some ⟨gx, 0, none⟩) 256 xc), .is (.slice (some ⟨bl, 0, none⟩) 9 9), .is (.int .i64 i), .is (.pointer (some ⟨bl, i, none⟩)), .is (.int .u8 (ti.toNat : Int)), fS ti, .is (.bool true), .is (.bool false), .is (.bool false), .is (.bool false), .is (.bool false), .is (.bool false), .is (.bool true), .is (.bool false), .is (.bool false), .is undef, .is undef, .is undef, .is undef, .is undef, .is undef, .is undef, .is undef, .is undef, .is (.bool false), .is (.bool false)]
    (fun W => Gr w5 W) noS noSI w5.heap.size (by kernel_rfl) rfl (by kernel_rfl) (by kernel_rfl) (Nat.le_refl _) (Gr.drew _) (F := fun vals => ⟨#[u0, u1, u2, u3, u4, u5, u6, (.slice (some sad) 9 sc), (.slice (some ⟨bl, 0, none⟩) 9 9), u9, u10, u11, (.int .i64 i), (.slice (some ⟨gx, 0, none⟩) 256 xc), (.int .i64 0), (.bool true), u16, u17, u18, u19, u20, u21, u22, u23, u24, u25, u26, u27, u28, u29, u30, u31, u32, u33, u34, u35, u36, u37, u38, u39, u40, u41, u42, u43, u44, u45, u46, u47, u48, u49, u50, u51, u52, u53, u54, u55, u56, u57, u58, u59, u60, u61, u62, u63, u64, u65, u66, u67, u68, u69, u70, u71, u72, u73, u74, u75, u76, u77, u78, u79, u80, u81, u82, u83, u84, u85, u86, u87, u88, u89, u90, u91, u92, u93, u94, u95, u96, u97, u98, u99, u100, u101, u102, u103, u104, u105, u106, u107, u108, (vals 0), (vals 1), (vals 2), (vals 3), (vals 4), (vals 5), (vals 6), (vals 7), (vals 8), (vals 9), (vals 10), (vals 11), (vals 12), (vals 13), (vals 14), (vals 15), (vals 16), (vals 17), (vals 18), (vals 19), (vals 20), (vals 21), (vals 22), (vals 23), (vals 24), (vals 25), (vals 26), (vals 27), (vals 28), (vals 29), (vals 30), (vals 31), (vals 32), (vals 33), (vals 34), (vals 35), (vals 36), (vals 37), (vals 38), (vals 39), (vals 40), (vals 41), u151, u152, u153, u154, u155, u156, u157, u158, u159, u160, u161, u162], []⟩) (fun vals => by kernel_rfl) ?_ ?_
  · intro q hq
    replace hq : q < 42 := hq
    have hI : ∀ W W', Gr w5 W → Gr W W' → Gr w5 W' := fun W W' hp hg => Gr.trans hp hg
    clear hend
    rcases (by omega : q = 0 ∨ q = 1 ∨ q = 2 ∨ q = 3 ∨ q = 4 ∨ q = 5 ∨ q = 6 ∨ q = 7 ∨ q = 8 ∨ q = 9 ∨ q = 10 ∨ q = 11 ∨ q = 12 ∨ q = 13 ∨ q = 14 ∨ q = 15 ∨ q = 16 ∨ q = 17 ∨ q = 18 ∨ q = 19 ∨ q = 20 ∨ q = 21 ∨ q = 22 ∨ q = 23 ∨ q = 24 ∨ q = 25 ∨ q = 26 ∨ q = 27 ∨ q = 28 ∨ q = 29 ∨ q = 30 ∨ q = 31 ∨ q = 32 ∨ q = 33 ∨ q = 34 ∨ q = 35 ∨ q = 36 ∨ q = 37 ∨ q = 38 ∨ q = 39 ∨ q = 40 ∨ q = 41) with rfl | rfl | rfl | rfl | rfl | rfl | rfl | rfl | rfl | rfl | rfl | rfl | rfl | rfl | rfl | rfl | rfl | rfl | rfl | rfl | rfl | rfl | rfl | rfl | rfl | rfl | rfl | rfl | rfl | rfl | rfl | rfl | rfl | rfl | rfl | rfl | rfl | rfl | rfl | rfl | rfl | rfl
    · refine step_g 0 [] _ _ rfl rfl hI (by kernel_rfl) fun vals W hb_ hB_ hIw hd => ?_
      go_wp2
      exact ⟨rfl, _, rfl, Gr.refl _, rfl⟩
    · refine step_g 1 [0] _ _ rfl rfl hI (by kernel_rfl) fun vals W hb_ hB_ hIw hd => ?_
      have e0 : vals 0 = _ := hd 0 (by simp) _ rfl
      rw [e0]
      go_wp2_with (go_at_call 7; (with_reducible refine (num_d _ _).mono ?_); rintro e w9 ⟨rfl, rfl⟩)
      exact ⟨rfl, _, rfl, Gr.refl _, rfl⟩
    · refine step_g 2 [1] _ _ rfl rfl hI (by kernel_rfl) fun vals W hb_ hB_ hIw hd => ?_
      have e1 : vals 1 = _ := hd 1 (by simp) _ rfl
      rw [e1]
      go_wp2
      exact ⟨rfl, _, rfl, Gr.refl _, rfl⟩
    · refine step_g 3 [2] _ _ rfl rfl hI (by kernel_rfl) fun vals W hb_ hB_ hIw hd => ?_
      have e2 : vals 2 = _ := hd 2 (by simp) _ rfl
      rw [e2]
      go_wp2
      exact ⟨rfl, _, rfl, Gr.refl _, rfl⟩
    · refine step_g 4 [3] _ _ rfl rfl hI (by kernel_rfl) fun vals W hb_ hB_ hIw hd => ?_
      have e3 : vals 3 = _ := hd 3 (by simp) _ rfl
      rw [e3]
      go_wp2
      exact ⟨rfl, _, rfl, Gr.refl _, rfl⟩
    · refine step_g 5 [3] _ _ rfl rfl hI (by kernel_rfl) fun vals W hb_ hB_ hIw hd => ?_
      have e3 : vals 3 = _ := hd 3 (by simp) _ rfl
      rw [e3]
      go_wp2
      exact ⟨rfl, _, rfl, Gr.refl _, rfl⟩
    · refine step_g 6 [3] _ _ rfl rfl hI (by kernel_rfl) fun vals W hb_ hB_ hIw hd => ?_
      have e3 : vals 3 = _ := hd 3 (by simp) _ rfl
      rw [e3]
      go_wp2
      exact ⟨rfl, _, rfl, Gr.refl _, rfl⟩
    · refine step_g 7 [3, 5, 6] _ _ rfl rfl hI (by kernel_rfl) fun vals W hb_ hB_ hIw hd => ?_
      have e3 : vals 3 = _ := hd 3 (by simp) _ rfl
      have e5 : vals 5 = _ := hd 5 (by simp) _ rfl
      have e6 : vals 6 = _ := hd 6 (by simp) _ rfl
      rw [e3, e5, e6]
      go_wp2
      exact ⟨rfl, _, rfl, Gr.refl _, rfl⟩
    · refine step_g 8 [3, 7] _ _ rfl rfl hI (by kernel_rfl) fun vals W hb_ hB_ hIw hd => ?_
      have e3 : vals 3 = _ := hd 3 (by simp) _ rfl
      have e7 : vals 7 = _ := hd 7 (by simp) _ rfl
      rw [e3, e7]
      have hq := ((hIw (by kernel_rfl)).cell (p := sad.add i) hsad5).trans hcs5
      go_wp2
      exact ⟨rfl, _, rfl, Gr.refl _, rfl⟩
    · refine step_g 9 [3, 8] _ _ rfl rfl hI (by kernel_rfl) fun vals W hb_ hB_ hIw hd => ?_
      have e3 : vals 3 = _ := hd 3 (by simp) _ rfl
      have e8 : vals 8 = _ := hd 8 (by simp) _ rfl
      rw [e3, e8]
      go_wp2_with (go_at_call 9; (with_reducible refine (full_d si W).mono ?_); rintro e w2 ⟨rfl, hB2, hg2⟩)
      exact ⟨rfl, _, rfl, hg2, ⟨_, rfl, hB2⟩⟩
    · refine step_g 10 [3, 4, 9] _ _ rfl rfl hI (by kernel_rfl) fun vals W hb_ hB_ hIw hd => ?_
      have e3 : vals 3 = _ := hd 3 (by simp) _ rfl
      have e4 : vals 4 = _ := hd 4 (by simp) _ rfl
      obtain ⟨b9, e9, hB9⟩ := (show ∃ b, vals 9 = .slice (some ⟨b, 0, none⟩) 256 256 ∧ Blk W b 5 (fillS si 256) from hd 9 (by simp) _ rfl)
      rw [e3, e4, e9]
      have cS := same_no W _ _ (fullS ti) (fullS si) (fun h => hne (fullS_inj h).symm) (hxr.gr (hIw (by kernel_rfl))).rdD (full_rd hB9) (fullS_len _)
      go_wp2_with (go_at_call 15; (with_reducible refine cS.mono ?_); rintro e w2 ⟨rfl, hg2⟩)
      exact ⟨rfl, _, rfl, hg2, rfl⟩
    · refine step_g 11 [3, 10] _ _ rfl rfl hI (by kernel_rfl) fun vals W hb_ hB_ hIw hd => ?_
      have e3 : vals 3 = _ := hd 3 (by simp) _ rfl
      have e10 : vals 10 = _ := hd 10 (by simp) _ rfl
      rw [e3, e10]
      go_wp2
      exact ⟨rfl, _, rfl, Gr.refl _, rfl⟩
    · refine step_g 12 [3, 11] _ _ rfl rfl hI (by kernel_rfl) fun vals W hb_ hB_ hIw hd => ?_
      have e3 : vals 3 = _ := hd 3 (by simp) _ rfl
      have e11 : vals 11 = _ := hd 11 (by simp) _ rfl
      rw [e3, e11]
      go_wp2
      exact ⟨rfl, _, rfl, Gr.refl _, rfl⟩
    · refine step_g 13 [12] _ _ rfl rfl hI (by kernel_rfl) fun vals W hb_ hB_ hIw hd => ?_
      have e12 : vals 12 = _ := hd 12 (by simp) _ rfl
      rw [e12]
      go_wp2
      exact ⟨rfl, _, rfl, Gr.refl _, rfl⟩
    · refine step_g 14 [12, 13] _ _ rfl rfl hI (by kernel_rfl) fun vals W hb_ hB_ hIw hd => ?_
      have e12 : vals 12 = _ := hd 12 (by simp) _ rfl
      have e13 : vals 13 = _ := hd 13 (by simp) _ rfl
      rw [e12, e13]
      go_wp2
      exact ⟨rfl, _, rfl, Gr.refl _, rfl⟩
    · refine step_g 15 [12, 14] _ _ rfl rfl hI (by kernel_rfl) fun vals W hb_ hB_ hIw hd => ?_
      have e12 : vals 12 = _ := hd 12 (by simp) _ rfl
      have e14 : vals 14 = _ := hd 14 (by simp) _ rfl
      rw [e12, e14]
      go_wp2
      exact ⟨rfl, _, rfl, Gr.refl _, rfl⟩
    · refine step_g 16 [15] _ _ rfl rfl hI (by kernel_rfl) fun vals W hb_ hB_ hIw hd => ?_
      have e15 : vals 15 = _ := hd 15 (by simp) _ rfl
      rw [e15]
      go_wp2
      exact ⟨rfl, _, rfl, Gr.refl _, rfl⟩
    · refine step_g 17 [15] _ _ rfl rfl hI (by kernel_rfl) fun vals W hb_ hB_ hIw hd => ?_
      have e15 : vals 15 = _ := hd 15 (by simp) _ rfl
      rw [e15]
      go_wp2
      exact ⟨rfl, _, rfl, Gr.refl _, rfl⟩
    · refine step_g 18 [15] _ _ rfl rfl hI (by kernel_rfl) fun vals W hb_ hB_ hIw hd => ?_
      have e15 : vals 15 = _ := hd 15 (by simp) _ rfl
      rw [e15]
      go_wp2
      exact ⟨rfl, _, rfl, Gr.refl _, rfl⟩
    · refine step_g 19 [15, 17, 18] _ _ rfl rfl hI (by kernel_rfl) fun vals W hb_ hB_ hIw hd => ?_
      have e15 : vals 15 = _ := hd 15 (by simp) _ rfl
      have e17 : vals 17 = _ := hd 17 (by simp) _ rfl
      have e18 : vals 18 = _ := hd 18 (by simp) _ rfl
      rw [e15, e17, e18]
      go_wp2
      exact ⟨rfl, _, rfl, Gr.refl _, rfl⟩
    · refine step_g 20 [15, 19] _ _ rfl rfl hI (by kernel_rfl) fun vals W hb_ hB_ hIw hd => ?_
      have e15 : vals 15 = _ := hd 15 (by simp) _ rfl
      have e19 : vals 19 = _ := hd 19 (by simp) _ rfl
      rw [e15, e19]
      have hq := ((hIw (by kernel_rfl)).cell (p := ⟨bl, i, none⟩) hbl5).trans hct5
      go_wp2
      exact ⟨rfl, _, rfl, Gr.refl _, rfl⟩
    · refine step_g 21 [15, 20] _ _ rfl rfl hI (by kernel_rfl) fun vals W hb_ hB_ hIw hd => ?_
      have e15 : vals 15 = _ := hd 15 (by simp) _ rfl
      have e20 : vals 20 = _ := hd 20 (by simp) _ rfl
      rw [e15, e20]
      go_wp2_with (go_at_call 9; (with_reducible refine (full_d ti W).mono ?_); rintro e w2 ⟨rfl, hB2, hg2⟩)
      exact ⟨rfl, _, rfl, hg2, ⟨_, rfl, hB2⟩⟩
    · refine step_g 22 [15, 16, 21] _ _ rfl rfl hI (by kernel_rfl) fun vals W hb_ hB_ hIw hd => ?_
      have e15 : vals 15 = _ := hd 15 (by simp) _ rfl
      have e16 : vals 16 = _ := hd 16 (by simp) _ rfl
      obtain ⟨b21, e21, hB21⟩ := (show ∃ b, vals 21 = .slice (some ⟨b, 0, none⟩) 256 256 ∧ Blk W b 5 (fillS ti 256) from hd 21 (by simp) _ rfl)
      rw [e15, e16, e21]
      have cS := same_yes W _ _ (fullS ti) (hxr.gr (hIw (by kernel_rfl))).rdD (full_rd hB21) (fullS_len _)
      go_wp2_with (go_at_call 15; (with_reducible refine cS.mono ?_); rintro e w2 ⟨rfl, hg2⟩)
      exact ⟨rfl, _, rfl, hg2, rfl⟩
    · refine step_g 23 [15, 22] _ _ rfl rfl hI (by kernel_rfl) fun vals W hb_ hB_ hIw hd => ?_
      have e15 : vals 15 = _ := hd 15 (by simp) _ rfl
      have e22 : vals 22 = _ := hd 22 (by simp) _ rfl
      rw [e15, e22]
      go_wp2
      exact ⟨rfl, _, rfl, Gr.refl _, rfl⟩
    · refine step_g 24 [12, 15, 23] _ _ rfl rfl hI (by kernel_rfl) fun vals W hb_ hB_ hIw hd => ?_
      have e12 : vals 12 = _ := hd 12 (by simp) _ rfl
      have e15 : vals 15 = _ := hd 15 (by simp) _ rfl
      have e23 : vals 23 = _ := hd 23 (by simp) _ rfl
      rw [e12, e15, e23]
      go_wp2
      exact ⟨rfl, _, rfl, Gr.refl _, rfl⟩
    · refine step_g 25 [3, 12, 24] _ _ rfl rfl hI (by kernel_rfl) fun vals W hb_ hB_ hIw hd => ?_
      have e3 : vals 3 = _ := hd 3 (by simp) _ rfl
      have e12 : vals 12 = _ := hd 12 (by simp) _ rfl
      have e24 : vals 24 = _ := hd 24 (by simp) _ rfl
      rw [e3, e12, e24]
      go_wp2
      exact ⟨rfl, _, rfl, Gr.refl _, rfl⟩
    · refine step_g 26 [3, 25] _ _ rfl rfl hI (by kernel_rfl) fun vals W hb_ hB_ hIw hd => ?_
      have e3 : vals 3 = _ := hd 3 (by simp) _ rfl
      have e25 : vals 25 = _ := hd 25 (by simp) _ rfl
      rw [e3, e25]
      go_wp2
      exact ⟨rfl, _, rfl, Gr.refl _, rfl⟩
    · refine step_g 27 [26] _ _ rfl rfl hI (by kernel_rfl) fun vals W hb_ hB_ hIw hd => ?_
      have e26 : vals 26 = _ := hd 26 (by simp) _ rfl
      rw [e26]
      go_wp2
      exact ⟨rfl, _, rfl, Gr.refl _, rfl⟩
    · refine step_g 28 [27] _ _ rfl rfl hI (by kernel_rfl) fun vals W hb_ hB_ hIw hd => ?_
      have e27 : vals 27 = _ := hd 27 (by simp) _ rfl
      rw [e27]
      go_wp2
      exact ⟨rfl, _, rfl, Gr.refl _, rfl⟩
    · refine step_g 29 [27, 28] _ _ rfl rfl hI (by kernel_rfl) fun vals W hb_ hB_ hIw hd => ?_
      have e27 : vals 27 = _ := hd 27 (by simp) _ rfl
      have e28 : vals 28 = _ := hd 28 (by simp) _ rfl
      rw [e27, e28]
      go_wp2
      exact ⟨rfl, _, rfl, Gr.refl _, rfl⟩
    · refine step_g 30 [27, 29] _ _ rfl rfl hI (by kernel_rfl) fun vals W hb_ hB_ hIw hd => ?_
      have e27 : vals 27 = _ := hd 27 (by simp) _ rfl
      have e29 : vals 29 = _ := hd 29 (by simp) _ rfl
      rw [e27, e29]
      go_wp2
      exact ⟨rfl, _, rfl, Gr.refl _, rfl⟩
    · exact step_u 31 30 true _ _ rfl rfl rfl rfl (by kernel_rfl) (fun vals => by kernel_rfl) rfl
    · exact step_u 32 30 true _ _ rfl rfl rfl rfl (by kernel_rfl) (fun vals => by kernel_rfl) rfl
    · exact step_u 33 30 true _ _ rfl rfl rfl rfl (by kernel_rfl) (fun vals => by kernel_rfl) rfl
    · exact step_u 34 30 true _ _ rfl rfl rfl rfl (by kernel_rfl) (fun vals => by kernel_rfl) rfl
    · exact step_u 35 30 true _ _ rfl rfl rfl rfl (by kernel_rfl) (fun vals => by kernel_rfl) rfl
    · exact step_u 36 30 true _ _ rfl rfl rfl rfl (by kernel_rfl) (fun vals => by kernel_rfl) rfl
    · exact step_u 37 30 true _ _ rfl rfl rfl rfl (by kernel_rfl) (fun vals => by kernel_rfl) rfl
    · exact step_u 38 30 true _ _ rfl rfl rfl rfl (by kernel_rfl) (fun vals => by kernel_rfl) rfl
    · exact step_u 39 30 true _ _ rfl rfl rfl rfl (by kernel_rfl) (fun vals => by kernel_rfl) rfl
    · refine step_g 40 [27, 30, 39] _ _ rfl rfl hI (by kernel_rfl) fun vals W hb_ hB_ hIw hd => ?_
      have e27 : vals 27 = _ := hd 27 (by simp) _ rfl
      have e30 : vals 30 = _ := hd 30 (by simp) _ rfl
      have e39 : vals 39 = _ := hd 39 (by simp) _ rfl
      rw [e27, e30, e39]
      go_wp2
      exact ⟨rfl, _, rfl, Gr.refl _, rfl⟩
    · refine step_g 41 [27, 40] _ _ rfl rfl hI (by kernel_rfl) fun vals W hb_ hB_ hIw hd => ?_
      have e27 : vals 27 = _ := hd 27 (by simp) _ rfl
      have e40 : vals 40 = _ := hd 40 (by simp) _ rfl
      rw [e27, e40]
      go_wp2
      exact ⟨rfl, _, rfl, Gr.refl _, rfl⟩
  · intro vals W7 hb7 hfs
    exact hend vals W7 hb7 (hfs 41 _ rfl (fun k hk => rfl))
end Go.Proofs.Ytamojnejengipaa
