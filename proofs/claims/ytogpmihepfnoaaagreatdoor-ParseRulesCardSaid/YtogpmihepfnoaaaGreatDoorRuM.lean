/- May a condition be? the program's count. -/
import Derived.Test.YtogpmihepfnoaaaGreatDoorRuS
namespace Go.Proofs.YtogpmihepfnoaaaGreatDoor
open Go Go.RowKit Go.Sort

/-- All but one block stays. -/
abbrev GrX (w w' : World) (g : Nat) : Prop := w.grownBy w' (some g)
theorem GrX.of_gr {w w' : World} (h : Gr w w') (g : Nat) : GrX w w' g := ⟨h.os, h.tape, h.output, h.size, fun k hk _ => h.block k hk⟩
theorem GrX.set_ {w w' : World} {g : Nat} (h : GrX w w' g) (i : Nat) (v : Value) : GrX w (w'.setCell ⟨g, i, none⟩ v) g :=
  ⟨h.os, h.tape, h.output, by simpa [World.setCell] using h.size, fun k hk hne => (Below.heap_setCell w' ⟨g, i, none⟩ v k (by intro e; exact hne (by simp [e]))).trans (h.block k hk hne)⟩
/-- Blocks that are there, but one. -/
abbrev KX (w : World) (g b : Nat) : Prop := b < w.heap.size ∧ b ≠ g
theorem grx_cell {w w' : World} {g : Nat} (h : GrX w w' g) {p : Addr} (hp : p.block < w.heap.size) (hn : p.block ≠ g) : w'.cell? p = w.cell? p := by
  unfold World.cell?
  rw [h.block p.block hp (fun e => hn (Option.some.inj e))]
theorem RdEx.x {w w' : World} {g : Nat} {x : Ex} {v : Value} (h : RdEx w (KX w g) x v) (hx : GrX w w' g) : RdEx w' (KX w' g) x v :=
  RdEx.mono (fun _ hb => ⟨Nat.lt_of_lt_of_le hb.1 hx.size, hb.2⟩) x v (RdEx.keep (fun _ hp => grx_cell hx hp.1 hp.2) x v h)
theorem RdExL.x {w w' : World} {g : Nat} {xs : List Ex} {vs : List Value} (h : RdExL w (KX w g) xs vs) (hx : GrX w w' g) : RdExL w' (KX w' g) xs vs :=
  RdExL.mono (fun _ hb => ⟨Nat.lt_of_lt_of_le hb.1 hx.size, hb.2⟩) xs vs (RdExL.keep (fun _ hp => grx_cell hx hp.1 hp.2) xs vs h)
theorem Rk.x {w w' : World} {g size n : Nat} {A : Option Addr} {xs : List Value} (h : Rk w (KX w g) size A n xs) (hx : GrX w w' g) : Rk w' (KX w' g) size A n xs :=
  (h.keep fun _ hp => grx_cell hx hp.1 hp.2).mono fun _ hb => ⟨Nat.lt_of_lt_of_le hb.1 hx.size, hb.2⟩
/-- What the count does. -/
def PM (r : Option Nat) (g : Nat) (w : World) (b : Bool) (e : Ending) (w' : World) : Prop :=
  e = .returned (.bool (r.isSome != b)) ∧ GrX w w' g ∧ ∃ z : Int, Blk w' g 98 #[.int .i64 z] ∧ ∀ m, r = some m → z = (m : Int)
def IHM (N : Nat) : Prop := ∀ (x : Ex) (v : Value) (w : World) (g n d : Nat), SizeOf.sizeOf x ≤ N → RdEx w (KX w g) x v → Blk w g 98 #[.int .i64 (n : Int)] → n ≤ 1000 → d ≤ 1000 →
    Calls Tryz.prog 67 #[.pointer (some ⟨g, 0, none⟩), v, .int .i64 (d : Int)] w (PM (mayX x n d) g w false)
theorem GrX.tr {a b c : World} {g : Nat} (h : GrX a b g) (k : GrX b c g) : GrX a c g := World.grownBy.trans h k
set_option maxRecDepth 100000 in
set_option maxHeartbeats 4000000 in
theorem clos_any (N : Nat) (ih : IHM N) (x : Ex) (v : Value) (w : World) (g m d D b3 b5 : Nat) (hN : SizeOf.sizeOf x ≤ N) (hx : RdEx w (KX w g) x v) (hB : Blk w g 98 #[.int .i64 (m : Int)])
    (h3 : Blk w b3 96 #[.pointer (some ⟨g, 0, none⟩)]) (h5 : Blk w b5 3 #[.int .i64 (d : Int)]) (hd : d = D + 1) (hm : m ≤ 1000) (hD : D ≤ 1000) :
    Calls Tryz.prog 82 #[v, .pointer (some ⟨b3, 0, none⟩), .pointer (some ⟨b5, 0, none⟩)] w (PM (mayX x m D) g w true) := by
  obtain ⟨op, days, mile, ks⟩ := x
  obtain ⟨A, c, vs, rfl, -⟩ := hx.form
  have hgr := Gr.alloc w (.cells #[.int .i64 op, .int .i64 days, .string mile, .slice A ks.length c] 45)
  have cM := ih (.mk op days mile ks) _ _ g m D hN (hx.x (GrX.of_gr hgr g)) (hB.alloc _) hm hD
  have c3 := (h3.alloc (.cells #[.int .i64 op, .int .i64 days, .string mile, .slice A ks.length c] 45)).cell 0
  have c5 := (h5.alloc (.cells #[.int .i64 op, .int .i64 days, .string mile, .slice A ks.length c] 45)).cell 0
  have hdd : (d : Int) - 1 = (D : Int) := by omega
  generalize mayX (.mk op days mile ks) m D = q at *
  have hq : ∀ (W : World) (z : Int) (b : Bool), q.isSome = b → GrX (w.alloc (.cells #[.int .i64 op, .int .i64 days, .string mile, .slice A ks.length c] 45)) W g → Blk W g 98 #[.int .i64 z] → (∀ m, q = some m → z = (m : Int)) → PM q g w true (.returned (.bool (b != true))) W :=
    fun W z b hb h h2 h3 => ⟨by rw [hb], (GrX.of_gr hgr g).tr h, z, h2, h3⟩
  have HQ := Lib.hid hq
  clear hq
  unfold PM at cM
  generalize q.isSome = b at *
  clear ih hx hB h3 h5 hgr hN hm
  subst hd
  cases b
  all_goals
    go_enter Tryz.func82, Tryz.ntmps82
    go_wp2_with (go_at_call 67; (with_reducible refine cM.mono ?_); rintro e w1 ⟨rfl, hx1, z, hz, hzz⟩)
    go_ret
    exact HQ.out _ z _ rfl hx1 hz hzz
/-- What a search does: below 0 where every part may be. -/
def PI (r : Option Nat) (g : Nat) (w : World) (e : Ending) (w' : World) : Prop :=
  (∃ z : Int, e = .returned (.int .i64 z) ∧ ((0 ≤ z) ↔ r = none) ∧ -1 ≤ z) ∧ GrX w w' g ∧ ∃ z : Int, Blk w' g 98 #[.int .i64 z] ∧ ∀ m, r = some m → z = (m : Int)
set_option maxRecDepth 100000 in
set_option maxHeartbeats 4000000 in
theorem idx_any (N : Nat) (ih : IHM N) (ks : List Ex) (A : Option Addr) (c : Nat) (vs : List Value) (w : World) (g n d D b3 b5 : Nat) (hN : ∀ (k : Nat) (x : Ex), ks[k]? = some x → SizeOf.sizeOf x ≤ N) (hc : ks.length ≤ c) (hcm : c ≤ maxLen)
    (hr : Rk w (KX w g) 4 A ks.length vs) (hl : RdExL w (KX w g) ks vs) (hB : Blk w g 98 #[.int .i64 (n : Int)])
    (h3 : Blk w b3 96 #[.pointer (some ⟨g, 0, none⟩)]) (h5 : Blk w b5 3 #[.int .i64 (d : Int)]) (hd : d = D + 1) (hn : n ≤ 1000) (hD : D ≤ 1000) (hg3 : b3 ≠ g) (hg5 : b5 ≠ g) :
    Calls Tryz.prog 94 #[.slice A ks.length c, .func (.func 82) #[] #[.pointer (some ⟨b3, 0, none⟩), .pointer (some ⟨b5, 0, none⟩)]] w (PI (mayXL ks n D) g w) := by
  unfold maxLen at hcm
  have HIH := Lib.hid ih
  have hOut : ∀ (W : World) (z : Int) (k : Int) (st : Option Nat), mayXL ks n D = st → ((0 ≤ k) ↔ st = none) → -1 ≤ k → GrX w W g → Blk W g 98 #[.int .i64 z] → (∀ m, st = some m → z = (m : Int)) → PI (mayXL ks n D) g w (.returned (.int .i64 k)) W :=
    fun W z k st h0 h1 h2 h hz hzz => ⟨⟨k, rfl, by rw [h0]; exact h1, h2⟩, h, z, hz, fun m hm => hzz m (h0 ▸ hm)⟩
  have HOut := Lib.hid hOut
  clear hOut
  generalize PI (mayXL ks n D) g w = Post at *
  clear ih
  go_enter Tryz.func94, Tryz.ntmps94
  go_wp2
  go_loopw [8] (fun v8 wr => ∃ (k m : Nat), v8 = .int .i64 (k : Int) ∧ k ≤ ks.length ∧ m ≤ 1000 ∧ MayTo ks n D k (some m) ∧ Blk wr g 98 #[.int .i64 (m : Int)] ∧ GrX w wr g) (fun v8 _ => ks.length - (intOf v8).toNat)
  case atStart => exact ⟨0, n, rfl, Nat.zero_le _, hn, rfl, hB, World.grownBy.refl _ _⟩
  case round =>
    obtain ⟨k, m, rfl, hk, hm, hT, hBr, hx⟩ := hrel
    by_cases hlt : k < ks.length
    · obtain ⟨x, hxk⟩ : ∃ x, ks[k]? = some x := ⟨_, List.getElem?_eq_getElem hlt⟩
      obtain ⟨ad, P, v0, v1, v2, v3, rfl, eP, hP, c0, c1, c2, c3, hsx⟩ := ex_cells (hr.x hx) (hl.x hx) rfl k x hxk
      have cC := clos_any N HIH.out x _ wr g m d D b3 b5 (hN k x hxk) hsx hBr (h3.grown hx (fun e => hg3 (Option.some.inj e))) (h5.grown hx (fun e => hg5 (Option.some.inj e))) hd hm hD
      have hT2 := hT.step hxk
      have hle : ∀ q, mayX x m D = some q → q ≤ 1000 := fun q hq => by have := mayX_lt x m D q hq; omega
      unfold PM at cC
      generalize mayX x m D = st at *
      clear hT hxk hN
      cases st with
      | none =>
        have HT := Lib.hid hT2.none
        clear hT2 hle
        go_wp2_with (go_at_call 82; (with_reducible refine cC.mono ?_); rintro e w1 ⟨rfl, hx1, z, hz, hzz⟩)
        all_goals (try (exfalso; omega))
        exact HOut.out _ z _ none HT.out (by simp) (by omega) (GrX.tr hx hx1) hz (fun m h => by cases h)
      | some q =>
        have hq := hle q rfl
        have HT := Lib.hid hT2
        clear hT2 hle
        go_wp2_with (go_at_call 82; (with_reducible refine cC.mono ?_); rintro e w1 ⟨rfl, hx1, z, hz, hzz⟩)
        all_goals (try (exfalso; omega))
        go_roundw
        case rel => exact ⟨k + 1, q, by go_num, by omega, hq, HT.out, by rw [hzz q rfl] at hz; exact hz, GrX.tr hx hx1⟩
        case measure => simp [intOf]; omega
    · obtain rfl : k = ks.length := by omega
      have HT := Lib.hid hT.end_
      clear hT
      go_wp2
      all_goals (try (exfalso; omega))
      exact HOut.out _ (m : Int) (-1) (some m) HT.out (by simp) (by omega) hx hBr (fun q h => by cases h; rfl)
/-- Is there one that may not be? -/
def PC (r : Option Nat) (g : Nat) (w : World) (e : Ending) (w' : World) : Prop :=
  e = .returned (.bool r.isNone) ∧ GrX w w' g ∧ ∃ z : Int, Blk w' g 98 #[.int .i64 z] ∧ ∀ m, r = some m → z = (m : Int)
set_option maxRecDepth 100000 in
set_option maxHeartbeats 4000000 in
theorem cont_any (N : Nat) (ih : IHM N) (ks : List Ex) (A : Option Addr) (c : Nat) (vs : List Value) (w : World) (g n d D b3 b5 : Nat) (hN : ∀ (k : Nat) (x : Ex), ks[k]? = some x → SizeOf.sizeOf x ≤ N) (hc : ks.length ≤ c) (hcm : c ≤ maxLen)
    (hr : Rk w (KX w g) 4 A ks.length vs) (hl : RdExL w (KX w g) ks vs) (hB : Blk w g 98 #[.int .i64 (n : Int)])
    (h3 : Blk w b3 96 #[.pointer (some ⟨g, 0, none⟩)]) (h5 : Blk w b5 3 #[.int .i64 (d : Int)]) (hd : d = D + 1) (hn : n ≤ 1000) (hD : D ≤ 1000) (hg3 : b3 ≠ g) (hg5 : b5 ≠ g) :
    Calls Tryz.prog 81 #[.slice A ks.length c, .func (.func 82) #[] #[.pointer (some ⟨b3, 0, none⟩), .pointer (some ⟨b5, 0, none⟩)]] w (PC (mayXL ks n D) g w) := by
  have cI := idx_any N ih ks A c vs w g n d D b3 b5 hN hc hcm hr hl hB h3 h5 hd hn hD hg3 hg5
  clear ih hN hc hcm hr hl hB h3 h5 hn hD hg3 hg5
  generalize mayXL ks n D = r at *
  have hp : ∀ (W : World) (z : Int) (b : Bool), b = r.isNone → GrX w W g → Blk W g 98 #[.int .i64 z] → (∀ m, r = some m → z = (m : Int)) → PC r g w (.returned (.bool b)) W :=
    fun W z b hb h h2 h3 => ⟨by rw [hb], h, z, h2, h3⟩
  have HP := Lib.hid hp
  clear hp
  generalize PC r g w = Post at *
  unfold PI at cI
  go_enter Tryz.func81, Tryz.ntmps81
  go_wp2_with (go_at_call 94; (with_reducible refine cI.mono ?_); rintro e w1 ⟨⟨q, rfl, hq, hq1⟩, hx1, z, hz, hzz⟩)
  refine HP.out _ z _ ?_ hx1 hz hzz
  cases r <;> simp
set_option maxRecDepth 100000 in
set_option maxHeartbeats 8000000 in
theorem pmay_n : ∀ N : Nat, IHM N
  | 0 => by
    intro x v w g n d hN _ _ _ _
    obtain ⟨op, days, mile, ks⟩ := x
    have : 0 < SizeOf.sizeOf (Ex.mk op days mile ks) := by rw [Ex.mk.sizeOf_spec]; omega
    omega
  | N + 1 => by
    intro x v w g n d hN hx hB hn hd
    have ih := pmay_n N
    obtain ⟨op, days, mile, ks⟩ := x
    obtain ⟨A, c, vs, rfl, ⟨hc, hcm, hms⟩, hr, hl⟩ := hx.form
    clear hx
    have cW := fun W => mword_any mile W hms
    have hsz : ∀ (k : Nat) (x : Ex), ks[k]? = some x → SizeOf.sizeOf x ≤ N := by
      intro k x hx
      have h1 := List.sizeOf_lt_of_mem (List.mem_of_getElem? hx)
      have h2 : SizeOf.sizeOf (Ex.mk op days mile ks) = 1 + SizeOf.sizeOf op + SizeOf.sizeOf days + SizeOf.sizeOf mile + SizeOf.sizeOf ks := Ex.mk.sizeOf_spec op days mile ks
      omega
    have hcL : (ks.length : Int) ≤ 9223372036854775807 := by unfold maxLen at hcm; omega
    -- the world behind the boxes and the count
    obtain ⟨W3, hW3⟩ : ∃ W3, ((w.alloc (.cells #[.pointer (some ⟨g, 0, none⟩)] 96)).alloc (.cells #[.int .i64 op, .int .i64 days, .string mile, .slice A ks.length c] 45)).alloc (.cells #[.int .i64 (d : Int)] 3) = W3 := ⟨_, rfl⟩
    have gW3 : Gr w W3 := by rw [← hW3]; exact Gr.trans (Gr.trans (Gr.alloc _ _) (Gr.alloc _ _)) (Gr.alloc _ _)
    have hgl := hB.lt
    have s3 : W3.heap.size = w.heap.size + 3 := by rw [← hW3]; simp
    have B3 : Blk W3 w.heap.size 96 #[.pointer (some ⟨g, 0, none⟩)] := by rw [← hW3]; exact ((Blk.new w _ _).alloc _).alloc _
    have B4 : Blk W3 (w.heap.size + 1) 45 #[.int .i64 op, .int .i64 days, .string mile, .slice A ks.length c] := by
      rw [← hW3]
      have h := (Blk.new (w.alloc (.cells #[.pointer (some ⟨g, 0, none⟩)] 96)) 45 #[.int .i64 op, .int .i64 days, .string mile, .slice A ks.length c]).alloc (.cells #[.int .i64 (d : Int)] 3)
      rwa [show (w.alloc (.cells #[.pointer (some ⟨g, 0, none⟩)] 96)).heap.size = w.heap.size + 1 by simp] at h
    have B5 : Blk W3 (w.heap.size + 1 + 1) 3 #[.int .i64 (d : Int)] := by
      rw [← hW3]
      have h := Blk.new ((w.alloc (.cells #[.pointer (some ⟨g, 0, none⟩)] 96)).alloc (.cells #[.int .i64 op, .int .i64 days, .string mile, .slice A ks.length c] 45)) 3 #[.int .i64 (d : Int)]
      rwa [show ((w.alloc (.cells #[.pointer (some ⟨g, 0, none⟩)] 96)).alloc (.cells #[.int .i64 op, .int .i64 days, .string mile, .slice A ks.length c] 45)).heap.size = w.heap.size + 1 + 1 by simp] at h
    have BC : Blk W3 g 98 #[.int .i64 (n : Int)] := hB.below gW3 hgl
    obtain ⟨W4, hW4⟩ : ∃ W4, W3.setCell ⟨g, 0, none⟩ (.int .i64 ((n : Int) - 1)) = W4 := ⟨_, rfl⟩
    have C3 : Blk W4 w.heap.size 96 #[.pointer (some ⟨g, 0, none⟩)] := by rw [← hW4]; exact B3.far (by show w.heap.size ≠ g; omega) _
    have C4 : Blk W4 (w.heap.size + 1) 45 #[.int .i64 op, .int .i64 days, .string mile, .slice A ks.length c] := by rw [← hW4]; exact B4.far (by show w.heap.size + 1 ≠ g; omega) _
    have C5 : Blk W4 (w.heap.size + 1 + 1) 3 #[.int .i64 (d : Int)] := by rw [← hW4]; exact B5.far (by show w.heap.size + 1 + 1 ≠ g; omega) _
    have CC : Blk W4 g 98 #[.int .i64 ((n : Int) - 1)] := by rw [← hW4]; simpa using BC.set_ 0 (.int .i64 ((n : Int) - 1))
    have xW4 : GrX w W4 g := by rw [← hW4]; exact (GrX.of_gr gW3 g).set_ 0 _
    have hp : ∀ (W : World) (z : Int) (b : Bool), b = (mayX (.mk op days mile ks) n d).isSome → GrX W4 W g → Blk W g 98 #[.int .i64 z] → (∀ m, mayX (.mk op days mile ks) n d = some m → z = (m : Int)) → PM (mayX (.mk op days mile ks) n d) g w false (.returned (.bool b)) W :=
      fun W z b hb h h2 h3 => ⟨by rw [hb]; simp, GrX.tr xW4 h, z, h2, h3⟩
    have HP := Lib.hid hp
    clear hp
    have hG3 := Lib.hid gW3
    have p3 : W3.cell? ⟨w.heap.size, 0, none⟩ = some (.pointer (some ⟨g, 0, none⟩)) := B3.cell 0
    have p5 : W3.cell? ⟨w.heap.size + 1 + 1, 0, none⟩ = some (.int .i64 (d : Int)) := B5.cell 0
    have pc : W3.cell? ⟨g, 0, none⟩ = some (.int .i64 (n : Int)) := BC.cell 0
    have pf : W3.frozen? ⟨g, 0, none⟩ = false := BC.frozen 0
    have q3 : W4.cell? ⟨w.heap.size, 0, none⟩ = some (.pointer (some ⟨g, 0, none⟩)) := C3.cell 0
    have q5 : W4.cell? ⟨w.heap.size + 1 + 1, 0, none⟩ = some (.int .i64 (d : Int)) := C5.cell 0
    have qc : W4.cell? ⟨g, 0, none⟩ = some (.int .i64 ((n : Int) - 1)) := CC.cell 0
    obtain ⟨q40, q41, q42, q43⟩ := four_ex C4
    have l4 : w.heap.size + 1 < W4.heap.size := C4.lt
    have cC : ∀ M D : Nat, (n : Int) - 1 = (M : Int) → d = D + 1 → M ≤ 1000 → D ≤ 1000 → Calls Tryz.prog 81 #[.slice A ks.length c, .func (.func 82) #[] #[.pointer (some ⟨w.heap.size, 0, none⟩), .pointer (some ⟨w.heap.size + 1 + 1, 0, none⟩)]] W4 (PC (mayXL ks M D) g W4) :=
      fun M D hM hd h1 h2 => cont_any N ih ks A c vs W4 g M d D _ _ hsz hc hcm (hr.x xW4) (hl.x xW4) (by rw [← hM]; exact CC) C3 C5 hd h1 h2 (by omega) (by omega)
    have HcC := Lib.hid cC
    clear cC ih hr hl hsz
    subst hW4 hW3
    have refl4 := World.grownBy.refl (((w.alloc (.cells #[.pointer (some ⟨g, 0, none⟩)] 96)).alloc (.cells #[.int .i64 op, .int .i64 days, .string mile, .slice A ks.length c] 45)).alloc (.cells #[.int .i64 (d : Int)] 3) |>.setCell ⟨g, 0, none⟩ (.int .i64 ((n : Int) - 1))) (some g)
    have hno : mayX (.mk op days mile ks) n d = none → ∀ m, mayX (.mk op days mile ks) n d = some m → ((n : Int) - 1) = (m : Int) := fun h m hm => by rw [h] at hm; cases hm
    have HNO := Lib.hid hno
    clear hno B3 B4 B5 BC C3 C4 C5 xW4 hG3 gW3 s3
    generalize hPost : PM (mayX (.mk op days mile ks) n d) g w false = Post at *
    have HCC := Lib.hid CC
    clear CC hPost
    by_cases h0 : n = 0 ∨ d = 0
    · have hm := @mayX_0 op days mile ks n d h0
      have HM := Lib.hid hm
      rcases (by simp only [beq_iff_eq]; omega : n < 1 ∨ (1 ≤ n ∧ ((d : Int) == 0) = true)) with h | ⟨h, h'⟩
      all_goals
        clear h0 cW hm
        go_enter Tryz.func67, Tryz.ntmps67
        go_wp2
        all_goals (try (exfalso; omega))
        exact HP.out _ _ _ (by rw [HM.out]; try rfl) refl4 HCC.out (HNO.out HM.out)
    · have hn1 : 1 ≤ n := by omega
      have hd1 : 1 ≤ d := by omega
      have hd2 : ((d : Int) == 0) = false := by simp; omega
      have hd3 : decide (d = 0) = false := decide_eq_false (by omega)
      by_cases ho : op = 1
      · subst ho
        have hm := @mayX_1 days mile ks n d h0
        clear h0
        rcases (by omega : days < 0 ∨ 1048576 < days ∨ (0 ≤ days ∧ days ≤ 1048576)) with h | h | ⟨h, h'⟩
        iterate 2
          · rw [if_neg (by omega)] at hm
            have HM := Lib.hid hm
            clear hm cW
            go_enter Tryz.func67, Tryz.ntmps67
            go_wp2
            all_goals (try (exfalso; omega))
            exact HP.out _ _ _ (by rw [HM.out]; try rfl) refl4 HCC.out (HNO.out HM.out)
        · cases hmd : mileD mile with
          | false =>
            simp only [hmd] at cW
            rw [if_neg (by rw [hmd]; simp)] at hm
            have HM := Lib.hid hm
            clear hm hmd
            go_enter Tryz.func67, Tryz.ntmps67
            go_wp2_with (go_at_call 80; (with_reducible refine (cW _).mono ?_); rintro e w1 ⟨rfl, hb1⟩; have r3 := (hb1.cell (p := ⟨w.heap.size + 1, 3, none⟩) l4).trans q43)
            all_goals (try (exfalso; omega))
            exact HP.out _ _ _ (by rw [HM.out]; try rfl) (GrX.of_gr hb1 g) (HCC.out.below hb1 HCC.out.lt) (HNO.out HM.out)
          | true =>
            simp only [hmd] at cW
            by_cases hk : ks.length = 0
            · rw [if_pos ⟨h, h', hmd, hk⟩] at hm
              have HM := Lib.hid hm
              have hk0 : ((ks.length : Int) == 0) = true := beq_iff_eq.2 (by omega)
              clear hm hmd hk
              go_enter Tryz.func67, Tryz.ntmps67
              go_wp2_with (go_at_call 80; (with_reducible refine (cW _).mono ?_); rintro e w1 ⟨rfl, hb1⟩; have r3 := (hb1.cell (p := ⟨w.heap.size + 1, 3, none⟩) l4).trans q43)
              all_goals (try (exfalso; omega))
              exact HP.out _ _ _ (by rw [HM.out]; try rfl) (GrX.of_gr hb1 g) (HCC.out.below hb1 HCC.out.lt) (fun m hm => by rw [HM.out] at hm; cases hm; omega)
            · rw [if_neg (fun h => hk h.2.2.2)] at hm
              have HM := Lib.hid hm
              have hk1 : 1 ≤ ks.length := by omega
              have hk2 : ((ks.length : Int) == 0) = false := beq_eq_false_iff_ne.2 (by omega)
              clear hm hmd
              go_enter Tryz.func67, Tryz.ntmps67
              go_wp2_with (go_at_call 80; (with_reducible refine (cW _).mono ?_); rintro e w1 ⟨rfl, hb1⟩; have r3 := (hb1.cell (p := ⟨w.heap.size + 1, 3, none⟩) l4).trans q43)
              all_goals (try (exfalso; omega))
              exact HP.out _ _ _ (by rw [HM.out]; try rfl) (GrX.of_gr hb1 g) (HCC.out.below hb1 HCC.out.lt) (HNO.out HM.out)
      · have hm := @mayX_2 op days mile ks n d h0 ho
        clear h0 cW
        have o1 : (op == 1) = false := by simp [ho]
        have o1' : decide (op = 1) = false := by simp [ho]
        by_cases h2 : op = 2 ∨ op = 3
        · by_cases hdy : days = 0
          · subst hdy
            by_cases hms0 : mile.size = 0
            · obtain rfl := str_zero hms0
              by_cases hk2 : 2 ≤ ks.length
              · rw [if_pos ⟨h2, rfl, hms0, hk2⟩] at hm
                obtain ⟨M, hM⟩ : ∃ M, n - 1 = M := ⟨_, rfl⟩
                obtain ⟨D, hD⟩ : ∃ D, d - 1 = D := ⟨_, rfl⟩
                rw [hM, hD] at hm
                have hM2 : (n : Int) - 1 = (M : Int) := by omega
                have f2 : decide ((ks.length : Int) < 2) = false := decide_eq_false (by omega)
                have hdD : d = D + 1 := by omega
                have hD1 : D ≤ 1000 := by omega
                have hM1 : M ≤ 1000 := by omega
                have cC := HcC.out M D hM2 hdD hM1 hD1
                have hpp : ∀ (W : World) (z : Int) (r : Option Nat), mayXL ks M D = r → (∀ m, r = some m → z = (m : Int)) → ∀ m, mayX (.mk op 0 ⟨#[]⟩ ks) n d = some m → z = (m : Int) := fun W z r hr h m h2 => h m (by rw [← hr, ← hm, h2])
                have hmb : (mayX (.mk op 0 ⟨#[]⟩ ks) n d).isSome = !(mayXL ks M D).isNone := by rw [hm]; cases mayXL ks M D <;> rfl
                have HPP := Lib.hid hpp
                have HMB := Lib.hid hmb
                unfold PC at cC
                generalize hq : mayXL ks M D = q at *
                have HQ := Lib.hid hq
                clear hpp hmb hm hq hM hD hdD hD1 hM1 hM2
                cases q
                all_goals
                  rcases h2 with rfl | rfl
                  all_goals
                    clear ho
                    go_enter Tryz.func67, Tryz.ntmps67
                    go_wp2_with (go_at_call 81; (with_reducible refine cC.mono ?_); rintro e w1 ⟨rfl, hx1, z, hz, hzz⟩)
                    all_goals (try (exfalso; omega))
                    exact HP.out _ z _ (by rw [HMB.out]; try rfl) hx1 hz (HPP.out w1 z _ rfl hzz)
              · rw [if_neg (by omega)] at hm
                have HM := Lib.hid hm
                have hk2' : (ks.length : Int) < 2 := by omega
                clear hm
                rcases h2 with rfl | rfl
                all_goals
                  clear ho
                  go_enter Tryz.func67, Tryz.ntmps67
                  go_wp2
                  all_goals (try (exfalso; omega))
                  exact HP.out _ _ _ (by rw [HM.out]; try rfl) refl4 HCC.out (HNO.out HM.out)
            · rw [if_neg (by omega)] at hm
              have HM := Lib.hid hm
              obtain ⟨s1, s2, s3⟩ := str_nil hms0
              clear hms0 hm
              rcases h2 with rfl | rfl
              all_goals
                clear ho
                go_enter Tryz.func67, Tryz.ntmps67
                go_wp2
                all_goals (try (exfalso; omega))
                exact HP.out _ _ _ (by rw [HM.out]; try rfl) refl4 HCC.out (HNO.out HM.out)
          · rw [if_neg (by omega)] at hm
            have HM := Lib.hid hm
            have y1 : (days == 0) = false := by simp [hdy]
            have y2 : (days != 0) = true := by simp [hdy]
            have y3 : decide (days = 0) = false := by simp [hdy]
            clear hm
            rcases h2 with rfl | rfl
            all_goals
              clear ho
              go_enter Tryz.func67, Tryz.ntmps67
              go_wp2
              all_goals (try (exfalso; omega))
              exact HP.out _ _ _ (by rw [HM.out]; try rfl) refl4 HCC.out (HNO.out HM.out)
        · rw [if_neg (by omega)] at hm
          have HM := Lib.hid hm
          have y1 : (op == 2) = false := by simp; omega
          have y2 : (op != 2) = true := by simp; omega
          have y3 : (op == 3) = false := by simp; omega
          have y4 : (op != 3) = true := by simp; omega
          clear hm
          go_enter Tryz.func67, Tryz.ntmps67
          go_wp2
          all_goals (try (exfalso; omega))
          exact HP.out _ _ _ (by rw [HM.out]; try rfl) refl4 HCC.out (HNO.out HM.out)
end Go.Proofs.YtogpmihepfnoaaaGreatDoor
