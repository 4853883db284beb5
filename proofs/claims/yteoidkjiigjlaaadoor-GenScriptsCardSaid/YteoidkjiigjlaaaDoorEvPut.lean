/- Events: an event as bytes. -/
import Derived.Test.YteoidkjiigjlaaaDoorEvTell
import Derived.Test.YteoidkjiigjlaaaDoorFacts
namespace Go.Proofs.YteoidkjiigjlaaaDoor
open Go Go.RowKit Go.Sort

theorem int_of (t : Int) (w : World) (h0 : 0 ≤ t) (h : t ≤ 9223372036854775807) : Calls Tryd.prog 42 #[.int .i64 t] w fun e w' => ∃ v, e = .returned v ∧ OwnB w' w.heap.size v (numB t.toNat) ∧ Gr w w' := by
  obtain ⟨n, rfl⟩ : ∃ n : Nat, t = n := ⟨t.toNat, by omega⟩
  rw [Int.toNat_natCast]
  exact int_any n w (by omega)
theorem refint_of (t : Int) (w : World) (h0 : 0 ≤ t) (h : t ≤ 9223372036854775807) : Calls Tryd.prog 45 #[.int .i64 t] w fun e w' => ∃ v, e = .returned v ∧ OwnB w' w.heap.size v (numB t.toNat) ∧ Gr w w' := by
  obtain ⟨n, rfl⟩ : ∃ n : Nat, t = n := ⟨t.toNat, by omega⟩
  rw [Int.toNat_natCast]
  exact refint_any n w (by omega)
theorem Reads.lit (w : World) (t : TypeId) (cs : Array Value) : Reads (w.alloc (.cells cs t)) (w.alloc (.cells cs t)).heap.size 1 (some ⟨w.heap.size, 0, none⟩) cs.size cs.toList := by
  refine ⟨by simp, fun _ => ⟨_, rfl, ?_, fun j u hu => ?_⟩⟩
  · exact (Blk.new w t cs).lt
  · have e : (⟨w.heap.size, 0, none⟩ : Addr).add j = ⟨w.heap.size, j, none⟩ := by
      unfold Addr.add
      split
      · rename_i h0; simp_all
      · simp
    rw [e, (Blk.new w t cs).cell j]
    simpa using hu
theorem RdL.nil (w : World) (B : Nat) : RdL w B [] [] := ⟨rfl, fun i v l h _ => by simp at h⟩
theorem RdL.cons {w : World} {B : Nat} {v : Value} {l : List UInt8} {vs : List Value} {ls : List (List UInt8)} (h : RdB w B v l) (hs : RdL w B vs ls) : RdL w B (v :: vs) (l :: ls) :=
  ⟨by simp [hs.1], fun i v' l' hv hl => match i with
    | 0 => by simp only [List.getElem?_cons_zero, Option.some.injEq] at hv hl; subst hv; subst hl; exact h
    | i + 1 => hs.2 i v' l' (by simpa using hv) (by simpa using hl)⟩
theorem Reads.far {w w' : World} {B size n : Nat} {A : Option Addr} {xs : List Value} (h : Reads w B size A n xs) (hk : ∀ ad, A = some ad → ad.block < B → ∀ p : Addr, p.block = ad.block → w'.cell? p = w.cell? p) : Reads w' B size A n xs :=
  ⟨h.1, fun hn => by
    obtain ⟨ad, e, hb, hc⟩ := h.2 hn
    exact ⟨ad, e, hb, fun j u hu => (hk ad e hb _ (block_of_add _ _)).trans (hc j u hu)⟩⟩
/-- A slice that reads as these bytes, in a block from base on. -/
def RdN (w : World) (base : Nat) (v : Value) (l : List UInt8) : Prop := ∃ A c, v = .slice A l.length c ∧ l.length ≤ c ∧ Reads w w.heap.size 1 A l.length (bvs l) ∧ ∀ ad, A = some ad → base ≤ ad.block
def fRdN (base : Nat) (l : List UInt8) : Fact := ⟨fun v w => RdN w base v l, fun _ _ _ ⟨A, c, e, hc, hr, hn⟩ hg => ⟨A, c, e, hc, (hr.keep fun _ hp => hg.cell hp).more hg.size, hn⟩⟩
theorem RdN.rd {w : World} {base : Nat} {v : Value} {l : List UInt8} (h : RdN w base v l) : RdB w w.heap.size v l := by
  obtain ⟨A, c, e, hc, hr, _⟩ := h
  exact ⟨A, c, e, hc, hr⟩
/-- It stays where an older row of one's own grows. -/
theorem RdN.grown {w w' : World} {base : Nat} {v vb : Value} {l : List UInt8} (h : RdN w base v l) (hg : w.grownBy w' vb.ownBlock) (hs : w.heap.size ≤ w'.heap.size) (ho : ∀ g, vb.ownBlock = some g → g < base) : RdN w' base v l := by
  obtain ⟨A, c, e, hc, hr, hn⟩ := h
  refine ⟨A, c, e, hc, Reads.more (Reads.far hr fun ad ha hlt p hp => ?_) hs, hn⟩
  have hn' := hn ad ha
  exact World.cell?_of_block (hg.block p.block (by omega) (fun e => by have := ho _ e.symm; omega))
def fOwn (base : Nat) (l : List UInt8) : Fact := ⟨fun v w => OwnB w base v l, fun _ _ _ h hg => h.gr hg⟩
def fRd (l : List UInt8) : Fact := ⟨fun v w => RdB w w.heap.size v l, fun _ _ _ h hg => (h.gr (Nat.le_refl _) hg).more hg.size⟩
/-- A list of slices that read as these lists of bytes. -/
def fList (ls : List (List UInt8)) : Fact := ⟨fun v w => ∃ A c vs, v = .slice A ls.length c ∧ Reads w w.heap.size 1 A ls.length vs ∧ RdL w w.heap.size vs ls,
  fun _ _ _ ⟨A, c, vs, e, h1, h2⟩ hg => ⟨A, c, vs, e, (h1.keep fun _ hp => hg.cell hp).more hg.size, h2.1, fun i v l hv hl => ((h2.2 i v l hv hl).gr (Nat.le_refl _) hg).more hg.size⟩⟩
theorem conv_str (w : World) (s : ByteArray) : (convert 9 25 (.string s)).run Tryd.prog w = .ok (.slice (some ⟨w.heap.size, 0, none⟩) s.size (grownCap w s.size 0 5)) (Lib.bytesWorld w 5 s) :=
  Lib.run_convert_string_bytes (P := Tryd.prog) w 9 25 5 s Tryd.underlying9 Tryd.underlying25 Tryd.underlying5
theorem conv_rd (w : World) (s : ByteArray) : RdB (Lib.bytesWorld w 5 s) (Lib.bytesWorld w 5 s).heap.size (.slice (some ⟨w.heap.size, 0, none⟩) s.size (grownCap w s.size 0 5)) s.data.toList := by
  have hl : s.data.toList.length = s.size := by simp
  refine ⟨some ⟨w.heap.size, 0, none⟩, _, by rw [hl], ?_, by simp [bvs], fun _ => ⟨_, rfl, ?_, fun j u hu => ?_⟩⟩
  · rw [hl]; exact grownCap_ge _ _ _ _
  · rw [Lib.bytesWorld_size]; show w.heap.size < _; omega
  · have hj : j < s.size := by
      have := (List.getElem?_eq_some_iff.1 hu).1
      simpa [bvs] using this
    have := Lib.bytesWorld_cell w 5 s j hj
    have e : (⟨w.heap.size, 0, none⟩ : Addr).add j = ⟨w.heap.size, j, none⟩ := by
      unfold Addr.add
      split
      · rename_i h0; simp_all
      · simp
    rw [e, this]
    simp only [bvs, List.getElem?_map] at hu
    rw [List.getD_eq_getElem?_getD]
    cases hx : s.data.toList[j]? with
    | none => rw [hx] at hu; cases hu
    | some x => rw [hx] at hu; simpa [bv] using hu
theorem conv_rdN (w : World) (s : ByteArray) (base : Nat) (hb : base ≤ w.heap.size) : RdN (Lib.bytesWorld w 5 s) base (.slice (some ⟨w.heap.size, 0, none⟩) s.size (grownCap w s.size 0 5)) s.data.toList := by
  obtain ⟨A, c, e, hc, hr⟩ := conv_rd w s
  refine ⟨A, c, e, hc, hr, fun ad ha => ?_⟩
  injection e with e _ _
  rw [← e] at ha
  obtain rfl := Option.some.inj ha
  exact hb
theorem OwnB.lt {w : World} {base g : Nat} {v : Value} {l : List UInt8} (h : OwnB w base v l) (hg : v.ownBlock = some g) : g < w.heap.size := by
  rcases h.2 with ⟨rfl, _⟩ | ⟨g', cap, cur, rfl, e2, e3, _⟩
  · simp [Value.ownBlock] at hg
  · have : g' = g := by simpa [Value.ownBlock] using hg
    subst this
    rcases Nat.lt_or_ge g' w.heap.size with h' | h'
    · exact h'
    · rw [Array.getElem?_eq_none h'] at e3; cases e3
def fOwnAt (base : Nat) (vb : Value) (l : List UInt8) : Fact := ⟨fun v w => v = vb ∧ OwnB w base vb l, fun _ _ _ h hg => ⟨h.1, h.2.gr hg⟩⟩
/-- An event's bytes. -/
def evL (k t : Int) (a b : ByteArray) : List UInt8 := [UInt8.ofNat k.toNat] ++ numB t.toNat ++ textB a.data.toList ++ textB b.data.toList
def evB (k t : Int) (a b : ByteArray) : List UInt8 := if mayD k t a b then evL k t a b else []
def evE (k t : Int) (a b : ByteArray) : Int := if mayD k t a b then 0 else 1

theorem ev_flat (k t : Int) (a b : ByteArray) : [[UInt8.ofNat k.toNat], numB t.toNat, textB a.data.toList, textB b.data.toList].flatten = evL k t a b := by simp [evL]
theorem ev_len (k t : Int) (a b : ByteArray) (h0 : 0 ≤ t) (h : t ≤ 1099511627776) (ha : a.size ≤ 16) (hb : b.size ≤ 16) : (evL k t a b).length ≤ 1073741824 := by
  have h1 := numB_len t.toNat (by omega)
  have h2 := numB_len a.size (by omega)
  have h3 := numB_len b.size (by omega)
  simp [evL, textB]
  omega
theorem RdL.more {w : World} {B B' : Nat} {vs : List Value} {ls : List (List UInt8)} (h : RdL w B vs ls) (hB : B ≤ B') : RdL w B' vs ls := ⟨h.1, fun i v l h1 h2 => (h.2 i v l h1 h2).more hB⟩

section
variable (k t : Int) (a b : ByteArray) (w : World)
set_option maxRecDepth 100000 in
set_option maxHeartbeats 2000000 in
theorem put_any (hk : k ≤ 9223372036854775807) (ha : a.size ≤ 140737488351232) (hb : b.size ≤ 140737488351232) :
    Calls Tryd.prog 11 #[evV k t a b] w fun e w' => ∃ v, e = .returned (.tuple #[v, .int .i64 (evE k t a b)]) ∧ OwnB w' w.heap.size v (evB k t a b) ∧ Gr w w' := by
  unfold evE evB evV evC
  have hc := fun W => check_any k t a b W hk ha hb
  unfold evV evC at hc
  cases hm : mayD k t a b
  · rw [hm] at hc
    go_enter Tryd.func11, Tryd.ntmps11
    go_wp2_with (go_at_call 15; (with_reducible refine (hc _).mono ?_); rintro e w1 ⟨rfl, hb1⟩
                 have hG := Gr.trans (Gr.alloc w _) hb1
                 have hB1 := (Blk.new w _ _).below hb1 (Blk.new w _ _).lt
                 obtain ⟨c10, c11, c12, c13⟩ := four_cells hB1)
    go_ret2
    exact ⟨_, rfl, OwnB.nil _ _, hG⟩
  · rw [hm] at hc
    obtain ⟨k1, k2, t0, t1, na, nb⟩ := may_true hm
    have sa := nm_size a na
    have sb := nm_size b nb
    clear na nb hm
    go_enter Tryd.func11, Tryd.ntmps11
    go_wp2_with (go_at_call 15; (with_reducible refine (hc _).mono ?_); rintro e w1 ⟨rfl, hb1⟩
                 have hG := Gr.trans (Gr.alloc w _) hb1
                 have hB1 := (Blk.new w _ _).below hb1 (Blk.new w _ _).lt
                 obtain ⟨c10, c11, c12, c13⟩ := four_cells hB1)
    refine wp_region_facts [.is (.pointer (some ⟨w.heap.size, 0, none⟩)), .is (.int .i64 k), .is (.int .u8 k), fOwn w1.heap.size [UInt8.ofNat k.toNat],
      .is (.pointer (some ⟨w.heap.size, 1, none⟩)), .is (.int .i64 t), fOwn w1.heap.size (numB t.toNat),
      .is (.pointer (some ⟨w.heap.size, 2, none⟩)), .is (.string a), fRd a.data.toList, fOwn w1.heap.size (textB a.data.toList),
      .is (.pointer (some ⟨w.heap.size, 3, none⟩)), .is (.string b), fRd b.data.toList, fOwn w1.heap.size (textB b.data.toList),
      fList [[UInt8.ofNat k.toNat], numB t.toNat, textB a.data.toList, textB b.data.toList], fOwn w1.heap.size (evL k t a b), fOwn w1.heap.size (evL k t a b), .is (.int .i64 0)]
      noI noS noSI w1.heap.size (by kernel_rfl) rfl (by kernel_rfl) (by kernel_rfl) (Nat.le_refl _) trivial (fun vals => by simp [fillA, dstsOf, go_sem]; rfl) ?_ ?_
    · intro i hi
      replace hi : i < 19 := hi
      have kc := conv_str
      rcases (by omega : i = 0 ∨ i = 1 ∨ i = 2 ∨ i = 3 ∨ i = 4 ∨ i = 5 ∨ i = 6 ∨ i = 7 ∨ i = 8 ∨ i = 9 ∨ i = 10 ∨ i = 11 ∨ i = 12 ∨ i = 13 ∨ i = 14 ∨ i = 15 ∨ i = 16 ∨ i = 17 ∨ i = 18) with rfl | rfl | rfl | rfl | rfl | rfl | rfl | rfl | rfl | rfl | rfl | rfl | rfl | rfl | rfl | rfl | rfl | rfl | rfl
      · refine step_g 0 [] _ _ rfl rfl (fun _ _ _ _ => trivial) (by kernel_rfl) fun vals W hb hB _ hd => ?_
        go_wp2
        exact ⟨rfl, _, rfl, Gr.refl _, rfl⟩
      · refine step_g 1 [0] _ _ rfl rfl (fun _ _ _ _ => trivial) (by kernel_rfl) fun vals W hb hB _ hd => ?_
        have h0 : vals 0 = _ := hd 0 (by simp) _ rfl
        rw [h0]
        obtain ⟨d0, d1, d2, d3⟩ := four_cells (hB1.below hb hB1.lt)
        go_wp2
        exact ⟨rfl, _, rfl, Gr.refl _, rfl⟩
      · refine step_g 2 [1] _ _ rfl rfl (fun _ _ _ _ => trivial) (by kernel_rfl) fun vals W hb hB _ hd => ?_
        have h0 : vals 1 = _ := hd 1 (by simp) _ rfl
        rw [h0]
        go_wp2
        exact ⟨rfl, _, rfl, Gr.refl _, rfl⟩
      · refine step_g 3 [2] _ _ rfl rfl (fun _ _ _ _ => trivial) (by kernel_rfl) fun vals W hb hB _ hd => ?_
        have h0 : vals 2 = _ := hd 2 (by simp) _ rfl
        rw [h0]
        go_wp2
        exact ⟨rfl, _, rfl, Gr.alloc _ _, OwnB.new W _ _ hB (by simp [maxLen]) _ (by simp [bvs, bv_nat _ (show k.toNat < 256 by omega)]; omega)⟩
      · refine step_g 4 [] _ _ rfl rfl (fun _ _ _ _ => trivial) (by kernel_rfl) fun vals W hb hB _ hd => ?_
        go_wp2
        exact ⟨rfl, _, rfl, Gr.refl _, rfl⟩
      · refine step_g 5 [4] _ _ rfl rfl (fun _ _ _ _ => trivial) (by kernel_rfl) fun vals W hb hB _ hd => ?_
        have h0 : vals 4 = _ := hd 4 (by simp) _ rfl
        rw [h0]
        obtain ⟨d0, d1, d2, d3⟩ := four_cells (hB1.below hb hB1.lt)
        go_wp2
        exact ⟨rfl, _, rfl, Gr.refl _, rfl⟩
      · refine step_g 6 [5] _ _ rfl rfl (fun _ _ _ _ => trivial) (by kernel_rfl) fun vals W hb hB _ hd => ?_
        have h0 : vals 5 = _ := hd 5 (by simp) _ rfl
        rw [h0]
        go_wp2_with (go_at_call 42; (with_reducible refine (int_of t W t0 (by omega)).mono ?_); rintro e w2 ⟨v2, rfl, ho2, hb2⟩)
        exact ⟨rfl, _, rfl, hb2, ho2.lower hB⟩
      · refine step_g 7 [] _ _ rfl rfl (fun _ _ _ _ => trivial) (by kernel_rfl) fun vals W hb hB _ hd => ?_
        go_wp2
        exact ⟨rfl, _, rfl, Gr.refl _, rfl⟩
      · refine step_g 8 [7] _ _ rfl rfl (fun _ _ _ _ => trivial) (by kernel_rfl) fun vals W hb hB _ hd => ?_
        have h0 : vals 7 = _ := hd 7 (by simp) _ rfl
        rw [h0]
        obtain ⟨d0, d1, d2, d3⟩ := four_cells (hB1.below hb hB1.lt)
        go_wp2
        exact ⟨rfl, _, rfl, Gr.refl _, rfl⟩
      · refine step_g 9 [8] _ _ rfl rfl (fun _ _ _ _ => trivial) (by kernel_rfl) fun vals W hb hB _ hd => ?_
        have h0 : vals 8 = _ := hd 8 (by simp) _ rfl
        rw [h0]
        go_wp2
        exact ⟨rfl, _, rfl, bytes_below _ _ _, conv_rd _ _⟩
      · refine step_g 10 [9] _ _ rfl rfl (fun _ _ _ _ => trivial) (by kernel_rfl) fun vals W hb hB _ hd => ?_
        have h0 : RdB W W.heap.size (vals 9) a.data.toList := hd 9 (by simp) _ rfl
        generalize vals 9 = v0 at h0 ⊢
        go_wp2_with (go_at_call 43; (with_reducible refine (tlvtext_any W W.heap.size v0 _ (Nat.le_refl _) h0 (by simp; omega)).mono ?_); rintro e w2 ⟨v2, rfl, ho2, hb2⟩)
        exact ⟨rfl, _, rfl, hb2, ho2.lower hB⟩
      · refine step_g 11 [] _ _ rfl rfl (fun _ _ _ _ => trivial) (by kernel_rfl) fun vals W hb hB _ hd => ?_
        go_wp2
        exact ⟨rfl, _, rfl, Gr.refl _, rfl⟩
      · refine step_g 12 [11] _ _ rfl rfl (fun _ _ _ _ => trivial) (by kernel_rfl) fun vals W hb hB _ hd => ?_
        have h0 : vals 11 = _ := hd 11 (by simp) _ rfl
        rw [h0]
        obtain ⟨d0, d1, d2, d3⟩ := four_cells (hB1.below hb hB1.lt)
        go_wp2
        exact ⟨rfl, _, rfl, Gr.refl _, rfl⟩
      · refine step_g 13 [12] _ _ rfl rfl (fun _ _ _ _ => trivial) (by kernel_rfl) fun vals W hb hB _ hd => ?_
        have h0 : vals 12 = _ := hd 12 (by simp) _ rfl
        rw [h0]
        go_wp2
        exact ⟨rfl, _, rfl, bytes_below _ _ _, conv_rd _ _⟩
      · refine step_g 14 [13] _ _ rfl rfl (fun _ _ _ _ => trivial) (by kernel_rfl) fun vals W hb hB _ hd => ?_
        have h0 : RdB W W.heap.size (vals 13) b.data.toList := hd 13 (by simp) _ rfl
        generalize vals 13 = v0 at h0 ⊢
        go_wp2_with (go_at_call 43; (with_reducible refine (tlvtext_any W W.heap.size v0 _ (Nat.le_refl _) h0 (by simp; omega)).mono ?_); rintro e w2 ⟨v2, rfl, ho2, hb2⟩)
        exact ⟨rfl, _, rfl, hb2, ho2.lower hB⟩
      · refine step_g 15 [3, 6, 10, 14] _ _ rfl rfl (fun _ _ _ _ => trivial) (by kernel_rfl) fun vals W hb hB _ hd => ?_
        have h0 := (show OwnB W w1.heap.size (vals 3) _ from hd 3 (by simp) _ rfl).rd
        have h1 := (show OwnB W w1.heap.size (vals 6) _ from hd 6 (by simp) _ rfl).rd
        have h2 := (show OwnB W w1.heap.size (vals 10) _ from hd 10 (by simp) _ rfl).rd
        have h3 := (show OwnB W w1.heap.size (vals 14) _ from hd 14 (by simp) _ rfl).rd
        have HR := Lib.hid (RdL.cons h0 (RdL.cons h1 (RdL.cons h2 (RdL.cons h3 (RdL.nil _ _)))))
        obtain ⟨A0, c0, e0, _, _⟩ := h0
        obtain ⟨A1, c1, e1, _, _⟩ := h1
        obtain ⟨A2, c2, e2, _, _⟩ := h2
        obtain ⟨A3, c3, e3, _, _⟩ := h3
        rw [e0, e1, e2, e3] at HR ⊢
        go_wp2
        exact ⟨rfl, _, rfl, Gr.alloc _ _, _, _, _, rfl, Reads.lit W _ _, (HR.out.gr (Nat.le_refl _) (Gr.alloc _ _)).more (Gr.alloc _ _).size⟩
      · refine step_g 16 [15] _ _ rfl rfl (fun _ _ _ _ => trivial) (by kernel_rfl) fun vals W hb hB _ hd => ?_
        obtain ⟨A, c, vs, h0, h1, h2⟩ := hd 15 (by simp) _ rfl
        have hfl := ev_flat k t a b
        have hle := ev_len k t a b (by omega) (by omega) sa sb
        rw [h0]
        go_wp2_with (go_at_call 41; (refine (all_any W W.heap.size A c vs _ (Nat.le_refl _) h1 h2 (by rw [hfl]; exact hle) (by simp)).mono ?_); rintro e w2 ⟨v2, rfl, ho2, hb2⟩)
        rw [hfl] at ho2
        exact ⟨rfl, _, rfl, hb2, ho2.lower hB⟩
      · refine step_g 17 [16] _ _ rfl rfl (fun _ _ _ _ => trivial) (by kernel_rfl) fun vals W hb hB _ hd => ?_
        have h0 : OwnB W w1.heap.size (vals 16) _ := hd 16 (by simp) _ rfl
        go_wp2
        exact ⟨rfl, _, rfl, Gr.refl _, h0⟩
      · refine step_g 18 [] _ _ rfl rfl (fun _ _ _ _ => trivial) (by kernel_rfl) fun vals W hb hB _ hd => ?_
        go_wp2
        exact ⟨rfl, _, rfl, Gr.refl _, rfl⟩
    · intro vals W hb hf
      have h17 : OwnB W w1.heap.size (vals 17) (evL k t a b) := hf 17 _ rfl (fun _ _ => rfl)
      have h18 : vals 18 = _ := hf 18 _ rfl (fun _ _ => rfl)
      rw [h18]
      go_wp2
      go_ret2
      exact ⟨_, rfl, h17.lower hG.size, Gr.trans hG hb⟩
set_option maxRecDepth 100000 in
set_option maxHeartbeats 2000000 in
theorem refput_any (hk : k ≤ 9223372036854775807) (ha : a.size ≤ 140737488351232) (hb : b.size ≤ 140737488351232) :
    Calls Tryd.prog 12 #[evV k t a b] w fun e w' => ∃ v, e = .returned (.tuple #[v, .int .i64 (evE k t a b)]) ∧ OwnB w' w.heap.size v (evB k t a b) ∧ Gr w w' := by
  unfold evE evB evV evC
  have hc := fun W => refmay_any k t a b W ha hb
  unfold evV evC at hc
  cases hm : mayD k t a b
  · rw [hm] at hc
    go_enter Tryd.func12, Tryd.ntmps12
    go_wp2_with (go_at_call 44; (with_reducible refine (hc _).mono ?_); rintro e w1 ⟨rfl, hb1⟩
                 have hG := Gr.trans (Gr.alloc w _) hb1
                 have hB1 := (Blk.new w _ _).below hb1 (Blk.new w _ _).lt
                 obtain ⟨c10, c11, c12, c13⟩ := four_cells hB1)
    go_ret2
    exact ⟨_, rfl, OwnB.nil _ _, hG⟩
  · rw [hm] at hc
    obtain ⟨k1, k2, t0, t1, na, nb⟩ := may_true hm
    have sa := nm_size a na
    have sb := nm_size b nb
    clear na nb hm
    go_enter Tryd.func12, Tryd.ntmps12
    go_wp2_with (go_at_call 44; (with_reducible refine (hc _).mono ?_); rintro e w1 ⟨rfl, hb1⟩
                 have hG := Gr.trans (Gr.alloc w _) hb1
                 have hB1 := (Blk.new w _ _).below hb1 (Blk.new w _ _).lt
                 obtain ⟨c10, c11, c12, c13⟩ := four_cells hB1)
    have h9 := numB_len t.toNat (by omega)
    have h9a := numB_len a.size (by omega)
    have h9b := numB_len b.size (by omega)
    refine wp_region_facts [.is (.pointer (some ⟨w.heap.size, 0, none⟩)), .is (.int .i64 k), .is (.int .u8 k), fOwn w1.heap.size [UInt8.ofNat k.toNat],
      .is (.pointer (some ⟨w.heap.size, 1, none⟩)), .is (.int .i64 t), fOwn w1.heap.size (numB t.toNat), fOwn w1.heap.size ([UInt8.ofNat k.toNat] ++ numB t.toNat), fOwn w1.heap.size ([UInt8.ofNat k.toNat] ++ numB t.toNat)]
      noI (fun i j => i == 7 && decide (j < 7)) noSI w1.heap.size (by kernel_rfl) rfl (by kernel_rfl) (by kernel_rfl) (Nat.le_refl _) trivial (fun vals => by simp [fillA, dstsOf, go_sem]; rfl) ?_ ?_
    · intro i hi
      replace hi : i < 9 := hi
      have hI : ∀ w w', noI w → Gr w w' → noI w' := fun _ _ _ _ => trivial
      rcases (by omega : i = 0 ∨ i = 1 ∨ i = 2 ∨ i = 3 ∨ i = 4 ∨ i = 5 ∨ i = 6 ∨ i = 7 ∨ i = 8) with rfl | rfl | rfl | rfl | rfl | rfl | rfl | rfl | rfl
      · refine step_g 0 [] _ _ rfl rfl hI (by kernel_rfl) fun vals W hb hB hIw hd => ?_
        go_wp2
        exact ⟨rfl, _, rfl, Gr.refl _, rfl⟩
      · refine step_g 1 [0] _ _ rfl rfl hI (by kernel_rfl) fun vals W hb hB hIw hd => ?_
        have h0 : vals 0 = _ := hd 0 (by simp) _ rfl
        rw [h0]
        obtain ⟨d0, d1, d2, d3⟩ := four_cells (hB1.below hb hB1.lt)
        go_wp2
        exact ⟨rfl, _, rfl, Gr.refl _, rfl⟩
      · refine step_g 2 [1] _ _ rfl rfl hI (by kernel_rfl) fun vals W hb hB hIw hd => ?_
        have h0 : vals 1 = _ := hd 1 (by simp) _ rfl
        rw [h0]
        go_wp2
        exact ⟨rfl, _, rfl, Gr.refl _, rfl⟩
      · refine step_g 3 [2] _ _ rfl rfl hI (by kernel_rfl) fun vals W hb hB hIw hd => ?_
        have h0 : vals 2 = _ := hd 2 (by simp) _ rfl
        rw [h0]
        go_wp2
        exact ⟨rfl, _, rfl, Gr.alloc _ _, OwnB.new W _ _ hB (by simp [maxLen]) _ (by simp [bvs, bv_nat _ (show k.toNat < 256 by omega)]; omega)⟩
      · refine step_g 4 [] _ _ rfl rfl hI (by kernel_rfl) fun vals W hb hB hIw hd => ?_
        go_wp2
        exact ⟨rfl, _, rfl, Gr.refl _, rfl⟩
      · refine step_g 5 [4] _ _ rfl rfl hI (by kernel_rfl) fun vals W hb hB hIw hd => ?_
        have h0 : vals 4 = _ := hd 4 (by simp) _ rfl
        rw [h0]
        obtain ⟨d0, d1, d2, d3⟩ := four_cells (hB1.below hb hB1.lt)
        go_wp2
        exact ⟨rfl, _, rfl, Gr.refl _, rfl⟩
      · refine step_g 6 [5] _ _ rfl rfl hI (by kernel_rfl) fun vals W hb hB hIw hd => ?_
        have h0 : vals 5 = _ := hd 5 (by simp) _ rfl
        rw [h0]
        go_wp2_with (go_at_call 45; (with_reducible refine (refint_of t W t0 (by omega)).mono ?_); rintro e w2 ⟨v2, rfl, ho2, hb2⟩)
        exact ⟨rfl, _, rfl, hb2, ho2.lower hB⟩
      · refine step_s 7 [3, 6] [] _ _ rfl rfl (by kernel_rfl) (by kernel_rfl) fun vals W hb hB hIw hd => ?_
        have h0 : OwnB W w1.heap.size (vals 3) _ := hd 3 (by simp) _ rfl
        have h1 := (show OwnB W w1.heap.size (vals 6) _ from hd 6 (by simp) _ rfl).rd
        generalize vals 3 = v3 at h0 ⊢
        generalize vals 6 = v6 at h1 ⊢
        refine wpList_appendB W rfl (.tmp 11) (.tmp 14) rfl w1.heap.size v3 _ rfl h0 W.heap.size v6 _ rfl h1 (by simp; omega) hB fun v2 w2 ho2 hb2 hg2 => wpList_nil ?_
        exact ⟨rfl, _, rfl, hb2, ho2, fun _ _ => trivial, fun j hj => by cases hj⟩
      · refine step_g 8 [7] _ _ rfl rfl hI (by kernel_rfl) fun vals W hb hB hIw hd => ?_
        have h0 : OwnB W w1.heap.size (vals 7) _ := hd 7 (by simp) _ rfl
        go_wp2
        exact ⟨rfl, _, rfl, Gr.refl _, h0⟩
    · intro vals W3 hb3 hf
      have h8 : OwnB W3 w1.heap.size (vals 8) ([UInt8.ofNat k.toNat] ++ numB t.toNat) := hf 8 _ rfl (fun k hk => by simp)
      generalize vals 8 = vb at h8 ⊢
      obtain ⟨l3, hl3⟩ : ∃ l3, [UInt8.ofNat k.toNat] ++ numB t.toNat = l3 := ⟨_, rfl⟩
      have hlen3 : l3.length ≤ 10 := by rw [← hl3]; simp; omega
      rw [hl3] at h8
      go_wp2
      have hB3 := hB1.below hb3 hB1.lt
      have kc := conv_str
      clear hc c10 c11 c12 c13 hf
      refine wp_region_facts [fOwnAt w1.heap.size vb l3, .is (.pointer (some ⟨w.heap.size, 2, none⟩)), .is (.string a), fRd a.data.toList, fOwn w1.heap.size (textB a.data.toList), fOwn w1.heap.size (l3 ++ textB a.data.toList),
        .is (.pointer (some ⟨w.heap.size, 3, none⟩)), .is (.string b), fRdN W3.heap.size b.data.toList, fOwn w1.heap.size (textB b.data.toList), fOwn w1.heap.size (l3 ++ textB a.data.toList ++ textB b.data.toList), fOwn w1.heap.size (l3 ++ textB a.data.toList ++ textB b.data.toList), .is (.int .i64 0)]
        (fun w => OwnB w w1.heap.size vb l3) (fun i j => i == 5 && (j == 0 || j == 3 || j == 4) || i == 10 && decide (j < 10)) (fun i => i == 5 || i == 10) w1.heap.size (by kernel_rfl) rfl (by kernel_rfl) (by kernel_rfl) hb3.size (h8.gr (Gr.drew _)) (fun vals => by simp [fillA, dstsOf, go_sem]; rfl) ?_ ?_
      · intro i hi
        replace hi : i < 13 := hi
        have hI : ∀ w w', OwnB w w1.heap.size vb l3 → Gr w w' → OwnB w' w1.heap.size vb l3 := fun _ _ h hg => h.gr hg
        rcases (by omega : i = 0 ∨ i = 1 ∨ i = 2 ∨ i = 3 ∨ i = 4 ∨ i = 5 ∨ i = 6 ∨ i = 7 ∨ i = 8 ∨ i = 9 ∨ i = 10 ∨ i = 11 ∨ i = 12) with rfl | rfl | rfl | rfl | rfl | rfl | rfl | rfl | rfl | rfl | rfl | rfl | rfl
        · refine step_g 0 [] _ _ rfl rfl hI (by kernel_rfl) fun vals W hb hB hIw hd => ?_
          have h0 : OwnB W w1.heap.size vb l3 := hIw (by kernel_rfl)
          go_wp2
          exact ⟨rfl, _, rfl, Gr.refl _, rfl, h0⟩
        · refine step_g 1 [] _ _ rfl rfl hI (by kernel_rfl) fun vals W hb hB hIw hd => ?_
          go_wp2
          exact ⟨rfl, _, rfl, Gr.refl _, rfl⟩
        · refine step_g 2 [1] _ _ rfl rfl hI (by kernel_rfl) fun vals W hb hB hIw hd => ?_
          have h0 : vals 1 = _ := hd 1 (by simp) _ rfl
          rw [h0]
          obtain ⟨d0, d1, d2, d3⟩ := four_cells (hB3.below hb hB1.lt)
          go_wp2
          exact ⟨rfl, _, rfl, Gr.refl _, rfl⟩
        · refine step_g 3 [2] _ _ rfl rfl hI (by kernel_rfl) fun vals W hb hB hIw hd => ?_
          have h0 : vals 2 = _ := hd 2 (by simp) _ rfl
          rw [h0]
          go_wp2
          exact ⟨rfl, _, rfl, bytes_below _ _ _, conv_rd _ _⟩
        · refine step_g 4 [3] _ _ rfl rfl hI (by kernel_rfl) fun vals W hb hB hIw hd => ?_
          have h0 : RdB W W.heap.size (vals 3) a.data.toList := hd 3 (by simp) _ rfl
          generalize vals 3 = v0 at h0 ⊢
          go_wp2_with (go_at_call 46; (with_reducible refine (reftlvtext_any W W.heap.size v0 _ (Nat.le_refl _) h0 (by simp; omega)).mono ?_); rintro e w2 ⟨v2, rfl, ho2, hb2⟩)
          exact ⟨rfl, _, rfl, hb2, ho2.lower hB⟩
        · refine step_s 5 [0, 4] [1, 2, 6, 7, 8] _ _ rfl rfl (by kernel_rfl) (by kernel_rfl) fun vals W hb hB hIw hd => ?_
          obtain ⟨e0, h0⟩ := (show vals 0 = vb ∧ OwnB W w1.heap.size vb l3 from hd 0 (by simp) _ rfl)
          have h1 := (show OwnB W w1.heap.size (vals 4) _ from hd 4 (by simp) _ rfl).rd
          refine wpList_appendB W rfl (.tmp 16) (.tmp 20) rfl w1.heap.size vb _ e0 h0 W.heap.size (vals 4) _ rfl h1 (by simp [textB]; omega) hB fun v2 w2 ho2 hb2 hg2 => wpList_nil ?_
          refine ⟨rfl, _, rfl, hb2, ho2, fun h => (by cases h), fun j hj => ?_⟩
          simp only [List.mem_cons, List.not_mem_nil, or_false] at hj
          rcases hj with rfl | rfl | rfl | rfl | rfl
          · rintro g hg hp; obtain rfl := Option.some.inj hg; exact hp
          · rintro g hg hp; obtain rfl := Option.some.inj hg; exact hp
          · rintro g hg hp; obtain rfl := Option.some.inj hg; exact hp
          · rintro g hg hp; obtain rfl := Option.some.inj hg; exact hp
          · rintro g hg hp; obtain rfl := Option.some.inj hg; exact RdN.grown hp hg2 hb2.size fun g hg => h8.lt hg
        · refine step_g 6 [] _ _ rfl rfl hI (by kernel_rfl) fun vals W hb hB hIw hd => ?_
          go_wp2
          exact ⟨rfl, _, rfl, Gr.refl _, rfl⟩
        · refine step_g 7 [6] _ _ rfl rfl hI (by kernel_rfl) fun vals W hb hB hIw hd => ?_
          have h0 : vals 6 = _ := hd 6 (by simp) _ rfl
          rw [h0]
          obtain ⟨d0, d1, d2, d3⟩ := four_cells (hB3.below hb hB1.lt)
          go_wp2
          exact ⟨rfl, _, rfl, Gr.refl _, rfl⟩
        · refine step_g 8 [7] _ _ rfl rfl hI (by kernel_rfl) fun vals W hb hB hIw hd => ?_
          have h0 : vals 7 = _ := hd 7 (by simp) _ rfl
          rw [h0]
          go_wp2
          exact ⟨rfl, _, rfl, bytes_below _ _ _, conv_rdN _ _ _ hb.size⟩
        · refine step_g 9 [8] _ _ rfl rfl hI (by kernel_rfl) fun vals W hb hB hIw hd => ?_
          have h0 : RdB W W.heap.size (vals 8) b.data.toList := RdN.rd (hd 8 (by simp) _ rfl)
          generalize vals 8 = v0 at h0 ⊢
          go_wp2_with (go_at_call 46; (with_reducible refine (reftlvtext_any W W.heap.size v0 _ (Nat.le_refl _) h0 (by simp; omega)).mono ?_); rintro e w2 ⟨v2, rfl, ho2, hb2⟩)
          exact ⟨rfl, _, rfl, hb2, ho2.lower hB⟩
        · refine step_s 10 [5, 9] [] _ _ rfl rfl (by kernel_rfl) (by kernel_rfl) fun vals W hb hB hIw hd => ?_
          have h0 : OwnB W w1.heap.size (vals 5) _ := hd 5 (by simp) _ rfl
          have h1 := (show OwnB W w1.heap.size (vals 9) _ from hd 9 (by simp) _ rfl).rd
          refine wpList_appendB W rfl (.tmp 21) (.tmp 25) rfl w1.heap.size (vals 5) _ rfl h0 W.heap.size (vals 9) _ rfl h1 (by simp [textB]; omega) hB fun v2 w2 ho2 hb2 hg2 => wpList_nil ?_
          exact ⟨rfl, _, rfl, hb2, ho2, fun h => (by cases h), fun j hj => by cases hj⟩
        · refine step_g 11 [10] _ _ rfl rfl hI (by kernel_rfl) fun vals W hb hB hIw hd => ?_
          have h0 : OwnB W w1.heap.size (vals 10) _ := hd 10 (by simp) _ rfl
          go_wp2
          exact ⟨rfl, _, rfl, Gr.refl _, h0⟩
        · refine step_g 12 [] _ _ rfl rfl hI (by kernel_rfl) fun vals W hb hB hIw hd => ?_
          go_wp2
          exact ⟨rfl, _, rfl, Gr.refl _, rfl⟩
      · intro vals W4 hb4 hf
        have h11 : OwnB W4 w1.heap.size (vals 11) (l3 ++ textB a.data.toList ++ textB b.data.toList) := hf 11 _ rfl (fun k hk => by simp)
        have h12 : vals 12 = _ := hf 12 _ rfl (fun k hk => by simp)
        rw [h12]
        go_wp2
        go_ret2
        rw [← hl3] at h11
        exact ⟨_, rfl, h11.lower hG.size, Gr.trans hG (hb3.trans hb4)⟩
end
end Go.Proofs.YteoidkjiigjlaaaDoor
