/- Scopes as texts: the reference's reader of words: take, ahead. Printed by wip/tools/genwpb.py. Scopes as texts: the reference's reader of words: several. Printed by wip/tools/genwpb.py. Scopes as texts: the reference's reader: numbers, times. Printed by wip/tools/genwpc.py. Scopes as texts: the reference's reader: factor. Printed by wip/tools/genwpd.py. Scopes as texts: the reference's Words. Scopes as texts: the reference's Parse. Printed by wip/tools/genwpf.py. The law WritParse. -/
import Derived.Test.YtppnlijeonneeaaGreatDoorPkC
import Derived.Test.YtppnlijeonneeaaGreatDoorFactsV
import Derived.IntWalk
import Derived.Test.YtppnlijeonneeaaGreatDoorPkD
import Derived.Test.YtppnlijeonneeaaGreatDoorPkF
namespace Go.Proofs.YtppnlijeonneeaaGreatDoor
open Go Go.RowKit Go.Sort

section
variable {T : TypeId} {w w' : World} {g : Nat} {s : Wst}
set_option maxRecDepth 100000 in
set_option maxHeartbeats 1000000 in
theorem stakeW_any (h : EnvW T w g s) : Calls Tryz.prog 23 #[.pointer (some ⟨g, 0, none⟩)] w fun e w' => e = .returned (.string (takeW s).1) ∧ MadeW T w g (takeW s).2 w' := by
  obtain ⟨A, c, c0, c1, f0, f1, ⟨hc, hcm⟩, hr⟩ := h.cells
  have hF := h.setF
  obtain ⟨l, f⟩ := s
  dsimp only at *
  cases f with
  | true =>
    have e1 : takeW ⟨l, true⟩ = (⟨#[]⟩, ⟨l, true⟩) := rfl
    rw [e1]
    unfold failW at hF
    clear h e1 hr
    go_enter Tryz.func23, Tryz.ntmps23
    go_wp2
    go_ret
    exact ⟨rfl, hF⟩
  | false =>
    cases l with
    | nil =>
      have e1 : takeW ⟨[], false⟩ = (⟨#[]⟩, ⟨[], true⟩) := rfl
      rw [e1]
      unfold failW at hF
      clear h e1 hr
      go_enter Tryz.func23, Tryz.ntmps23
      go_wp2
      go_ret
      exact ⟨rfl, hF⟩
    | cons a r =>
      have e1 : takeW ⟨a :: r, false⟩ = (a, ⟨r, false⟩) := rfl
      rw [e1]
      rw [List.length_cons] at c0 hc
      have hT := h.setT c0
      obtain ⟨ad, rfl, hb, hcell⟩ := hr.2 (by simp)
      have k0 := hcell 0 (.string a) rfl
      rw [show ad.add 0 = ad by simp [Addr.add]] at k0
      have hl := h.len
      dsimp only at hl
      rw [List.length_cons] at hl
      rw [Option.map_some] at hT
      have eA : ad.add 1 = ⟨ad.block, ad.off + 1, none⟩ := by simp [Addr.add]
      rw [eA] at hT
      clear h e1 hr hcell hF eA
      generalize r.length = n at *
      by_cases hc1 : c = 1
      · rw [if_pos hc1] at hT
        subst hc1
        obtain rfl : n = 0 := by omega
        go_enter Tryz.func23, Tryz.ntmps23
        go_wp2
        go_ret
        exact ⟨rfl, hT⟩
      · rw [if_neg hc1] at hT
        go_enter Tryz.func23, Tryz.ntmps23
        go_wp2
        go_ret
        exact ⟨rfl, hT⟩
set_option maxRecDepth 100000 in
set_option maxHeartbeats 1000000 in
theorem saheadW_any (m : ByteArray) (h : EnvW T w g s) : Calls Tryz.prog 22 #[.pointer (some ⟨g, 0, none⟩), .string m] w fun e w' => e = .returned (.bool (aheadW m s)) ∧ Gr w w' := by
  obtain ⟨A, c, c0, c1, f0, f1, ⟨hc, hcm⟩, hr⟩ := h.cells
  obtain ⟨l, f⟩ := s
  dsimp only at *
  cases f with
  | true =>
    have e1 : aheadW m ⟨l, true⟩ = false := rfl
    rw [e1]
    clear h e1 hr
    go_enter Tryz.func22, Tryz.ntmps22
    go_wp2
    go_ret
    exact ⟨rfl, Gr.refl _⟩
  | false =>
    cases l with
    | nil =>
      have e1 : aheadW m ⟨[], false⟩ = false := rfl
      rw [e1]
      clear h e1 hr
      go_enter Tryz.func22, Tryz.ntmps22
      go_wp2
      go_ret
      exact ⟨rfl, Gr.refl _⟩
    | cons a r =>
      have e1 : aheadW m ⟨a :: r, false⟩ = decide (a = m) := rfl
      rw [e1]
      rw [List.length_cons] at c0 hc
      obtain ⟨ad, rfl, hb, hcell⟩ := hr.2 (by simp)
      have k0 := hcell 0 (.string a) rfl
      rw [show ad.add 0 = ad by simp [Addr.add]] at k0
      have hl := h.len
      dsimp only at hl
      rw [List.length_cons] at hl
      clear h e1 hr hcell
      generalize r.length = n at *
      by_cases he : a = m
      · subst he
        rw [decide_eq_true rfl]
        go_enter Tryz.func22, Tryz.ntmps22
        go_wp2
        go_ret
        exact ⟨rfl, Gr.refl _⟩
      · obtain ⟨n1, n2⟩ := str_neqW he
        rw [decide_eq_false he]
        clear he
        go_enter Tryz.func22, Tryz.ntmps22
        go_wp2
        go_ret
        exact ⟨rfl, Gr.refl _⟩
end
end Go.Proofs.YtppnlijeonneeaaGreatDoor

namespace Go.Proofs.YtppnlijeonneeaaGreatDoor
open Go Go.RowKit Go.Sort

abbrev TS : TypeId := 46
/-! A scope is read and appended to a list in a struct: one region of open order. w: the world at the function's beginning; r: where its result lies; b5: the struct. -/
/-- What holds at the region's beginning. -/
def AqI (w : World) (g r b5 : Nat) (op : Int) (A : Option Addr) (c : Nat) (ks : List Sc) (cs : List Value) (s : Wst) (n : Nat) (W : World) : Prop :=
  match n with
  | 0 => Blk W b5 25 (scC op ⟨#[]⟩ 0 0 A ks.length c)
  | 1 => MadeW TS w g s W
  | 2 => ScOwn (b5 + 1) W (.slice A ks.length c) ks cs ∧ b5 + 1 ≤ W.heap.size
  | 3 => Blk W r 25 scZ
  | _ => True
theorem AqI.gr {w : World} {g r b5 : Nat} {op : Int} {A : Option Addr} {c : Nat} {ks : List Sc} {cs : List Value} {s : Wst} (n : Nat) (W W' : World) (h : AqI w g r b5 op A c ks cs s n W) (hg : Gr W W') : AqI w g r b5 op A c ks cs s n W' := by
  match n, h with
  | 0, h => exact Blk.below h hg h.lt
  | 1, h => exact MadeW.gr h hg
  | 2, h => exact ⟨h.1.gr hg, Nat.le_trans h.2 hg.size⟩
  | 3, h => exact Blk.below h hg h.lt
  | n + 4, _ => trivial
/-- What the reading hands back. -/
def Aq4 (w : World) (g b5 : Nat) (A : Option Addr) (ks : List Sc) (c : Nat) (x2 : Sc) (s3 : Wst) (v4 : Value) (W : World) : Prop :=
  ∃ (o_ : Int) (m_ : ByteArray) (f_ t_ : Int) (A_ : Option Addr) (n_ c_ : Nat) (x : Sc), v4 = .agg (scC o_ m_ f_ t_ A_ n_ c_) ∧ RdSc W (fun b => b5 + 1 ≤ b ∧ b < W.heap.size ∧ (Value.slice A ks.length c).ownBlock ≠ some b) x (.agg (scC o_ m_ f_ t_ A_ n_ c_)) ∧ (s3.fail = false → x = x2) ∧ MadeW TS w g s3 W
def Aq5 (w : World) (g b5 : Nat) (A : Option Addr) (ks : List Sc) (c : Nat) (x2 : Sc) (s3 : Wst) (v5 : Value) (W : World) : Prop :=
  ∃ (o_ : Int) (m_ : ByteArray) (f_ t_ : Int) (A_ : Option Addr) (n_ c_ : Nat) (x : Sc) (gb : Nat), v5 = .slice (some ⟨gb, 0, none⟩) 1 1 ∧ Blk W gb 25 (scC o_ m_ f_ t_ A_ n_ c_) ∧ RdSc W (fun b => b5 + 1 ≤ b ∧ b < W.heap.size ∧ (Value.slice A ks.length c).ownBlock ≠ some b) x (.agg (scC o_ m_ f_ t_ A_ n_ c_)) ∧ (s3.fail = false → x = x2) ∧ MadeW TS w g s3 W
/-- What is there behind the region, but for the struct. -/
def Aq6 (w : World) (g r b5 : Nat) (op : Int) (A : Option Addr) (ks : List Sc) (c : Nat) (x2 : Sc) (s3 : Wst) (v6 : Value) (W : World) : Prop :=
  ∃ (x : Sc) (A' : Option Addr) (c' : Nat) (cs' : List Value), v6 = .slice A' (ks.length + 1) c' ∧ ScOwn (b5 + 1) W (.slice A' (ks.length + 1) c') (ks ++ [x]) cs' ∧ (s3.fail = false → x = x2) ∧ MadeW TS w g s3 W ∧ Blk W r 25 scZ ∧ Blk W b5 25 (scC op ⟨#[]⟩ 0 0 A ks.length c)
def Aq8 (w : World) (g r b5 : Nat) (op : Int) (ks : List Sc) (x2 : Sc) (s3 : Wst) (W : World) : Prop :=
  ∃ (x : Sc) (A' : Option Addr) (c' : Nat) (cs' : List Value), ScOwn (b5 + 1) W (.slice A' (ks.length + 1) c') (ks ++ [x]) cs' ∧ (s3.fail = false → x = x2) ∧ MadeW TS w g s3 W ∧ Blk W r 25 scZ ∧ Blk W b5 25 (scC op ⟨#[]⟩ 0 0 A' (ks.length + 1) c')
section
variable {w : World} {g r b5 : Nat} {op : Int} {A : Option Addr} {c : Nat} {ks : List Sc} {x2 : Sc} {s3 : Wst} {v : Value} {W W' : World}
theorem rds_own_gr {base : Nat} {u : Value} {x : Sc} {v : Value} (h : RdSc W (fun b => base ≤ b ∧ b < W.heap.size ∧ u.ownBlock ≠ some b) x v) (hg : Gr W W') : RdSc W' (fun b => base ≤ b ∧ b < W'.heap.size ∧ u.ownBlock ≠ some b) x v :=
  RdSc.mono (fun _ hb => ⟨hb.1, Nat.lt_of_lt_of_le hb.2.1 hg.size, hb.2.2⟩) _ _ (RdSc.keep (fun _ hp => hg.cell hp.2.1) _ _ h)
theorem Aq4.gr (h : Aq4 w g b5 A ks c x2 s3 v W) (hg : Gr W W') : Aq4 w g b5 A ks c x2 s3 v W' := by
  obtain ⟨o_, m_, f_, t_, A_, n_, c_, x, h1, h2, h3, h4⟩ := h
  exact ⟨o_, m_, f_, t_, A_, n_, c_, x, h1, rds_own_gr h2 hg, h3, h4.gr hg⟩
theorem Aq5.gr (h : Aq5 w g b5 A ks c x2 s3 v W) (hg : Gr W W') : Aq5 w g b5 A ks c x2 s3 v W' := by
  obtain ⟨o_, m_, f_, t_, A_, n_, c_, x, gb, h1, hb, h2, h3, h4⟩ := h
  exact ⟨o_, m_, f_, t_, A_, n_, c_, x, gb, h1, hb.below hg hb.lt, rds_own_gr h2 hg, h3, h4.gr hg⟩
theorem Aq6.gr (h : Aq6 w g r b5 op A ks c x2 s3 v W) (hg : Gr W W') : Aq6 w g r b5 op A ks c x2 s3 v W' := by
  obtain ⟨x, A', c', cs', h1, h2, h3, h4, h5, h6⟩ := h
  exact ⟨x, A', c', cs', h1, h2.gr hg, h3, h4.gr hg, h5.below hg h5.lt, h6.below hg h6.lt⟩
theorem Aq8.gr (h : Aq8 w g r b5 op ks x2 s3 W) (hg : Gr W W') : Aq8 w g r b5 op ks x2 s3 W' := by
  obtain ⟨x, A', c', cs', h2, h3, h4, h5, h6⟩ := h
  exact ⟨x, A', c', cs', h2.gr hg, h3, h4.gr hg, h5.below hg h5.lt, h6.below hg h6.lt⟩
theorem Gr.ofMadeW {s : Wst} (h : MadeW TS W g s W') : Below 0 W W' := ⟨h.2.os, h.2.tape, h.2.output, h.2.size, fun _ hk => absurd hk (by omega)⟩
theorem below0_setW (W : World) (p : Addr) (v : Value) : Below 0 W (W.setCell p v) := Below.setCell (Below.refl 0 W) (Nat.zero_le _) v
/-- Several scopes stand in a struct; the next is to be read. -/
def SevX (one : Wst → Sc × Wst) (m : ByteArray) (op : Int) (R : List Sc × Wst) (w : World) (g r b5 : Nat) (wr : World) : Prop :=
  ∃ (ks ks' : List Sc) (cs : List Value) (s : Wst) (n : Nat) (A : Option Addr) (c : Nat), ScOwn (b5 + 1) wr (.slice A ks'.length c) ks' cs ∧ ks'.length = ks.length ∧ (s.fail = false → ks' = ks) ∧ MadeW TS w g s wr ∧ Blk wr r 25 scZ ∧ Blk wr b5 25 (scC op ⟨#[]⟩ 0 0 A ks'.length c) ∧
    R = sevW one m n (ks ++ [(one s).1]) (one s).2 ∧ ((one s).2.fail = false → (one s).2.l.length < n) ∧ ks.length + n ≤ 2003
/-- How many there are. -/
def slAtW (w : World) (p : Addr) : Nat := match w.cell? p with | some (.slice _ n _) => n | _ => 0
end
set_option maxRecDepth 100000 in
set_option maxHeartbeats 8000000 in
theorem ssevW_and {w : World} {g : Nat} {s : Wst} (d : Int) (one : Wst → Sc × Wst) (h1 : ∀ s, GoesW s (one s).2) (cOne : ∀ (W : World) (s : Wst), EnvW TS W g s → Calls Tryz.prog 21 #[.pointer (some ⟨g, 0, none⟩), .int .i64 d] W (PW TS W g (one s))) (h : EnvW TS w g s) :
    Calls Tryz.prog 14 #[.pointer (some ⟨g, 0, none⟩), .int .i64 6, .int .i64 d] w (PW TS w g (manyW one 6 bAnd s)) := by
  have hgl := h.lt
  have hlen := h.len
  have hgo := (h1 s).len
  obtain ⟨W0, hW0⟩ : ∃ W0, (w.alloc (.cells scZ 25)).alloc (.cells (scC 6 ⟨#[]⟩ 0 0 none 0 0) 25) = W0 := ⟨_, rfl⟩
  have hG0 : Gr w W0 := by rw [← hW0]; exact Gr.trans (Gr.alloc _ _) (Gr.alloc _ _)
  have hs0 : W0.heap.size = w.heap.size + 2 := by rw [← hW0]; simp
  have hBr : Blk W0 w.heap.size 25 scZ := by rw [← hW0]; exact (Blk.new w _ _).alloc _
  have hB5 : Blk W0 (w.heap.size + 1) 25 (scC 6 ⟨#[]⟩ 0 0 none 0 0) := by
    rw [← hW0]
    have := Blk.new (w.alloc (.cells scZ 25)) 25 (scC 6 ⟨#[]⟩ 0 0 none 0 0)
    rwa [show (w.alloc (.cells scZ 25)).heap.size = w.heap.size + 1 by simp] at this
  have hE0 := h.gr hG0
  have HF := Lib.hid (fun W o_ m_ f_ t_ A_ n_ c_ x hr he hm => @PW.fin w g TS W (manyW one 6 bAnd s) o_ m_ f_ t_ A_ n_ c_ x hgl hr he hm)
  have hR : (sevW one bAnd (s.l.length + 1) [(one s).1] (one s).2).2 = (manyW one 6 bAnd s).2 := rfl
  have hR1 : aloneS 6 (sevW one bAnd (s.l.length + 1) [(one s).1] (one s).2).1 = (manyW one 6 bAnd s).1 := rfl
  rw [← hR1, ← hR] at HF
  generalize hRR : sevW one bAnd (s.l.length + 1) [(one s).1] (one s).2 = R at *
  have hst : SevX one bAnd 6 R w g (w.heap.size) (w.heap.size + 1) W0 :=
    ⟨[], [], [], s, s.l.length + 1, none, 0, ScOwn.nil _ _, rfl, fun _ => rfl, ⟨hE0, GrX.of_gr hG0 g⟩, hBr, hB5, hRR.symm, fun _ => by omega, by simp; omega⟩
  have HST := Lib.hid hst
  have HOne := Lib.hid cOne
  have H1 := Lib.hid h1
  have HW0 := Lib.hid hW0
  generalize hPost : PW TS w g (manyW one 6 bAnd s) = Post at *
  clear hW0 cOne h1 h hE0 hRR hPost hR hR1 hst hG0 hs0 hBr hB5 hlen hgo
  go_enter Tryz.func14, Tryz.ntmps14
  go_wp2
  rw [HW0.out]
  go_loopw [13] (fun _ wr => SevX one bAnd 6 R w g (w.heap.size) (w.heap.size + 1) wr) (fun _ wr => 2100 - slAtW wr ⟨w.heap.size + 1, 4, none⟩)
  case atStart => exact HST.out
  case round =>
    obtain ⟨ks, ks', cs, s, n, A, c, hX, hkl, hke, hm, hBr, hB5, hRe, hn, hkn⟩ := hrel
    have hgo := (H1.out s).ok
    have hAI : ∀ n, AqI w g (w.heap.size) (w.heap.size + 1) 6 A c ks' cs s n wr.drew := fun n => by
      match n with
      | 0 => exact hB5.drew
      | 1 => exact hm.gr (Gr.drew _)
      | 2 => exact ⟨hX.gr (Gr.drew _), hB5.lt⟩
      | 3 => exact hBr.drew
      | n + 4 => trivial
    have HAI := Lib.hid hAI
    have hB5c := hB5.cell 4
    have HS0 := Lib.hid (show slAtW wr ⟨w.heap.size + 1, 4, none⟩ = ks'.length by unfold slAtW; rw [hB5c]; rfl)
    have hkb : ks'.length ≤ 100000 := by omega
    have hkm : ks'.length < 2100 := by omega
    have HKE := Lib.hid hke
    have HKL := Lib.hid hkl
    have HKN := Lib.hid hkn
    have HRe := Lib.hid hRe
    have HN := Lib.hid hn
    have HGO := Lib.hid hgo
    clear hAI hB5c hX hBr hB5 hm hRe hn hke hkl hkn hgo
    go_wp2
    refine wp_region_factsV [.at_ 0 (.is (.pointer (some ⟨w.heap.size + 1, 4, none⟩))), .at_ 1 (.is (.slice A ks'.length c)), .at_ 2 (.is (.pointer (some ⟨g, 0, none⟩))), .at_ 3 (.is (.int .i64 d)),
        .at_ 4 ⟨Aq4 w g (w.heap.size + 1) A ks' c (one s).1 (one s).2, fun _ _ _ h hg => h.gr hg⟩, .at_ 5 ⟨Aq5 w g (w.heap.size + 1) A ks' c (one s).1 (one s).2, fun _ _ _ h hg => h.gr hg⟩,
        .at_ 6 ⟨Aq6 w g (w.heap.size) (w.heap.size + 1) 6 A ks' c (one s).1 (one s).2, fun _ _ _ h hg => h.gr hg⟩, .at_ 7 (.is (.pointer (some ⟨w.heap.size + 1, 4, none⟩))),
        .at_ 8 ⟨fun _ => Aq8 w g (w.heap.size) (w.heap.size + 1) 6 ks' (one s).1 (one s).2, fun _ _ _ h hg => h.gr hg⟩]
        (AqI w g (w.heap.size) (w.heap.size + 1) 6 A c ks' cs s) (fun i j => (i == 6 && (j == 4 || j == 5)) || (i == 8 && (j == 4 || j == 5 || j == 6))) (fun i n => (i == 8 && n == 0) || (i == 4 && n == 1) || (i == 6 && n == 2)) 0 (by kernel_rfl) rfl (by kernel_rfl) (by kernel_rfl) (by kernel_rfl) (Nat.zero_le _)
        (fun n => HAI.out n) (fun vals => by simp [fillA, dstsOf, go_sem]; rfl) ?_ ?_
    · intro i hi
      replace hi : i < 9 := hi
      have hI := @AqI.gr w g (w.heap.size) (w.heap.size + 1) 6 A c ks' cs s
      rcases (by omega : i = 0 ∨ i = 1 ∨ i = 2 ∨ i = 3 ∨ i = 4 ∨ i = 5 ∨ i = 6 ∨ i = 7 ∨ i = 8) with rfl | rfl | rfl | rfl | rfl | rfl | rfl | rfl | rfl
      · refine step_gV 0 [] _ _ rfl rfl hI (by kernel_rfl) fun vals W hb hB hIw hd => ?_
        go_wp2
        exact ⟨rfl, _, rfl, Gr.refl _, rfl⟩
      · refine step_gV 1 [0] _ _ rfl rfl hI (by kernel_rfl) fun vals W hb hB hIw hd => ?_
        have h0 : vals 0 = _ := hd 0 (by simp) _ rfl
        rw [h0]
        have hc : W.cell? ⟨w.heap.size + 1, 4, none⟩ = some (.slice A ks'.length c) := Blk.cell (hIw 0 (by kernel_rfl) : Blk W (w.heap.size + 1) _ _) 4
        clear hIw
        go_wp2
        exact ⟨rfl, _, rfl, Gr.refl _, rfl⟩
      · refine step_gV 2 [] _ _ rfl rfl hI (by kernel_rfl) fun vals W hb hB hIw hd => ?_
        go_wp2
        exact ⟨rfl, _, rfl, Gr.refl _, rfl⟩
      · refine step_gV 3 [] _ _ rfl rfl hI (by kernel_rfl) fun vals W hb hB hIw hd => ?_
        go_wp2
        exact ⟨rfl, _, rfl, Gr.refl _, rfl⟩
      · refine step_sV 4 [2, 3] [0, 1, 2, 3, 7] _ _ rfl rfl (by kernel_rfl) (by kernel_rfl) fun vals W hb hB hIw hd => ?_
        have h2 : vals 2 = _ := hd 2 (by simp) _ rfl
        have h3 : vals 3 = _ := hd 3 (by simp) _ rfl
        rw [h2, h3]
        have hM : MadeW TS w g s W := hIw 1 (by kernel_rfl)
        have hW2 := Lib.hid (hIw 2 (by kernel_rfl) : ScOwn (w.heap.size + 1 + 1) W (.slice A ks'.length c) ks' cs ∧ w.heap.size + 1 + 1 ≤ W.heap.size)
        have cF := HOne.out W s hM.1
        unfold PW at cF
        clear hIw hd
        go_wp2_with (go_at_call 21; (with_reducible refine cF.mono ?_); rintro e w4 ⟨o_, m_, f_, t_, A_, n_, c_, x, rfl, hr4, he4, hm4⟩)
        refine ⟨rfl, _, rfl, Gr.ofMadeW hm4, ⟨o_, m_, f_, t_, A_, n_, c_, x, rfl, RdSc.mono (fun b hb => ⟨Nat.le_trans hW2.out.2 hb.1, hb.2, own_ltW hW2.out.1.row b hb.1⟩) _ _ hr4, he4, hM.tr hm4⟩, fun n hn hI => ?_, fun j hj => ?_⟩
        · match n, hn, hI with
          | 0, _, hI => exact Blk.xW hI hm4.2 (by omega)
          | 1, hn, _ => exact absurd hn (by decide)
          | 2, _, hI => exact ⟨hI.1.x hm4.2 (by omega), Nat.le_trans hI.2 hm4.2.size⟩
          | 3, _, hI => exact Blk.xW hI hm4.2 (by omega)
          | n + 4, _, _ => trivial
        · simp only [List.mem_cons, List.not_mem_nil, or_false] at hj
          rcases hj with rfl | rfl | rfl | rfl | rfl
          all_goals
            intro g' hg' hp
            obtain rfl := Option.some.inj hg'
            exact hp
      · refine step_gV 5 [4] _ _ rfl rfl hI (by kernel_rfl) fun vals W hb hB hIw hd => ?_
        obtain ⟨o_, m_, f_, t_, A_, n_, c_, x, h4, hr4, he4, hm4⟩ := (show Aq4 w g (w.heap.size + 1) A ks' c (one s).1 (one s).2 (vals 4) W from hd 4 (by simp) _ rfl)
        rw [h4]
        clear hIw hd
        have hG5 := Gr.alloc W (.cells (scC o_ m_ f_ t_ A_ n_ c_) 25)
        go_wp2
        exact ⟨rfl, _, rfl, hG5, o_, m_, f_, t_, A_, n_, c_, x, W.heap.size, rfl, Blk.new W _ _, rds_own_gr hr4 hG5, he4, hm4.gr hG5⟩
      · refine step_sV 6 [1, 5] [0, 1, 2, 3, 7] _ _ rfl rfl (by kernel_rfl) (by kernel_rfl) fun vals W hb hB hIw hd => ?_
        have h1 : vals 1 = _ := hd 1 (by simp) _ rfl
        obtain ⟨o_, m_, f_, t_, A_, n_, c_, x, gb, h5, hBg, hr5, he5, hm5⟩ := (show Aq5 w g (w.heap.size + 1) A ks' c (one s).1 (one s).2 (vals 5) W from hd 5 (by simp) _ rfl)
        rw [h1, h5]
        have hB0 : Blk W (w.heap.size + 1) 25 (scC 6 ⟨#[]⟩ 0 0 A ks'.length c) := hIw 0 (by kernel_rfl)
        obtain ⟨hX, hbs⟩ := (hIw 2 (by kernel_rfl) : ScOwn (w.heap.size + 1 + 1) W (.slice A ks'.length c) ks' cs ∧ w.heap.size + 1 + 1 ≤ W.heap.size)
        have hB3 : Blk W (w.heap.size) 25 scZ := hIw 3 (by kernel_rfl)
        clear hIw hd
        refine wpList_appendSc W rfl (.tmp 24) (.tmp 28) rfl (w.heap.size + 1 + 1) _ ks' cs rfl hX x o_ f_ t_ m_ A_ n_ c_ gb rfl hBg hr5 hkb hbs fun v6 w6 hX6 hb6 => ?_
        obtain ⟨A6, c6, hv6⟩ := hX6.vform
        rw [List.length_append, List.length_singleton] at hv6
        subst hv6
        unfold wpList
        refine ⟨rfl, _, rfl, hb6.mono (Nat.zero_le _), ⟨x, A6, c6, _, rfl, hX6, he5, hm5.below hgl (by omega) hb6, hB3.below hb6 (by omega), hB0.below hb6 (by omega)⟩, fun n hn hI => ?_, fun j hj => ?_⟩
        · match n, hn, hI with
          | 0, _, hI => exact Blk.below hI hb6 (by omega)
          | 1, _, hI => exact MadeW.below hI hgl (by omega) hb6
          | 2, hn, _ => exact absurd hn (by decide)
          | 3, _, hI => exact Blk.below hI hb6 (by omega)
          | n + 4, _, _ => trivial
        · simp only [List.mem_cons, List.not_mem_nil, or_false] at hj
          rcases hj with rfl | rfl | rfl | rfl | rfl
          all_goals
            intro g' hg' hp
            obtain rfl := Option.some.inj hg'
            exact hp
      · refine step_gV 7 [] _ _ rfl rfl hI (by kernel_rfl) fun vals W hb hB hIw hd => ?_
        go_wp2
        exact ⟨rfl, _, rfl, Gr.refl _, rfl⟩
      · refine step_sV 8 [6, 7] [0, 1, 2, 3, 7] _ _ rfl rfl (by kernel_rfl) (by kernel_rfl) fun vals W hb hB hIw hd => ?_
        obtain ⟨x, A6, c6, cs6, h6, hX6, he6, hm6, hB3, hB0⟩ := (show Aq6 w g (w.heap.size) (w.heap.size + 1) 6 A ks' c (one s).1 (one s).2 (vals 6) W from hd 6 (by simp) _ rfl)
        have h7 : vals 7 = _ := hd 7 (by simp) _ rfl
        rw [h6, h7]
        clear hIw hd
        obtain ⟨y0, y1, y2, y3, y4, t0, t1, t2, t3, t4⟩ := five_cells5 hB0
        go_wp2
        have hS := hB0.set_ 4 (.slice A6 (ks'.length + 1) c6)
        refine ⟨rfl, .nilIface, rfl, below0_setW _ _ _, ⟨x, A6, c6, cs6, hX6.far (by show w.heap.size + 1 < w.heap.size + 1 + 1; omega) _, he6, hm6.far hgl (by show w.heap.size ≤ w.heap.size + 1; omega) _, hB3.far (by show w.heap.size ≠ w.heap.size + 1; omega) _, by simpa using hS⟩, fun n hn hI => ?_, fun j hj => ?_⟩
        · match n, hn, hI with
          | 0, hn, _ => exact absurd hn (by decide)
          | 1, _, hI => exact MadeW.far hI hgl (by show w.heap.size ≤ w.heap.size + 1; omega) _
          | 2, _, hI => exact ⟨hI.1.far (by show w.heap.size + 1 < w.heap.size + 1 + 1; omega) _, by simpa [World.setCell] using hI.2⟩
          | 3, _, hI => exact Blk.far hI (by show w.heap.size ≠ w.heap.size + 1; omega) _
          | n + 4, _, _ => trivial
        · simp only [List.mem_cons, List.not_mem_nil, or_false] at hj
          rcases hj with rfl | rfl | rfl | rfl | rfl
          all_goals
            intro g' hg' hp
            obtain rfl := Option.some.inj hg'
            exact hp
    intro vals W hb hf
    obtain ⟨x, A6, c6, cs6, hX6, he6, hm6, hB36, hB06⟩ := (show Aq8 w g (w.heap.size) (w.heap.size + 1) 6 ks' (one s).1 (one s).2 W from hf 8 _ rfl (fun k hk => by simp))
    have hB5c := hB06.cell 4
    have HS1 := Lib.hid (show slAtW W ⟨w.heap.size + 1, 4, none⟩ = ks'.length + 1 by unfold slAtW; rw [hB5c]; rfl)
    have cA := saheadW_any bAnd hm6.1
    have HE6 := Lib.hid he6
    clear hf hb he6
    have hst2 := fun hT => sevW_step (one := one) (m := bAnd) (n := n) (ks := ks ++ [(one s).1]) (s := (one s).2) H1.out hT HN.out
    have hend := fun hT => sevW_end (one := one) (m := bAnd) (n := n) (ks := ks ++ [(one s).1]) (s := (one s).2) hT
    rw [← HRe.out] at hst2 hend
    generalize hos : one s = os at *
    obtain ⟨x2, s3⟩ := os
    dsimp only at *
    cases hT : aheadW bAnd s3 with
    | true =>
      rw [hT] at cA
      have cW := fun W (hE : EnvW TS W g s3) => stakeW_any hE
      obtain ⟨n', hn', hR2, hN2⟩ := hst2 hT
      have HR2 := Lib.hid hR2
      have HN2 := Lib.hid hN2
      have HNN := Lib.hid hn'
      have HOK := Lib.hid (takeW_goes s3).ok
      clear hst2 hend hT hR2 hN2 hn' hB5c
      generalize takeW s3 = o2 at *
      obtain ⟨tx, s4⟩ := o2
      dsimp only at *
      go_wp2_with (first
        | (go_at_call 22; (with_reducible refine cA.mono ?_); rintro e w2 ⟨rfl, hb2⟩)
        | (go_at_call 23; (with_reducible refine (cW _ (hm6.1.gr hb2)).mono ?_); rintro e w3 ⟨rfl, hm3⟩))
      have hB07 := (hB06.below hb2 hB06.lt).xW hm3.2 (by omega)
      have hB7c := hB07.cell 4
      have HS2 := Lib.hid (show slAtW w3 ⟨w.heap.size + 1, 4, none⟩ = ks'.length + 1 by unfold slAtW; rw [hB7c]; rfl)
      clear hB7c
      go_roundw
      case rel => exact ⟨ks ++ [x2], ks' ++ [x], cs6, s4, n', A6, c6, by rw [List.length_append]; exact (hX6.gr hb2).x hm3.2 (by omega), by simp [HKL.out], fun h0 => by rw [HE6.out (HOK.out h0), HKE.out (HGO.out (HOK.out h0))], (hm6.gr hb2).tr hm3, (hB36.below hb2 hB36.lt).xW hm3.2 (by omega), by rw [List.length_append]; exact hB07, HR2.out, HN2.out, by have h1 := HKN.out; have h2 := HNN.out; simp; omega⟩
      case measure => rw [HS0.out, HS2.out]; omega
    | false =>
      rw [hT] at cA
      obtain rfl := hend hT
      clear hst2 hend hT hB5c
      obtain ⟨b0, b1, b2, b3, b4, p0, p1, p2, p3, p4⟩ := five_cells5 hB06
      obtain ⟨r0, r1, r2, r3, r4, q0, q1, q2, q3, q4⟩ := five_cells5 hB36
      by_cases hk : ks'.length = 0
      · obtain rfl := List.eq_nil_of_length_eq_zero hk
        have hks0 : ks = [] := List.eq_nil_of_length_eq_zero (by rw [← HKL.out]; rfl)
        have HK0 := Lib.hid hks0
        rw [List.nil_append] at hX6
        rw [List.length_nil] at hX6 b4 hB06
        obtain ⟨gb, cp, v0, v1, v2, v3, v4, hv, hgb, hgb2, k0, k1, k2, k3, k4, hrx⟩ := hX6.sole
        obtain ⟨o_, m_, f_, t_, A_, n_, c_, hfm⟩ := scRd_form hrx
        obtain ⟨rfl, rfl, rfl, rfl, rfl⟩ : v0 = .int .i64 o_ ∧ v1 = .string m_ ∧ v2 = .int .i64 f_ ∧ v3 = .int .i64 t_ ∧ v4 = .slice A_ n_ c_ := by simpa using hfm
        obtain rfl : A6 = some ⟨gb, 0, none⟩ := by injection hv
        clear hfm hk hks0
        go_wp2_with (go_at_call 22; (with_reducible refine cA.mono ?_); rintro e w2 ⟨rfl, hb2⟩
                     have hB8 := hB36.below hb2 hB36.lt
                     obtain ⟨d0, d1, d2, d3, d4, u0, u1, u2, u3, u4⟩ := five_cells5 hB8
                     obtain ⟨e0, e1, e2, e3, e4, -⟩ := five_cells5 (hB06.below hb2 hB06.lt)
                     have l0 := (hb2.cell (p := ⟨gb, 0, none⟩) hgb2).trans k0
                     have l1 := (hb2.cell (p := ⟨gb, 1, none⟩) hgb2).trans k1
                     have l2 := (hb2.cell (p := ⟨gb, 2, none⟩) hgb2).trans k2
                     have l3 := (hb2.cell (p := ⟨gb, 3, none⟩) hgb2).trans k3
                     have l4 := (hb2.cell (p := ⟨gb, 4, none⟩) hgb2).trans k4)
        all_goals (try (exfalso; omega))
        obtain ⟨z0, z1, z2, z3, z4, -⟩ := five_cells5 (hB8.put5 (y0 := .int .i64 o_) (y1 := .string m_) (y2 := .int .i64 f_) (y3 := .int .i64 t_) (y4 := .slice A_ n_ c_))
        exact bodyPost_ret (v := .agg (scC o_ m_ f_ t_ A_ n_ c_)) (by simp [results, Tryz.results14, go_sem, z0, z1, z2, z3, z4]) rfl (HF.out w2 o_ m_ f_ t_ A_ n_ c_ x (RdSc.mono (fun b hb => ⟨by omega, Nat.lt_of_lt_of_le hb.2 hb2.size⟩) _ _ (RdSc.keep (fun p hp => hb2.cell hp.2) _ _ hrx)) (fun h0 => by rw [HK0.out, HE6.out h0]; rfl) (hm6.gr hb2))
      · have e1 : (((ks'.length : Int) + 1) == 1) = false := by simp; omega
        have e2 : decide (ks'.length + 1 = 1) = false := decide_eq_false (by omega)
        have e3 : ¬ ks'.length = 0 := hk
        have e4 : ((ks'.length : Int) == 0) = false := beq_eq_false_iff_ne.2 (by omega)
        have hkk : ¬ (ks' ++ [x]).length = 1 := by rw [List.length_append, List.length_singleton]; omega
        have ea := aloneS_many (op := 6) hkk
        have HEA := Lib.hid ea
        have hXl : ScOwn (w.heap.size + 1 + 1) W (.slice A6 (ks'.length + 1) c6) (ks' ++ [x]) cs6 := hX6
        obtain ⟨A2, c2, hv, hrx⟩ := hXl.node 6
        clear hkk hk ea hv
        go_wp2_with (go_at_call 22; (with_reducible refine cA.mono ?_); rintro e w2 ⟨rfl, hb2⟩
                     have hB8 := hB36.below hb2 hB36.lt
                     obtain ⟨d0, d1, d2, d3, d4, u0, u1, u2, u3, u4⟩ := five_cells5 hB8
                     obtain ⟨i0, i1, i2, i3, i4, -⟩ := five_cells5 (hB06.below hb2 hB06.lt))
        all_goals (try (exfalso; omega))
        obtain ⟨z0, z1, z2, z3, z4, -⟩ := five_cells5 (hB8.put5 (y0 := .int .i64 6) (y1 := .string ⟨#[]⟩) (y2 := .int .i64 0) (y3 := .int .i64 0) (y4 := .slice A6 (ks'.length + 1) c6))
        exact bodyPost_ret (v := .agg (scC 6 ⟨#[]⟩ 0 0 A6 (ks'.length + 1) c6)) (by simp [results, Tryz.results14, go_sem, z0, z1, z2, z3, z4]) rfl (HF.out w2 6 ⟨#[]⟩ 0 0 A6 (ks'.length + 1) c6 _ (RdSc.mono (fun b hb => ⟨by omega, Nat.lt_of_lt_of_le hb.2 hb2.size⟩) _ _ (RdSc.keep (fun p hp => hb2.cell hp.2) _ _ hrx)) (fun h0 => by rw [← HEA.out, HKE.out (HGO.out h0), HE6.out h0]) (hm6.gr hb2))
set_option maxRecDepth 100000 in
set_option maxHeartbeats 8000000 in
theorem ssevW_or {w : World} {g : Nat} {s : Wst} (d : Int) (one : Wst → Sc × Wst) (h1 : ∀ s, GoesW s (one s).2) (cOne : ∀ (W : World) (s : Wst), EnvW TS W g s → Calls Tryz.prog 14 #[.pointer (some ⟨g, 0, none⟩), .int .i64 6, .int .i64 d] W (PW TS W g (one s))) (h : EnvW TS w g s) :
    Calls Tryz.prog 14 #[.pointer (some ⟨g, 0, none⟩), .int .i64 7, .int .i64 d] w (PW TS w g (manyW one 7 bOr s)) := by
  have hgl := h.lt
  have hlen := h.len
  have hgo := (h1 s).len
  obtain ⟨W0, hW0⟩ : ∃ W0, (w.alloc (.cells scZ 25)).alloc (.cells (scC 7 ⟨#[]⟩ 0 0 none 0 0) 25) = W0 := ⟨_, rfl⟩
  have hG0 : Gr w W0 := by rw [← hW0]; exact Gr.trans (Gr.alloc _ _) (Gr.alloc _ _)
  have hs0 : W0.heap.size = w.heap.size + 2 := by rw [← hW0]; simp
  have hBr : Blk W0 w.heap.size 25 scZ := by rw [← hW0]; exact (Blk.new w _ _).alloc _
  have hB5 : Blk W0 (w.heap.size + 1) 25 (scC 7 ⟨#[]⟩ 0 0 none 0 0) := by
    rw [← hW0]
    have := Blk.new (w.alloc (.cells scZ 25)) 25 (scC 7 ⟨#[]⟩ 0 0 none 0 0)
    rwa [show (w.alloc (.cells scZ 25)).heap.size = w.heap.size + 1 by simp] at this
  have hE0 := h.gr hG0
  have HF := Lib.hid (fun W o_ m_ f_ t_ A_ n_ c_ x hr he hm => @PW.fin w g TS W (manyW one 7 bOr s) o_ m_ f_ t_ A_ n_ c_ x hgl hr he hm)
  have hR : (sevW one bOr (s.l.length + 1) [(one s).1] (one s).2).2 = (manyW one 7 bOr s).2 := rfl
  have hR1 : aloneS 7 (sevW one bOr (s.l.length + 1) [(one s).1] (one s).2).1 = (manyW one 7 bOr s).1 := rfl
  rw [← hR1, ← hR] at HF
  generalize hRR : sevW one bOr (s.l.length + 1) [(one s).1] (one s).2 = R at *
  have hst : SevX one bOr 7 R w g (w.heap.size) (w.heap.size + 1) W0 :=
    ⟨[], [], [], s, s.l.length + 1, none, 0, ScOwn.nil _ _, rfl, fun _ => rfl, ⟨hE0, GrX.of_gr hG0 g⟩, hBr, hB5, hRR.symm, fun _ => by omega, by simp; omega⟩
  have HST := Lib.hid hst
  have HOne := Lib.hid cOne
  have H1 := Lib.hid h1
  have HW0 := Lib.hid hW0
  generalize hPost : PW TS w g (manyW one 7 bOr s) = Post at *
  clear hW0 cOne h1 h hE0 hRR hPost hR hR1 hst hG0 hs0 hBr hB5 hlen hgo
  go_enter Tryz.func14, Tryz.ntmps14
  go_wp2
  rw [HW0.out]
  go_loopw [13] (fun _ wr => SevX one bOr 7 R w g (w.heap.size) (w.heap.size + 1) wr) (fun _ wr => 2100 - slAtW wr ⟨w.heap.size + 1, 4, none⟩)
  case atStart => exact HST.out
  case round =>
    obtain ⟨ks, ks', cs, s, n, A, c, hX, hkl, hke, hm, hBr, hB5, hRe, hn, hkn⟩ := hrel
    have hgo := (H1.out s).ok
    have hAI : ∀ n, AqI w g (w.heap.size) (w.heap.size + 1) 7 A c ks' cs s n wr.drew := fun n => by
      match n with
      | 0 => exact hB5.drew
      | 1 => exact hm.gr (Gr.drew _)
      | 2 => exact ⟨hX.gr (Gr.drew _), hB5.lt⟩
      | 3 => exact hBr.drew
      | n + 4 => trivial
    have HAI := Lib.hid hAI
    have hB5c := hB5.cell 4
    have HS0 := Lib.hid (show slAtW wr ⟨w.heap.size + 1, 4, none⟩ = ks'.length by unfold slAtW; rw [hB5c]; rfl)
    have hkb : ks'.length ≤ 100000 := by omega
    have hkm : ks'.length < 2100 := by omega
    have HKE := Lib.hid hke
    have HKL := Lib.hid hkl
    have HKN := Lib.hid hkn
    have HRe := Lib.hid hRe
    have HN := Lib.hid hn
    have HGO := Lib.hid hgo
    clear hAI hB5c hX hBr hB5 hm hRe hn hke hkl hkn hgo
    go_wp2
    refine wp_region_factsV [.at_ 0 (.is (.pointer (some ⟨w.heap.size + 1, 4, none⟩))), .at_ 1 (.is (.slice A ks'.length c)), .at_ 2 (.is (.pointer (some ⟨g, 0, none⟩))), .at_ 3 (.is (.int .i64 d)),
        .at_ 4 ⟨Aq4 w g (w.heap.size + 1) A ks' c (one s).1 (one s).2, fun _ _ _ h hg => h.gr hg⟩, .at_ 5 ⟨Aq5 w g (w.heap.size + 1) A ks' c (one s).1 (one s).2, fun _ _ _ h hg => h.gr hg⟩,
        .at_ 6 ⟨Aq6 w g (w.heap.size) (w.heap.size + 1) 7 A ks' c (one s).1 (one s).2, fun _ _ _ h hg => h.gr hg⟩, .at_ 7 (.is (.pointer (some ⟨w.heap.size + 1, 4, none⟩))),
        .at_ 8 ⟨fun _ => Aq8 w g (w.heap.size) (w.heap.size + 1) 7 ks' (one s).1 (one s).2, fun _ _ _ h hg => h.gr hg⟩]
        (AqI w g (w.heap.size) (w.heap.size + 1) 7 A c ks' cs s) (fun i j => (i == 6 && (j == 4 || j == 5)) || (i == 8 && (j == 4 || j == 5 || j == 6))) (fun i n => (i == 8 && n == 0) || (i == 4 && n == 1) || (i == 6 && n == 2)) 0 (by kernel_rfl) rfl (by kernel_rfl) (by kernel_rfl) (by kernel_rfl) (Nat.zero_le _)
        (fun n => HAI.out n) (fun vals => by simp [fillA, dstsOf, go_sem]; rfl) ?_ ?_
    · intro i hi
      replace hi : i < 9 := hi
      have hI := @AqI.gr w g (w.heap.size) (w.heap.size + 1) 7 A c ks' cs s
      rcases (by omega : i = 0 ∨ i = 1 ∨ i = 2 ∨ i = 3 ∨ i = 4 ∨ i = 5 ∨ i = 6 ∨ i = 7 ∨ i = 8) with rfl | rfl | rfl | rfl | rfl | rfl | rfl | rfl | rfl
      · refine step_gV 0 [] _ _ rfl rfl hI (by kernel_rfl) fun vals W hb hB hIw hd => ?_
        go_wp2
        exact ⟨rfl, _, rfl, Gr.refl _, rfl⟩
      · refine step_gV 1 [0] _ _ rfl rfl hI (by kernel_rfl) fun vals W hb hB hIw hd => ?_
        have h0 : vals 0 = _ := hd 0 (by simp) _ rfl
        rw [h0]
        have hc : W.cell? ⟨w.heap.size + 1, 4, none⟩ = some (.slice A ks'.length c) := Blk.cell (hIw 0 (by kernel_rfl) : Blk W (w.heap.size + 1) _ _) 4
        clear hIw
        go_wp2
        exact ⟨rfl, _, rfl, Gr.refl _, rfl⟩
      · refine step_gV 2 [] _ _ rfl rfl hI (by kernel_rfl) fun vals W hb hB hIw hd => ?_
        go_wp2
        exact ⟨rfl, _, rfl, Gr.refl _, rfl⟩
      · refine step_gV 3 [] _ _ rfl rfl hI (by kernel_rfl) fun vals W hb hB hIw hd => ?_
        go_wp2
        exact ⟨rfl, _, rfl, Gr.refl _, rfl⟩
      · refine step_sV 4 [2, 3] [0, 1, 2, 3, 7] _ _ rfl rfl (by kernel_rfl) (by kernel_rfl) fun vals W hb hB hIw hd => ?_
        have h2 : vals 2 = _ := hd 2 (by simp) _ rfl
        have h3 : vals 3 = _ := hd 3 (by simp) _ rfl
        rw [h2, h3]
        have hM : MadeW TS w g s W := hIw 1 (by kernel_rfl)
        have hW2 := Lib.hid (hIw 2 (by kernel_rfl) : ScOwn (w.heap.size + 1 + 1) W (.slice A ks'.length c) ks' cs ∧ w.heap.size + 1 + 1 ≤ W.heap.size)
        have cF := HOne.out W s hM.1
        unfold PW at cF
        clear hIw hd
        go_wp2_with (go_at_call 14; (with_reducible refine cF.mono ?_); rintro e w4 ⟨o_, m_, f_, t_, A_, n_, c_, x, rfl, hr4, he4, hm4⟩)
        refine ⟨rfl, _, rfl, Gr.ofMadeW hm4, ⟨o_, m_, f_, t_, A_, n_, c_, x, rfl, RdSc.mono (fun b hb => ⟨Nat.le_trans hW2.out.2 hb.1, hb.2, own_ltW hW2.out.1.row b hb.1⟩) _ _ hr4, he4, hM.tr hm4⟩, fun n hn hI => ?_, fun j hj => ?_⟩
        · match n, hn, hI with
          | 0, _, hI => exact Blk.xW hI hm4.2 (by omega)
          | 1, hn, _ => exact absurd hn (by decide)
          | 2, _, hI => exact ⟨hI.1.x hm4.2 (by omega), Nat.le_trans hI.2 hm4.2.size⟩
          | 3, _, hI => exact Blk.xW hI hm4.2 (by omega)
          | n + 4, _, _ => trivial
        · simp only [List.mem_cons, List.not_mem_nil, or_false] at hj
          rcases hj with rfl | rfl | rfl | rfl | rfl
          all_goals
            intro g' hg' hp
            obtain rfl := Option.some.inj hg'
            exact hp
      · refine step_gV 5 [4] _ _ rfl rfl hI (by kernel_rfl) fun vals W hb hB hIw hd => ?_
        obtain ⟨o_, m_, f_, t_, A_, n_, c_, x, h4, hr4, he4, hm4⟩ := (show Aq4 w g (w.heap.size + 1) A ks' c (one s).1 (one s).2 (vals 4) W from hd 4 (by simp) _ rfl)
        rw [h4]
        clear hIw hd
        have hG5 := Gr.alloc W (.cells (scC o_ m_ f_ t_ A_ n_ c_) 25)
        go_wp2
        exact ⟨rfl, _, rfl, hG5, o_, m_, f_, t_, A_, n_, c_, x, W.heap.size, rfl, Blk.new W _ _, rds_own_gr hr4 hG5, he4, hm4.gr hG5⟩
      · refine step_sV 6 [1, 5] [0, 1, 2, 3, 7] _ _ rfl rfl (by kernel_rfl) (by kernel_rfl) fun vals W hb hB hIw hd => ?_
        have h1 : vals 1 = _ := hd 1 (by simp) _ rfl
        obtain ⟨o_, m_, f_, t_, A_, n_, c_, x, gb, h5, hBg, hr5, he5, hm5⟩ := (show Aq5 w g (w.heap.size + 1) A ks' c (one s).1 (one s).2 (vals 5) W from hd 5 (by simp) _ rfl)
        rw [h1, h5]
        have hB0 : Blk W (w.heap.size + 1) 25 (scC 7 ⟨#[]⟩ 0 0 A ks'.length c) := hIw 0 (by kernel_rfl)
        obtain ⟨hX, hbs⟩ := (hIw 2 (by kernel_rfl) : ScOwn (w.heap.size + 1 + 1) W (.slice A ks'.length c) ks' cs ∧ w.heap.size + 1 + 1 ≤ W.heap.size)
        have hB3 : Blk W (w.heap.size) 25 scZ := hIw 3 (by kernel_rfl)
        clear hIw hd
        refine wpList_appendSc W rfl (.tmp 16) (.tmp 20) rfl (w.heap.size + 1 + 1) _ ks' cs rfl hX x o_ f_ t_ m_ A_ n_ c_ gb rfl hBg hr5 hkb hbs fun v6 w6 hX6 hb6 => ?_
        obtain ⟨A6, c6, hv6⟩ := hX6.vform
        rw [List.length_append, List.length_singleton] at hv6
        subst hv6
        unfold wpList
        refine ⟨rfl, _, rfl, hb6.mono (Nat.zero_le _), ⟨x, A6, c6, _, rfl, hX6, he5, hm5.below hgl (by omega) hb6, hB3.below hb6 (by omega), hB0.below hb6 (by omega)⟩, fun n hn hI => ?_, fun j hj => ?_⟩
        · match n, hn, hI with
          | 0, _, hI => exact Blk.below hI hb6 (by omega)
          | 1, _, hI => exact MadeW.below hI hgl (by omega) hb6
          | 2, hn, _ => exact absurd hn (by decide)
          | 3, _, hI => exact Blk.below hI hb6 (by omega)
          | n + 4, _, _ => trivial
        · simp only [List.mem_cons, List.not_mem_nil, or_false] at hj
          rcases hj with rfl | rfl | rfl | rfl | rfl
          all_goals
            intro g' hg' hp
            obtain rfl := Option.some.inj hg'
            exact hp
      · refine step_gV 7 [] _ _ rfl rfl hI (by kernel_rfl) fun vals W hb hB hIw hd => ?_
        go_wp2
        exact ⟨rfl, _, rfl, Gr.refl _, rfl⟩
      · refine step_sV 8 [6, 7] [0, 1, 2, 3, 7] _ _ rfl rfl (by kernel_rfl) (by kernel_rfl) fun vals W hb hB hIw hd => ?_
        obtain ⟨x, A6, c6, cs6, h6, hX6, he6, hm6, hB3, hB0⟩ := (show Aq6 w g (w.heap.size) (w.heap.size + 1) 7 A ks' c (one s).1 (one s).2 (vals 6) W from hd 6 (by simp) _ rfl)
        have h7 : vals 7 = _ := hd 7 (by simp) _ rfl
        rw [h6, h7]
        clear hIw hd
        obtain ⟨y0, y1, y2, y3, y4, t0, t1, t2, t3, t4⟩ := five_cells5 hB0
        go_wp2
        have hS := hB0.set_ 4 (.slice A6 (ks'.length + 1) c6)
        refine ⟨rfl, .nilIface, rfl, below0_setW _ _ _, ⟨x, A6, c6, cs6, hX6.far (by show w.heap.size + 1 < w.heap.size + 1 + 1; omega) _, he6, hm6.far hgl (by show w.heap.size ≤ w.heap.size + 1; omega) _, hB3.far (by show w.heap.size ≠ w.heap.size + 1; omega) _, by simpa using hS⟩, fun n hn hI => ?_, fun j hj => ?_⟩
        · match n, hn, hI with
          | 0, hn, _ => exact absurd hn (by decide)
          | 1, _, hI => exact MadeW.far hI hgl (by show w.heap.size ≤ w.heap.size + 1; omega) _
          | 2, _, hI => exact ⟨hI.1.far (by show w.heap.size + 1 < w.heap.size + 1 + 1; omega) _, by simpa [World.setCell] using hI.2⟩
          | 3, _, hI => exact Blk.far hI (by show w.heap.size ≠ w.heap.size + 1; omega) _
          | n + 4, _, _ => trivial
        · simp only [List.mem_cons, List.not_mem_nil, or_false] at hj
          rcases hj with rfl | rfl | rfl | rfl | rfl
          all_goals
            intro g' hg' hp
            obtain rfl := Option.some.inj hg'
            exact hp
    intro vals W hb hf
    obtain ⟨x, A6, c6, cs6, hX6, he6, hm6, hB36, hB06⟩ := (show Aq8 w g (w.heap.size) (w.heap.size + 1) 7 ks' (one s).1 (one s).2 W from hf 8 _ rfl (fun k hk => by simp))
    have hB5c := hB06.cell 4
    have HS1 := Lib.hid (show slAtW W ⟨w.heap.size + 1, 4, none⟩ = ks'.length + 1 by unfold slAtW; rw [hB5c]; rfl)
    have cA := saheadW_any bOr hm6.1
    have HE6 := Lib.hid he6
    clear hf hb he6
    have hst2 := fun hT => sevW_step (one := one) (m := bOr) (n := n) (ks := ks ++ [(one s).1]) (s := (one s).2) H1.out hT HN.out
    have hend := fun hT => sevW_end (one := one) (m := bOr) (n := n) (ks := ks ++ [(one s).1]) (s := (one s).2) hT
    rw [← HRe.out] at hst2 hend
    generalize hos : one s = os at *
    obtain ⟨x2, s3⟩ := os
    dsimp only at *
    cases hT : aheadW bOr s3 with
    | true =>
      rw [hT] at cA
      have cW := fun W (hE : EnvW TS W g s3) => stakeW_any hE
      obtain ⟨n', hn', hR2, hN2⟩ := hst2 hT
      have HR2 := Lib.hid hR2
      have HN2 := Lib.hid hN2
      have HNN := Lib.hid hn'
      have HOK := Lib.hid (takeW_goes s3).ok
      clear hst2 hend hT hR2 hN2 hn' hB5c
      generalize takeW s3 = o2 at *
      obtain ⟨tx, s4⟩ := o2
      dsimp only at *
      go_wp2_with (first
        | (go_at_call 22; (with_reducible refine cA.mono ?_); rintro e w2 ⟨rfl, hb2⟩)
        | (go_at_call 23; (with_reducible refine (cW _ (hm6.1.gr hb2)).mono ?_); rintro e w3 ⟨rfl, hm3⟩))
      have hB07 := (hB06.below hb2 hB06.lt).xW hm3.2 (by omega)
      have hB7c := hB07.cell 4
      have HS2 := Lib.hid (show slAtW w3 ⟨w.heap.size + 1, 4, none⟩ = ks'.length + 1 by unfold slAtW; rw [hB7c]; rfl)
      clear hB7c
      go_roundw
      case rel => exact ⟨ks ++ [x2], ks' ++ [x], cs6, s4, n', A6, c6, by rw [List.length_append]; exact (hX6.gr hb2).x hm3.2 (by omega), by simp [HKL.out], fun h0 => by rw [HE6.out (HOK.out h0), HKE.out (HGO.out (HOK.out h0))], (hm6.gr hb2).tr hm3, (hB36.below hb2 hB36.lt).xW hm3.2 (by omega), by rw [List.length_append]; exact hB07, HR2.out, HN2.out, by have h1 := HKN.out; have h2 := HNN.out; simp; omega⟩
      case measure => rw [HS0.out, HS2.out]; omega
    | false =>
      rw [hT] at cA
      obtain rfl := hend hT
      clear hst2 hend hT hB5c
      obtain ⟨b0, b1, b2, b3, b4, p0, p1, p2, p3, p4⟩ := five_cells5 hB06
      obtain ⟨r0, r1, r2, r3, r4, q0, q1, q2, q3, q4⟩ := five_cells5 hB36
      by_cases hk : ks'.length = 0
      · obtain rfl := List.eq_nil_of_length_eq_zero hk
        have hks0 : ks = [] := List.eq_nil_of_length_eq_zero (by rw [← HKL.out]; rfl)
        have HK0 := Lib.hid hks0
        rw [List.nil_append] at hX6
        rw [List.length_nil] at hX6 b4 hB06
        obtain ⟨gb, cp, v0, v1, v2, v3, v4, hv, hgb, hgb2, k0, k1, k2, k3, k4, hrx⟩ := hX6.sole
        obtain ⟨o_, m_, f_, t_, A_, n_, c_, hfm⟩ := scRd_form hrx
        obtain ⟨rfl, rfl, rfl, rfl, rfl⟩ : v0 = .int .i64 o_ ∧ v1 = .string m_ ∧ v2 = .int .i64 f_ ∧ v3 = .int .i64 t_ ∧ v4 = .slice A_ n_ c_ := by simpa using hfm
        obtain rfl : A6 = some ⟨gb, 0, none⟩ := by injection hv
        clear hfm hk hks0
        go_wp2_with (go_at_call 22; (with_reducible refine cA.mono ?_); rintro e w2 ⟨rfl, hb2⟩
                     have hB8 := hB36.below hb2 hB36.lt
                     obtain ⟨d0, d1, d2, d3, d4, u0, u1, u2, u3, u4⟩ := five_cells5 hB8
                     obtain ⟨e0, e1, e2, e3, e4, -⟩ := five_cells5 (hB06.below hb2 hB06.lt)
                     have l0 := (hb2.cell (p := ⟨gb, 0, none⟩) hgb2).trans k0
                     have l1 := (hb2.cell (p := ⟨gb, 1, none⟩) hgb2).trans k1
                     have l2 := (hb2.cell (p := ⟨gb, 2, none⟩) hgb2).trans k2
                     have l3 := (hb2.cell (p := ⟨gb, 3, none⟩) hgb2).trans k3
                     have l4 := (hb2.cell (p := ⟨gb, 4, none⟩) hgb2).trans k4)
        all_goals (try (exfalso; omega))
        obtain ⟨z0, z1, z2, z3, z4, -⟩ := five_cells5 (hB8.put5 (y0 := .int .i64 o_) (y1 := .string m_) (y2 := .int .i64 f_) (y3 := .int .i64 t_) (y4 := .slice A_ n_ c_))
        exact bodyPost_ret (v := .agg (scC o_ m_ f_ t_ A_ n_ c_)) (by simp [results, Tryz.results14, go_sem, z0, z1, z2, z3, z4]) rfl (HF.out w2 o_ m_ f_ t_ A_ n_ c_ x (RdSc.mono (fun b hb => ⟨by omega, Nat.lt_of_lt_of_le hb.2 hb2.size⟩) _ _ (RdSc.keep (fun p hp => hb2.cell hp.2) _ _ hrx)) (fun h0 => by rw [HK0.out, HE6.out h0]; rfl) (hm6.gr hb2))
      · have e1 : (((ks'.length : Int) + 1) == 1) = false := by simp; omega
        have e2 : decide (ks'.length + 1 = 1) = false := decide_eq_false (by omega)
        have e3 : ¬ ks'.length = 0 := hk
        have e4 : ((ks'.length : Int) == 0) = false := beq_eq_false_iff_ne.2 (by omega)
        have hkk : ¬ (ks' ++ [x]).length = 1 := by rw [List.length_append, List.length_singleton]; omega
        have ea := aloneS_many (op := 7) hkk
        have HEA := Lib.hid ea
        have hXl : ScOwn (w.heap.size + 1 + 1) W (.slice A6 (ks'.length + 1) c6) (ks' ++ [x]) cs6 := hX6
        obtain ⟨A2, c2, hv, hrx⟩ := hXl.node 7
        clear hkk hk ea hv
        go_wp2_with (go_at_call 22; (with_reducible refine cA.mono ?_); rintro e w2 ⟨rfl, hb2⟩
                     have hB8 := hB36.below hb2 hB36.lt
                     obtain ⟨d0, d1, d2, d3, d4, u0, u1, u2, u3, u4⟩ := five_cells5 hB8
                     obtain ⟨i0, i1, i2, i3, i4, -⟩ := five_cells5 (hB06.below hb2 hB06.lt))
        all_goals (try (exfalso; omega))
        obtain ⟨z0, z1, z2, z3, z4, -⟩ := five_cells5 (hB8.put5 (y0 := .int .i64 7) (y1 := .string ⟨#[]⟩) (y2 := .int .i64 0) (y3 := .int .i64 0) (y4 := .slice A6 (ks'.length + 1) c6))
        exact bodyPost_ret (v := .agg (scC 7 ⟨#[]⟩ 0 0 A6 (ks'.length + 1) c6)) (by simp [results, Tryz.results14, go_sem, z0, z1, z2, z3, z4]) rfl (HF.out w2 7 ⟨#[]⟩ 0 0 A6 (ks'.length + 1) c6 _ (RdSc.mono (fun b hb => ⟨by omega, Nat.lt_of_lt_of_le hb.2 hb2.size⟩) _ _ (RdSc.keep (fun p hp => hb2.cell hp.2) _ _ hrx)) (fun h0 => by rw [← HEA.out, HKE.out (HGO.out h0), HE6.out h0]) (hm6.gr hb2))
end Go.Proofs.YtppnlijeonneeaaGreatDoor

namespace Go.Proofs.YtppnlijeonneeaaGreatDoor
open Go Go.RowKit Go.Sort

set_option maxRecDepth 100000 in
theorem number_any13 (s : ByteArray) (w : World) (hs : s.size ≤ 140737488351232) : Calls Tryz.prog 57 #[.string s, .int .i64 13] w fun e w' => e = .returned (.int .i64 (numD s.data.toList 13)) ∧ w = w' := by
  have hl : s.data.toList.length = s.size := by simp
  by_cases h : s.size < 1 ∨ 13 < s.size
  · have e : numD s.data.toList 13 = -1 := by rw [numD, if_pos (by omega)]
    rw [e]; exact number_no s 13 w hs (by omega)
  · by_cases hz : 1 < s.size ∧ s.data.toList.head? = some 48
    · have e : numD s.data.toList 13 = -1 := by rw [numD, if_pos (.inr (.inr ⟨by omega, hz.2⟩))]
      rw [e]
      have := hz.2
      rw [head_is s (by omega)] at this
      exact number_zero s 13 w hs hz.1 (by omega) (by rw [Option.some.inj this]; rfl)
    · have e : numD s.data.toList 13 = (match Lib.decFrom 0 s.data.toList with | some n => (n : Int) | none => -1) := by
        refine if_neg ?_
        rintro (h' | h' | h')
        · omega
        · omega
        · exact hz ⟨by omega, h'.2⟩
      rw [e]
      refine number_yes s 13 w (by omega) (by omega) (by omega) (fun h1 => ?_)
      have hne : s[0] ≠ 48 := by
        intro e0
        exact hz ⟨h1, by rw [head_is s (by omega), e0]⟩
      have : s[0].toNat ≠ 48 := fun e1 => hne (UInt8.toNat_inj.mp e1)
      simpa using (by omega : ¬ ((s[0].toNat : Int) = 48))
theorem index_none45 : ∀ l : List UInt8, (∀ c ∈ l, c ≠ 45) → Lib.index l [45] = -1
  | [], _ => rfl
  | c :: l, h => by
    have ih := index_none45 l (fun x hx => h x (by simp [hx]))
    have hc : c ≠ 45 := h c (by simp)
    have hp : ([45] : List UInt8).isPrefixOf (c :: l) = false := by simp [List.isPrefixOf, Ne.symm hc]
    rw [Lib.index, hp, ih]
    rfl
theorem dash_none {a : ByteArray} (h : ∀ (j : Nat) (hj : j < a.size), a[j]'hj ≠ 45) : spanW a.data.toList = none := by
  have hi : Lib.index a.data.toList [45] = -1 := index_none45 _ fun c hc => by
    obtain ⟨j, hj, rfl⟩ := List.getElem_of_mem hc
    exact h j (by simpa using hj)
  unfold spanW
  have hc : Lib.cut a.data.toList [45] = (a.data.toList, [], false) := by
    unfold Lib.cut
    rw [hi, if_neg (by omega)]
  rw [hc, if_neg]
  rintro ⟨_, h2, _⟩
  have : numD [] 13 = -1 := rfl
  dsimp only at h2
  omega
theorem dash_at {a : ByteArray} {k : Nat} (hk : k < a.size) (h45 : a[k]'hk = 45) (h : ∀ (j : Nat) (hj : j < a.size), j < k → a[j]'hj ≠ 45) : Lib.cut a.data.toList [45] = (a.data.toList.take k, a.data.toList.drop (k + 1), true) := by
  have hl : k < a.data.toList.length := by simpa using hk
  have e : a.data.toList = a.data.toList.take k ++ 45 :: a.data.toList.drop (k + 1) := by
    conv => lhs; rw [← List.take_append_drop k a.data.toList, List.drop_eq_getElem_cons hl]
    congr 2
  have hc := cut_45 (a.data.toList.take k) (a.data.toList.drop (k + 1)) fun c hc => by
    obtain ⟨j, hj, rfl⟩ := List.getElem_of_mem hc
    rw [List.length_take] at hj
    rw [List.getElem_take]
    exact h j (by have : j < a.data.toList.length := by omega
                  simpa using this) (by omega)
  rw [← e] at hc
  exact hc
theorem dash_first (a : ByteArray) : (∀ (j : Nat) (hj : j < a.size), a[j]'hj ≠ 45) ∨ ∃ (k : Nat) (hk : k < a.size), a[k]'hk = 45 ∧ ∀ (j : Nat) (hj : j < a.size), j < k → a[j]'hj ≠ 45 := by
  have key : ∀ n, (∀ (j : Nat) (hj : j < a.size), j < n → a[j]'hj ≠ 45) ∨ ∃ (k : Nat) (hk : k < a.size), a[k]'hk = 45 ∧ ∀ (j : Nat) (hj : j < a.size), j < k → a[j]'hj ≠ 45 := by
    intro n
    induction n with
    | zero => exact .inl fun j _ h => absurd h (by omega)
    | succ n ih =>
      rcases ih with h | h
      · by_cases hn : ∃ hk : n < a.size, a[n]'hk = 45
        · obtain ⟨hk, e⟩ := hn
          exact .inr ⟨n, hk, e, fun j hj hlt => h j hj hlt⟩
        · left
          intro j hj hlt e
          by_cases hjn : j = n
          · subst hjn
            exact hn ⟨hj, e⟩
          · exact h j hj (by omega) e
      · exact .inr h
  rcases key a.size with h | h
  · exact .inl fun j hj => h j hj hj
  · exact .inr h
theorem ext_take (a : ByteArray) (k : Nat) : (a.extract 0 k).data.toList = a.data.toList.take k := by
  simp [ByteArray.data_extract, Array.toList_extract, List.extract]
theorem ext_drop (a : ByteArray) (k : Nat) : (a.extract k a.size).data.toList = a.data.toList.drop k := by
  rw [ByteArray.data_extract, Array.toList_extract]
  rw [List.extract_eq_take_drop, List.take_of_length_le (by simp)]
/-- Where the search for a dash stands. -/
def DashTo (k : Nat) (v4 v5 : Value) : Prop := ∃ i : Nat, v5 = .int .i64 (i : Int) ∧ ((i ≤ k ∧ v4 = .int .i64 (-1)) ∨ (i = k + 1 ∧ v4 = .int .i64 (k : Int)))
section
variable {w w' : World} {g : Nat} {s : Wst}
set_option maxRecDepth 100000 in
set_option maxHeartbeats 1000000 in
theorem stime_any (h : EnvW TS w g s) : Calls Tryz.prog 40 #[.pointer (some ⟨g, 0, none⟩)] w (PW TS w g (timeW s)) := by
  have hgl := h.lt
  have hng : w.heap.size ≠ g := by omega
  have hGA := Gr.alloc w (.cells scZ 25)
  have hB0 := Blk.new w 25 scZ
  have cT := stakeW_any (h.gr hGA)
  have hsz := takeW_small h.small
  have htw : timeW s = match spanW (takeW s).1.data.toList with | some (a, b) => (.mk 5 ⟨#[]⟩ a b [], (takeW s).2) | none => (scN, failW (takeW s).2) := rfl
  rw [htw]
  clear htw h
  generalize takeW s = o2 at *
  obtain ⟨a, s1⟩ := o2
  dsimp only at *
  rcases dash_first a with hno | ⟨k, hk, h45, hb4⟩
  · rw [dash_none hno]
    dsimp only
    have hF : ∀ W, MadeW TS w g s1 W → PW TS w g (scN, failW s1) (.returned (.agg scZ)) (set5v (W.setCell ⟨g, 1, none⟩ (.bool true)) w.heap.size (.int .i64 0) (.string ⟨#[]⟩) (.int .i64 0) (.int .i64 0) (.slice none 0 0)) :=
      fun W hm => PW.fin (x := scN) hgl (rd_leaf _ _ _ _ _ _) (fun _ => rfl) (hm.tr hm.env.setF)
    have HF := Lib.hid hF
    have HNO := Lib.hid hno
    clear hF hno
    generalize hPost : PW TS w g (scN, failW s1) = Post at *
    clear hPost
    go_enter Tryz.func40, Tryz.ntmps40
    go_wp2_with (go_at_call 23; (with_reducible refine cT.mono ?_); rintro e w1 ⟨rfl, hm1⟩
                 obtain ⟨LA, lc, g0, g1, gf0, gf1, -, -⟩ := hm1.1.cells
                 have hB4 := (hB0.xW (hm1.2) (by omega))
                 have hB5 := hB4.far (p := ⟨g, 1, none⟩) hng (.bool true)
                 obtain ⟨r0, r1, r2, r3, r4, q0, q1, q2, q3, q4⟩ := five_cells5 hB5)
    go_loop [4, 5] (fun v4 v5 => ∃ i : Nat, v5 = .int .i64 (i : Int) ∧ v4 = .int .i64 (-1) ∧ i ≤ a.size) (fun _ v5 => a.size - (intOf v5).toNat)
    case atStart => exact ⟨0, rfl, rfl, Nat.zero_le _⟩
    case round =>
      obtain ⟨i, rfl, rfl, hi⟩ := hrel
      by_cases hlt : i < a.size
      · have m0 : (((a[i]'hlt).toNat : Int) == 45) = false := by
          have h1 := HNO.out i hlt
          have : (a[i]'hlt).toNat ≠ 45 := fun e1 => h1 (UInt8.toNat_inj.mp e1)
          simpa using (by omega : ¬ (((a[i]'hlt).toNat : Int) = 45))
        go_wp2
        go_round
        case rel => exact ⟨i + 1, by go_num, rfl, hlt⟩
        case measure => simp [intOf]; omega
      · go_wp2
        obtain ⟨z0, z1, z2, z3, z4, -⟩ := five_cells5 (hB5.put5 (y0 := .int .i64 0) (y1 := .string ⟨#[]⟩) (y2 := .int .i64 0) (y3 := .int .i64 0) (y4 := .slice none 0 0))
        exact bodyPost_ret (v := .agg scZ) (by simp [results, Tryz.results40, go_sem, z0, z1, z2, z3, z4]) rfl (HF.out w1 (hm1.after hGA))
  · have hsp : spanW a.data.toList = if 0 ≤ numD (a.data.toList.take k) 13 ∧ 0 ≤ numD (a.data.toList.drop (k + 1)) 13 ∧ numD (a.data.toList.take k) 13 ≤ numD (a.data.toList.drop (k + 1)) 13 ∧ numD (a.data.toList.drop (k + 1)) 13 ≤ 1099511627776
      then some (numD (a.data.toList.take k) 13, numD (a.data.toList.drop (k + 1)) 13) else none := by
      unfold spanW
      rw [dash_at hk h45 hb4]
    rw [hsp]
    clear hsp
    have cN1 := fun W => number_any13 (a.extract 0 k) W (by rw [ByteArray.size_extract]; omega)
    have cN2 := fun W => number_any13 (a.extract (k + 1) a.size) W (by rw [ByteArray.size_extract]; omega)
    rw [ext_take] at cN1
    rw [ext_drop] at cN2
    generalize numD (a.data.toList.take k) 13 = n1 at *
    generalize numD (a.data.toList.drop (k + 1)) 13 = n2 at *
    have H45 := Lib.hid h45
    have HB4 := Lib.hid hb4
    clear h45 hb4
    have hkl : k ≤ 2000 := by omega
    by_cases hp : 0 ≤ n1 ∧ 0 ≤ n2 ∧ n1 ≤ n2 ∧ n2 ≤ 1099511627776
    · rw [if_pos hp]
      obtain ⟨p1, p2, p3, p4⟩ := hp
      dsimp only
      have hF : ∀ W, MadeW TS w g s1 W → PW TS w g (.mk 5 ⟨#[]⟩ n1 n2 [], s1) (.returned (.agg (scC 5 ⟨#[]⟩ n1 n2 none 0 0))) (set5v W w.heap.size (.int .i64 5) (.string ⟨#[]⟩) (.int .i64 n1) (.int .i64 n2) (.slice none 0 0)) :=
        fun W hm => PW.fin (x := .mk 5 ⟨#[]⟩ n1 n2 []) hgl (rd_leaf _ _ _ _ _ _) (fun _ => rfl) hm
      have HF := Lib.hid hF
      clear hF
      generalize hPost : PW TS w g (.mk 5 ⟨#[]⟩ n1 n2 [], s1) = Post at *
      clear hPost
      go_enter Tryz.func40, Tryz.ntmps40
      go_wp2_with (go_at_call 23; (with_reducible refine cT.mono ?_); rintro e w1 ⟨rfl, hm1⟩)
      go_loop [4, 5] (fun v4 v5 => DashTo k v4 v5) (fun _ v5 => k + 2 - (intOf v5).toNat)
      case atStart => exact ⟨0, rfl, .inl ⟨Nat.zero_le _, rfl⟩⟩
      case round =>
        obtain ⟨i, rfl, (⟨hi, rfl⟩ | ⟨rfl, rfl⟩)⟩ := hrel
        · have hlt : i < a.size := by omega
          by_cases hik : i = k
          · subst hik
            have m0 : (((a[i]'hlt).toNat : Int) == 45) = true := by simp [H45.out]
            go_wp2
            go_round
            case rel => exact ⟨i + 1, by go_num, .inr ⟨rfl, rfl⟩⟩
            case measure => first | (simp [intOf]; done) | (simp [intOf]; omega)
          · have m0 : (((a[i]'hlt).toNat : Int) == 45) = false := by
              have h1 := HB4.out i hlt (by omega)
              have : (a[i]'hlt).toNat ≠ 45 := fun e1 => h1 (UInt8.toNat_inj.mp e1)
              simpa using (by omega : ¬ (((a[i]'hlt).toNat : Int) = 45))
            go_wp2
            go_round
            case rel => exact ⟨i + 1, by go_num, .inl ⟨by omega, rfl⟩⟩
            case measure => simp [intOf]; omega
        · have f1 : k ≤ a.size := by omega
          have f2 : ¬ a.size < k := by omega
          have f3 : k + 1 ≤ a.size := by omega
          have f4 : ¬ a.size < k + 1 := by omega
          have f5 : (k : Int) ≤ (a.size : Int) := by omega
          have f6 : (k : Int) + 1 ≤ (a.size : Int) := by omega
          have f7 : IntKind.i64.wrap ((k : Int) + 1) = (k : Int) + 1 := IntWalk.i64_in _ (by omega)
          have f8 : ((k : Int) + 1).toNat = k + 1 := by omega
          have f9 : (0 : Int) ≤ (k : Int) + 1 := by omega
          rcases (by omega : k + 1 < a.size ∨ a.size ≤ k + 1) with hl1 | hl1
          all_goals
            have k1 := fun n => quiet_samen (cN1 (w1.drewN n))
            have k2 := fun n => quiet_samen (cN2 (w1.drewN n))
            go_wp2
            go_quiet ((first | with_reducible exact k1 _ | with_reducible exact k2 _))
            have hm2 := hm1.gr (Gr.drewN w1 nq)
            have hB5 := (hB0.xW (hm2.2) (by omega))
            obtain ⟨r0, r1, r2, r3, r4, q0, q1, q2, q3, q4⟩ := five_cells5 hB5
            go_wp2
            all_goals (try (exfalso; omega))
            obtain ⟨z0, z1, z2, z3, z4, -⟩ := five_cells5 (hB5.put5 (y0 := .int .i64 5) (y1 := .string ⟨#[]⟩) (y2 := .int .i64 n1) (y3 := .int .i64 n2) (y4 := .slice none 0 0))
            exact bodyPost_ret (v := .agg (scC 5 ⟨#[]⟩ n1 n2 none 0 0)) (by simp [results, Tryz.results40, go_sem, z0, z1, z2, z3, z4]) rfl (HF.out (w1.drewN nq) (hm2.after hGA))
    · rw [if_neg hp]
      dsimp only
      have hF : ∀ W, MadeW TS w g s1 W → PW TS w g (scN, failW s1) (.returned (.agg (scC 5 ⟨#[]⟩ n1 n2 none 0 0))) (set5v (W.setCell ⟨g, 1, none⟩ (.bool true)) w.heap.size (.int .i64 5) (.string ⟨#[]⟩) (.int .i64 n1) (.int .i64 n2) (.slice none 0 0)) :=
        fun W hm => PW.fin (x := .mk 5 ⟨#[]⟩ n1 n2 []) hgl (rd_leaf _ _ _ _ _ _) (fun h0 => by cases h0) (hm.tr hm.env.setF)
      have HF := Lib.hid hF
      clear hF
      generalize hPost : PW TS w g (scN, failW s1) = Post at *
      clear hPost
      rcases (by omega : n1 < 0 ∨ (0 ≤ n1 ∧ n2 < n1) ∨ (0 ≤ n1 ∧ n1 ≤ n2 ∧ 1099511627776 < n2)) with p1 | ⟨p1, p2⟩ | ⟨p1, p2, p3⟩
      all_goals
        clear hp
        go_enter Tryz.func40, Tryz.ntmps40
        go_wp2_with (go_at_call 23; (with_reducible refine cT.mono ?_); rintro e w1 ⟨rfl, hm1⟩)
        go_loop [4, 5] (fun v4 v5 => DashTo k v4 v5) (fun _ v5 => k + 2 - (intOf v5).toNat)
        case atStart => exact ⟨0, rfl, .inl ⟨Nat.zero_le _, rfl⟩⟩
        case round =>
          obtain ⟨i, rfl, (⟨hi, rfl⟩ | ⟨rfl, rfl⟩)⟩ := hrel
          · have hlt : i < a.size := by omega
            by_cases hik : i = k
            · subst hik
              have m0 : (((a[i]'hlt).toNat : Int) == 45) = true := by simp [H45.out]
              go_wp2
              go_round
              case rel => exact ⟨i + 1, by go_num, .inr ⟨rfl, rfl⟩⟩
              case measure => first | (simp [intOf]; done) | (simp [intOf]; omega)
            · have m0 : (((a[i]'hlt).toNat : Int) == 45) = false := by
                have h1 := HB4.out i hlt (by omega)
                have : (a[i]'hlt).toNat ≠ 45 := fun e1 => h1 (UInt8.toNat_inj.mp e1)
                simpa using (by omega : ¬ (((a[i]'hlt).toNat : Int) = 45))
              go_wp2
              go_round
              case rel => exact ⟨i + 1, by go_num, .inl ⟨by omega, rfl⟩⟩
              case measure => simp [intOf]; omega
          · have f1 : k ≤ a.size := by omega
            have f2 : ¬ a.size < k := by omega
            have f3 : k + 1 ≤ a.size := by omega
            have f4 : ¬ a.size < k + 1 := by omega
            have f5 : (k : Int) ≤ (a.size : Int) := by omega
            have f6 : (k : Int) + 1 ≤ (a.size : Int) := by omega
            have f7 : IntKind.i64.wrap ((k : Int) + 1) = (k : Int) + 1 := IntWalk.i64_in _ (by omega)
            have f8 : ((k : Int) + 1).toNat = k + 1 := by omega
            have f9 : (0 : Int) ≤ (k : Int) + 1 := by omega
            rcases (by omega : k + 1 < a.size ∨ a.size ≤ k + 1) with hl1 | hl1
            all_goals
              have k1 := fun n => quiet_samen (cN1 (w1.drewN n))
              have k2 := fun n => quiet_samen (cN2 (w1.drewN n))
              go_wp2
              go_quiet ((first | with_reducible exact k1 _ | with_reducible exact k2 _))
              have hm2 := hm1.gr (Gr.drewN w1 nq)
              obtain ⟨LA, lc, g0, g1, gf0, gf1, -, -⟩ := hm2.1.cells
              have hB5 := (hB0.xW (hm2.2) (by omega)).far (p := ⟨g, 1, none⟩) hng (.bool true)
              obtain ⟨r0, r1, r2, r3, r4, q0, q1, q2, q3, q4⟩ := five_cells5 hB5
              go_wp2
              all_goals (try (exfalso; omega))
              obtain ⟨z0, z1, z2, z3, z4, -⟩ := five_cells5 (hB5.put5 (y0 := .int .i64 5) (y1 := .string ⟨#[]⟩) (y2 := .int .i64 n1) (y3 := .int .i64 n2) (y4 := .slice none 0 0))
              exact bodyPost_ret (v := .agg (scC 5 ⟨#[]⟩ n1 n2 none 0 0)) (by simp [results, Tryz.results40, go_sem, z0, z1, z2, z3, z4]) rfl (HF.out (w1.drewN nq) (hm2.after hGA))
end
end Go.Proofs.YtppnlijeonneeaaGreatDoor

namespace Go.Proofs.YtppnlijeonneeaaGreatDoor
open Go Go.RowKit Go.Sort

def IHR (d : Nat) : Prop := ∀ (g : Nat) (W : World) (s : Wst), EnvW TS W g s → Calls Tryz.prog 21 #[.pointer (some ⟨g, 0, none⟩), .int .i64 (d : Int)] W (PW TS W g (factW d s))
set_option maxRecDepth 100000 in
set_option maxHeartbeats 2000000 in
theorem sfact_00 {g : Nat} {w : World} {s : Wst} (h : EnvW TS w g s) : Calls Tryz.prog 21 #[.pointer (some ⟨g, 0, none⟩), .int .i64 0] w (PW TS w g (scN, failW s)) := by
  have hgl := h.lt
  obtain ⟨LA, lc, g0, g1, gf0, gf1, -, -⟩ := h.cells
  have hs : (w.setCell ⟨g, 1, none⟩ (.bool true)).heap.size = w.heap.size := by simp [World.setCell]
  have hB5 := Blk.new (w.setCell ⟨g, 1, none⟩ (.bool true)) 25 scZ
  rw [hs] at hB5
  have hF : PW TS w g (scN, failW s) (.returned (.agg scZ)) ((w.setCell ⟨g, 1, none⟩ (.bool true)).alloc (.cells scZ 25)) :=
    ⟨_, _, _, _, _, _, _, scN, rfl, rd_leaf _ _ _ _ _ _, fun _ => rfl, h.setF.gr (Gr.alloc _ _)⟩
  clear h
  generalize hPost : PW TS w g (scN, failW s) = Post at *
  clear hPost
  go_enter Tryz.func21, Tryz.ntmps21
  go_wp2
  obtain ⟨z0, z1, z2, z3, z4, -⟩ := five_cells5 hB5
  exact bodyPost_ret (v := .agg scZ) (by simp [results, Tryz.results21, go_sem, z0, z1, z2, z3, z4]) rfl hF
theorem sfact_0 : IHR 0 := fun _ _ _ h => sfact_00 h
set_option maxRecDepth 100000 in
set_option maxHeartbeats 8000000 in
theorem sfact_s (d : Nat) (hd : d ≤ 41) (ih : IHR d) : IHR (d + 1) := by
  intro g w s h
  have hgl := h.lt
  have hng : w.heap.size ≠ g := by omega
  have hGA := Gr.alloc w (.cells scZ 25)
  have hA := h.gr hGA
  have hB0 := Blk.new w 25 scZ
  have hs1 : (w.alloc (.cells scZ 25)).heap.size = w.heap.size + 1 := by simp
  have cT := stakeW_any hA
  have hD0 : ¬ (((d + 1 : Nat) : Int) < 1) := by omega
  have hD1 : ((d + 1 : Nat) : Int) - 1 = (d : Int) := by omega
  have hD2 : (1 : Int) ≤ ((d + 1 : Nat) : Int) := by omega
  have hD3 : ((d + 1 : Nat) : Int) ≤ 42 := by omega
  have hD4 : (d : Int) ≤ 41 := by omega
  have hD5 : 0 ≤ (d : Int) := by omega
  generalize ((d + 1 : Nat) : Int) = D at *
  have n0 := factW_not (d := d) (s := s)
  have o0 := factW_open (d := d) (s := s)
  have a0 := factW_all (d := d) (s := s)
  have t0 := factW_time (d := d) (s := s)
  have e0 := factW_else (d := d) (s := s)
  generalize factW (d + 1) s = R at *
  generalize takeW s = o2 at *
  obtain ⟨a, s1⟩ := o2
  dsimp only at *
  rcases ways4 a with rfl | rfl | rfl | rfl | ⟨h1, h2, h3, h4⟩
  · have hR := n0 rfl
    clear n0 o0 a0 t0 e0
    have cF : ∀ W, EnvW TS W g s1 → Calls Tryz.prog 21 #[.pointer (some ⟨g, 0, none⟩), .int .i64 (d : Int)] W (PW TS W g (factW d s1)) := fun W hW => ih g W s1 hW
    have hF : ∀ (W : World) (A : Option Addr) (n c : Nat) (x : Sc), RdSc W (fun b => w.heap.size + 1 ≤ b ∧ b < W.heap.size) (.mk 8 ⟨#[]⟩ 0 0 [x]) (.agg (scC 8 ⟨#[]⟩ 0 0 A n c)) → ((factW d s1).2.fail = false → x = (factW d s1).1) → MadeW TS w g (factW d s1).2 W →
        PW TS w g R (.returned (.agg (scC 8 ⟨#[]⟩ 0 0 A n c))) (set5v W w.heap.size (.int .i64 8) (.string ⟨#[]⟩) (.int .i64 0) (.int .i64 0) (.slice A n c)) := by
      intro W A n c x hr he hm
      rw [hR]
      exact PW.fin hgl hr (fun h0 => by rw [he h0]) hm
    have HF := Lib.hid hF
    clear hF hR h hA ih
    unfold PW at cF
    generalize hPost : PW TS w g R = Post at *
    clear hPost
    generalize factW d s1 = r2 at *
    obtain ⟨x2, s2⟩ := r2
    dsimp only at *
    generalize (d : Int) = E at *
    go_enter Tryz.func21, Tryz.ntmps21
    go_wp2_with (first
      | (go_at_call 23; (with_reducible refine cT.mono ?_); rintro e w1 ⟨rfl, hm1⟩)
      | (go_at_call 21; (with_reducible refine (cF _ hm1.1).mono ?_); rintro e w2 ⟨o_, m_, f_, t_, A_, n_, c_, x, rfl, hr2, he2, hm2⟩
         have hm3 := hm1.tr hm2
         have hGn := Gr.alloc w2 (.cells (scC o_ m_ f_ t_ A_ n_ c_) 25)
         have hm4 := hm3.gr hGn
         have hB5 := hB0.xW hm4.2 (by omega)
         obtain ⟨r0, r1, r2, r3, r4, q0, q1, q2, q3, q4⟩ := five_cells5 hB5))
    obtain ⟨z0, z1, z2, z3, z4, -⟩ := five_cells5 (hB5.put5 (y0 := .int .i64 8) (y1 := .string ⟨#[]⟩) (y2 := .int .i64 0) (y3 := .int .i64 0) (y4 := .slice (some ⟨w2.heap.size, 0, none⟩) 1 1))
    have hw1 : w.heap.size + 1 ≤ w1.heap.size := by have := hm1.2.size; omega
    have hw2 : w.heap.size + 1 ≤ w2.heap.size := by have := hm2.2.size; omega
    have hX := ScOwn.one (base := w.heap.size + 1) (Blk.new w2 25 (scC o_ m_ f_ t_ A_ n_ c_)) hw2 (RdSc.mono (fun b hb => ⟨by omega, Nat.lt_of_lt_of_le hb.2 hGn.size, by omega⟩) _ _ (RdSc.keep (fun p hp => hGn.cell hp.2) _ _ hr2))
    obtain ⟨A9, c9, e9, hN⟩ := hX.node 8
    exact bodyPost_ret (v := .agg (scC 8 ⟨#[]⟩ 0 0 (some ⟨w2.heap.size, 0, none⟩) 1 1)) (by simp [results, Tryz.results21, go_sem, z0, z1, z2, z3, z4]) rfl (HF.out _ _ _ _ x hN he2 (hm4.after hGA))
  · have hR := o0 rfl
    clear n0 o0 a0 t0 e0
    obtain ⟨n1, n2⟩ := str_neqW (show bOpen ≠ bNot by decide)
    have cW : ∀ W, EnvW TS W g s1 → Calls Tryz.prog 14 #[.pointer (some ⟨g, 0, none⟩), .int .i64 7, .int .i64 (d : Int)] W (PW TS W g (wholeW d s1)) := fun W hW => ssevW_or (d : Int) (termW d) (term_goes d) (fun W s hW => ssevW_and (d : Int) (factW d) (fact_goes d) (fun W s hW => ih g W s hW) hW) hW
    have cT2 : ∀ W, EnvW TS W g (wholeW d s1).2 → Calls Tryz.prog 23 #[.pointer (some ⟨g, 0, none⟩)] W fun e w' => e = .returned (.string (takeW (wholeW d s1).2).1) ∧ MadeW TS W g (takeW (wholeW d s1).2).2 w' := fun W hW => stakeW_any hW
    have hgo := takeW_goes (wholeW d s1).2
    unfold PW at cW
    clear h hA ih
    generalize wholeW d s1 = r2 at *
    obtain ⟨x2, s2⟩ := r2
    dsimp only at *
    generalize takeW s2 = o3 at *
    obtain ⟨b, s3⟩ := o3
    dsimp only at *
    by_cases hb : b = bShut
    · subst hb
      rw [if_pos rfl] at hR
      have hF : ∀ (W : World) (o_ : Int) (m_ : ByteArray) (f_ t_ : Int) (A_ : Option Addr) (n_ c_ : Nat) (x : Sc), RdSc W (fun b => w.heap.size + 1 ≤ b ∧ b < W.heap.size) x (.agg (scC o_ m_ f_ t_ A_ n_ c_)) → (s2.fail = false → x = x2) → MadeW TS w g s3 W →
          PW TS w g R (.returned (.agg (scC o_ m_ f_ t_ A_ n_ c_))) (set5v W w.heap.size (.int .i64 o_) (.string m_) (.int .i64 f_) (.int .i64 t_) (.slice A_ n_ c_)) := by
        intro W o_ m_ f_ t_ A_ n_ c_ x hr he hm
        rw [hR]
        exact PW.fin hgl hr (fun h0 => he (hgo.ok h0)) hm
      have HF := Lib.hid hF
      clear hF hR hgo
      generalize hPost : PW TS w g R = Post at *
      clear hPost
      generalize (d : Int) = E at *
      go_enter Tryz.func21, Tryz.ntmps21
      go_wp2_with (first
        | (go_at_call 23; (with_reducible refine cT.mono ?_); rintro e w1 ⟨rfl, hm1⟩)
        | (go_at_call 14; (with_reducible refine (cW _ hm1.1).mono ?_); rintro e w2 ⟨o_, m_, f_, t_, A_, n_, c_, x, rfl, hr2, he2, hm2⟩
           have hm3 := hm1.tr hm2
           have hGn := Gr.alloc w2 (.cells (scC o_ m_ f_ t_ A_ n_ c_) 25)
           have hm4 := hm3.gr hGn
           have hBx := Blk.new w2 25 (scC o_ m_ f_ t_ A_ n_ c_))
        | (go_at_call 23; (with_reducible refine (cT2 _ hm4.1).mono ?_); rintro e w5 ⟨rfl, hm5⟩
           have hm6 := hm4.tr hm5
           have hw2 : g < w2.heap.size := hm3.1.lt
           obtain ⟨k0, k1, k2, k3, k4, -⟩ := five_cells5 (hBx.xW hm5.2 (by omega))
           have hB5 := hB0.xW hm6.2 (by omega)
           obtain ⟨r0, r1, r2, r3, r4, q0, q1, q2, q3, q4⟩ := five_cells5 hB5))
      obtain ⟨z0, z1, z2, z3, z4, -⟩ := five_cells5 (hB5.put5 (y0 := .int .i64 o_) (y1 := .string m_) (y2 := .int .i64 f_) (y3 := .int .i64 t_) (y4 := .slice A_ n_ c_))
      have hw1 : w.heap.size + 1 ≤ w1.heap.size := by have := hm1.2.size; omega
      have hgw1 : g < w1.heap.size := hm1.1.lt
      have hr3 : RdSc w5 (fun b => w.heap.size + 1 ≤ b ∧ b < w5.heap.size) x (.agg (scC o_ m_ f_ t_ A_ n_ c_)) := RdSc.mono (fun b hb => ⟨by omega, by have h1 := hGn.size; have h2 := hm5.2.size; have := hb.2; omega⟩) _ _ (RdSc.keep (fun p hp => (grx_cell hm5.2 (by have h1 := hGn.size; have := hp.2; omega) (by have := hp.1; omega)).trans (hGn.cell hp.2)) _ _ hr2)
      exact bodyPost_ret (v := .agg (scC o_ m_ f_ t_ A_ n_ c_)) (by simp [results, Tryz.results21, go_sem, z0, z1, z2, z3, z4]) rfl (HF.out w5 o_ m_ f_ t_ A_ n_ c_ x hr3 he2 (hm6.after hGA))
    · rw [if_neg hb] at hR
      have hF : ∀ (W : World) (o_ : Int) (m_ : ByteArray) (f_ t_ : Int) (A_ : Option Addr) (n_ c_ : Nat) (x : Sc), RdSc W (fun b => w.heap.size + 1 ≤ b ∧ b < W.heap.size) x (.agg (scC o_ m_ f_ t_ A_ n_ c_)) → MadeW TS w g (failW s3) W →
          PW TS w g R (.returned (.agg (scC o_ m_ f_ t_ A_ n_ c_))) (set5v W w.heap.size (.int .i64 o_) (.string m_) (.int .i64 f_) (.int .i64 t_) (.slice A_ n_ c_)) := by
        intro W o_ m_ f_ t_ A_ n_ c_ x hr hm
        rw [hR]
        exact PW.fin hgl hr (fun h0 => by cases h0) hm
      have HF := Lib.hid hF
      obtain ⟨b1, b2⟩ := str_neqW hb
      obtain ⟨b3, b4⟩ := str_nlW (s := b) (l := [41]) hb
      clear hF hR hgo hb
      generalize hPost : PW TS w g R = Post at *
      clear hPost
      generalize (d : Int) = E at *
      go_enter Tryz.func21, Tryz.ntmps21
      go_wp2_with (first
        | (go_at_call 23; (with_reducible refine cT.mono ?_); rintro e w1 ⟨rfl, hm1⟩)
        | (go_at_call 14; (with_reducible refine (cW _ hm1.1).mono ?_); rintro e w2 ⟨o_, m_, f_, t_, A_, n_, c_, x, rfl, hr2, he2, hm2⟩
           have hm3 := hm1.tr hm2
           have hGn := Gr.alloc w2 (.cells (scC o_ m_ f_ t_ A_ n_ c_) 25)
           have hm4 := hm3.gr hGn
           have hBx := Blk.new w2 25 (scC o_ m_ f_ t_ A_ n_ c_))
        | (go_at_call 23; (with_reducible refine (cT2 _ hm4.1).mono ?_); rintro e w5 ⟨rfl, hm5⟩
           have hm6 := hm4.tr hm5
           have hw2 : g < w2.heap.size := hm3.1.lt
           have hw2n : w2.heap.size ≠ g := by omega
           obtain ⟨LA, lc, g0, g1, gf0, gf1, -, -⟩ := hm6.1.cells
           obtain ⟨k0, k1, k2, k3, k4, -⟩ := five_cells5 ((hBx.xW hm5.2 (by omega)).far (p := ⟨g, 1, none⟩) hw2n (.bool true))
           have hB5 := (hB0.xW hm6.2 (by omega)).far (p := ⟨g, 1, none⟩) hng (.bool true)
           obtain ⟨r0, r1, r2, r3, r4, q0, q1, q2, q3, q4⟩ := five_cells5 hB5))
      obtain ⟨z0, z1, z2, z3, z4, -⟩ := five_cells5 (hB5.put5 (y0 := .int .i64 o_) (y1 := .string m_) (y2 := .int .i64 f_) (y3 := .int .i64 t_) (y4 := .slice A_ n_ c_))
      have hw1 : w.heap.size + 1 ≤ w1.heap.size := by have := hm1.2.size; omega
      have hgw1 : g < w1.heap.size := hm1.1.lt
      have hm7 := hm6.tr hm6.1.setF
      have hxx : GrX (w2.alloc (.cells (scC o_ m_ f_ t_ A_ n_ c_) 25)) (w5.setCell ⟨g, 1, none⟩ (.bool true)) g := GrX.tr hm5.2 (GrX.set_ (World.grownBy.refl _ _) 1 _)
      have hr3 : RdSc (w5.setCell ⟨g, 1, none⟩ (.bool true)) (fun b => w.heap.size + 1 ≤ b ∧ b < (w5.setCell ⟨g, 1, none⟩ (.bool true)).heap.size) x (.agg (scC o_ m_ f_ t_ A_ n_ c_)) := RdSc.mono (fun b hb => ⟨by omega, by have h1 := hGn.size; have h2 := hxx.size; have := hb.2; omega⟩) _ _ (RdSc.keep (fun p hp => (grx_cell hxx (by have h1 := hGn.size; have := hp.2; omega) (by have := hp.1; omega)).trans (hGn.cell hp.2)) _ _ hr2)
      exact bodyPost_ret (v := .agg (scC o_ m_ f_ t_ A_ n_ c_)) (by simp [results, Tryz.results21, go_sem, z0, z1, z2, z3, z4]) rfl (HF.out _ o_ m_ f_ t_ A_ n_ c_ x hr3 (hm7.after hGA))
  · have hR := a0 rfl
    clear n0 o0 a0 t0 e0
    have hF : ∀ (W : World), MadeW TS w g s1 W → PW TS w g R (.returned (.agg (scC 1 ⟨#[]⟩ 0 0 none 0 0))) (set5v W w.heap.size (.int .i64 1) (.string ⟨#[]⟩) (.int .i64 0) (.int .i64 0) (.slice none 0 0)) := by
      intro W hm
      rw [hR]
      exact PW.fin hgl (rd_leaf _ _ _ _ _ _) (fun _ => rfl) hm
    have HF := Lib.hid hF
    clear hF hR h hA ih
    generalize hPost : PW TS w g R = Post at *
    clear hPost
    go_enter Tryz.func21, Tryz.ntmps21
    go_wp2_with (first
      | (go_at_call 23; (with_reducible refine cT.mono ?_); rintro e w1 ⟨rfl, hm1⟩
         have hB5 := hB0.xW hm1.2 (by omega)
         obtain ⟨r0, r1, r2, r3, r4, q0, q1, q2, q3, q4⟩ := five_cells5 hB5))
    obtain ⟨z0, z1, z2, z3, z4, -⟩ := five_cells5 (hB5.put5 (y0 := .int .i64 1) (y1 := .string ⟨#[]⟩) (y2 := .int .i64 0) (y3 := .int .i64 0) (y4 := .slice none 0 0))
    exact bodyPost_ret (v := .agg (scC 1 ⟨#[]⟩ 0 0 none 0 0)) (by simp [results, Tryz.results21, go_sem, z0, z1, z2, z3, z4]) rfl (HF.out w1 (hm1.after hGA))
  · have hR := t0 rfl
    clear n0 o0 a0 t0 e0
    have cM : ∀ W, EnvW TS W g s1 → Calls Tryz.prog 40 #[.pointer (some ⟨g, 0, none⟩)] W (PW TS W g (timeW s1)) := fun W hW => stime_any hW
    rw [← hR] at cM
    have hF := fun (W : World) (o_ : Int) (m_ : ByteArray) (f_ t_ : Int) (A_ : Option Addr) (n_ c_ : Nat) (x : Sc) hr he hm => @PW.fin w g TS W R o_ m_ f_ t_ A_ n_ c_ x hgl hr he hm
    have HF := Lib.hid hF
    unfold PW at cM
    clear hF hR h hA ih
    generalize hPost : PW TS w g R = Post at *
    clear hPost
    go_enter Tryz.func21, Tryz.ntmps21
    go_wp2_with (first
      | (go_at_call 23; (with_reducible refine cT.mono ?_); rintro e w1 ⟨rfl, hm1⟩)
      | (go_at_call 40; (with_reducible refine (cM _ hm1.1).mono ?_); rintro e w2 ⟨o_, m_, f_, t_, A_, n_, c_, x, rfl, hr2, he2, hm2⟩
         have hm3 := hm1.tr hm2
         have hB5 := hB0.xW hm3.2 (by omega)
         obtain ⟨r0, r1, r2, r3, r4, q0, q1, q2, q3, q4⟩ := five_cells5 hB5))
    obtain ⟨z0, z1, z2, z3, z4, -⟩ := five_cells5 (hB5.put5 (y0 := .int .i64 o_) (y1 := .string m_) (y2 := .int .i64 f_) (y3 := .int .i64 t_) (y4 := .slice A_ n_ c_))
    have hw1 : w.heap.size + 1 ≤ w1.heap.size := by have := hm1.2.size; omega
    exact bodyPost_ret (v := .agg (scC o_ m_ f_ t_ A_ n_ c_)) (by simp [results, Tryz.results21, go_sem, z0, z1, z2, z3, z4]) rfl (HF.out w2 o_ m_ f_ t_ A_ n_ c_ x (RdSc.mono (fun b hb => ⟨by omega, hb.2⟩) _ _ hr2) he2 (hm3.after hGA))
  · have hR := e0 h1 h2 h3 h4
    clear n0 o0 a0 t0 e0
    have htw : namedW a s1 = if opW_ a ≠ 0 ∧ nameD (takeW s1).1 = true then (.mk (opW_ a) (takeW s1).1 0 0 [], (takeW s1).2) else (scN, failW (takeW s1).2) := rfl
    rw [htw] at hR
    have cT2 : ∀ W, EnvW TS W g s1 → Calls Tryz.prog 23 #[.pointer (some ⟨g, 0, none⟩)] W fun e w' => e = .returned (.string (takeW s1).1) ∧ MadeW TS W g (takeW s1).2 w' := fun W hW => stakeW_any hW
    have hsz : ∀ W, EnvW TS W g s1 → (takeW s1).1.size ≤ 2000 := fun W hW => takeW_small hW.small
    clear htw h hA ih
    generalize takeW s1 = o3 at *
    obtain ⟨t, s2⟩ := o3
    dsimp only at *
    have cN := fun W (hs : t.size ≤ 2000) => refname_any t W (by omega)
    have hF : ∀ o W, R = (scN, failW s2) → MadeW TS w g s2 W → PW TS w g R (.returned (.agg (scC o t 0 0 none 0 0))) (set5v (W.setCell ⟨g, 1, none⟩ (.bool true)) w.heap.size (.int .i64 o) (.string t) (.int .i64 0) (.int .i64 0) (.slice none 0 0)) :=
      fun o W hr hm => by
        rw [hr]
        exact PW.fin (x := .mk o t 0 0 []) hgl (rd_leaf _ _ _ _ _ _) (fun h0 => by cases h0) (hm.tr hm.env.setF)
    have hY : ∀ o W, R = (.mk o t 0 0 [], s2) → MadeW TS w g s2 W → PW TS w g R (.returned (.agg (scC o t 0 0 none 0 0))) (set5v W w.heap.size (.int .i64 o) (.string t) (.int .i64 0) (.int .i64 0) (.slice none 0 0)) :=
      fun o W hr hm => by
        rw [hr]
        exact PW.fin (x := .mk o t 0 0 []) hgl (rd_leaf _ _ _ _ _ _) (fun _ => rfl) hm
    have HF := Lib.hid hF
    have HY := Lib.hid hY
    clear hF hY
    generalize hPost : PW TS w g R = Post at *
    clear hPost
    cases hn : nameD t with
    | false =>
      rw [hn, if_neg (by simp)] at hR
      rw [hn] at cN
      have HR := Lib.hid hR
      clear hR hn
      rcases waysC a with rfl | ⟨h6, rfl⟩ | ⟨h6, h7, rfl⟩ | ⟨h6, h7, h8⟩
      · clear h1 h2 h3 h4
        go_enter Tryz.func21, Tryz.ntmps21
        go_wp2_with (first
        | (go_at_call 23; (with_reducible refine cT.mono ?_); rintro e w1 ⟨rfl, hm1⟩
           have hts := hsz _ hm1.1)
        | (go_at_call 23; (with_reducible refine (cT2 _ hm1.1).mono ?_); rintro e w2 ⟨rfl, hm2⟩
           have hm3 := hm1.tr hm2
           obtain ⟨LA, lc, g0, g1, gf0, gf1, -, -⟩ := hm3.1.cells
           have hB5 := (hB0.xW hm3.2 (by omega)).far (p := ⟨g, 1, none⟩) hng (.bool true)
           obtain ⟨r0, r1, r2, r3, r4, q0, q1, q2, q3, q4⟩ := five_cells5 hB5)
        | (go_at_call 41; (with_reducible refine (cN _ hts).mono ?_); rintro e w3 ⟨rfl, rfl⟩))
        obtain ⟨z0, z1, z2, z3, z4, -⟩ := five_cells5 (hB5.put5 (y0 := .int .i64 2) (y1 := .string t) (y2 := .int .i64 0) (y3 := .int .i64 0) (y4 := .slice none 0 0))
        exact bodyPost_ret (v := .agg (scC 2 t 0 0 none 0 0)) (by simp [results, Tryz.results21, go_sem, z0, z1, z2, z3, z4]) rfl (HF.out 2 _ HR.out (hm3.after hGA))
      · clear h1 h2 h3 h4 h6
        go_enter Tryz.func21, Tryz.ntmps21
        go_wp2_with (first
        | (go_at_call 23; (with_reducible refine cT.mono ?_); rintro e w1 ⟨rfl, hm1⟩
           have hts := hsz _ hm1.1)
        | (go_at_call 23; (with_reducible refine (cT2 _ hm1.1).mono ?_); rintro e w2 ⟨rfl, hm2⟩
           have hm3 := hm1.tr hm2
           obtain ⟨LA, lc, g0, g1, gf0, gf1, -, -⟩ := hm3.1.cells
           have hB5 := (hB0.xW hm3.2 (by omega)).far (p := ⟨g, 1, none⟩) hng (.bool true)
           obtain ⟨r0, r1, r2, r3, r4, q0, q1, q2, q3, q4⟩ := five_cells5 hB5)
        | (go_at_call 41; (with_reducible refine (cN _ hts).mono ?_); rintro e w3 ⟨rfl, rfl⟩))
        obtain ⟨z0, z1, z2, z3, z4, -⟩ := five_cells5 (hB5.put5 (y0 := .int .i64 3) (y1 := .string t) (y2 := .int .i64 0) (y3 := .int .i64 0) (y4 := .slice none 0 0))
        exact bodyPost_ret (v := .agg (scC 3 t 0 0 none 0 0)) (by simp [results, Tryz.results21, go_sem, z0, z1, z2, z3, z4]) rfl (HF.out 3 _ HR.out (hm3.after hGA))
      · clear h1 h2 h3 h4 h6 h7
        go_enter Tryz.func21, Tryz.ntmps21
        go_wp2_with (first
        | (go_at_call 23; (with_reducible refine cT.mono ?_); rintro e w1 ⟨rfl, hm1⟩
           have hts := hsz _ hm1.1)
        | (go_at_call 23; (with_reducible refine (cT2 _ hm1.1).mono ?_); rintro e w2 ⟨rfl, hm2⟩
           have hm3 := hm1.tr hm2
           obtain ⟨LA, lc, g0, g1, gf0, gf1, -, -⟩ := hm3.1.cells
           have hB5 := (hB0.xW hm3.2 (by omega)).far (p := ⟨g, 1, none⟩) hng (.bool true)
           obtain ⟨r0, r1, r2, r3, r4, q0, q1, q2, q3, q4⟩ := five_cells5 hB5)
        | (go_at_call 41; (with_reducible refine (cN _ hts).mono ?_); rintro e w3 ⟨rfl, rfl⟩))
        obtain ⟨z0, z1, z2, z3, z4, -⟩ := five_cells5 (hB5.put5 (y0 := .int .i64 4) (y1 := .string t) (y2 := .int .i64 0) (y3 := .int .i64 0) (y4 := .slice none 0 0))
        exact bodyPost_ret (v := .agg (scC 4 t 0 0 none 0 0)) (by simp [results, Tryz.results21, go_sem, z0, z1, z2, z3, z4]) rfl (HF.out 4 _ HR.out (hm3.after hGA))
      · obtain ⟨u1, v1⟩ := str_nlW (s := a) (l := [110, 111, 116]) h1
        obtain ⟨u2, v2⟩ := str_nlW (s := a) (l := [40]) h2
        obtain ⟨u3, v3⟩ := str_nlW (s := a) (l := [97, 108, 108]) h3
        obtain ⟨u4, v4⟩ := str_nlW (s := a) (l := [116, 105, 109, 101]) h4
        obtain ⟨u6, v6⟩ := str_nlW (s := a) (l := [99, 97, 115, 101]) h6
        obtain ⟨u7, v7⟩ := str_nlW (s := a) (l := [115, 117, 98, 106, 101, 99, 116]) h7
        obtain ⟨u8, v8⟩ := str_nlW (s := a) (l := [99, 108, 97, 115, 115]) h8
        clear h1 h2 h3 h4 h6 h7 h8
        go_enter Tryz.func21, Tryz.ntmps21
        go_wp2_with (first
        | (go_at_call 23; (with_reducible refine cT.mono ?_); rintro e w1 ⟨rfl, hm1⟩
           have hts := hsz _ hm1.1)
        | (go_at_call 23; (with_reducible refine (cT2 _ hm1.1).mono ?_); rintro e w2 ⟨rfl, hm2⟩
           have hm3 := hm1.tr hm2
           obtain ⟨LA, lc, g0, g1, gf0, gf1, -, -⟩ := hm3.1.cells
           have hB5 := (hB0.xW hm3.2 (by omega)).far (p := ⟨g, 1, none⟩) hng (.bool true)
           obtain ⟨r0, r1, r2, r3, r4, q0, q1, q2, q3, q4⟩ := five_cells5 hB5)
        | (go_at_call 41; (with_reducible refine (cN _ hts).mono ?_); rintro e w3 ⟨rfl, rfl⟩))
        obtain ⟨z0, z1, z2, z3, z4, -⟩ := five_cells5 (hB5.put5 (y0 := .int .i64 0) (y1 := .string t) (y2 := .int .i64 0) (y3 := .int .i64 0) (y4 := .slice none 0 0))
        exact bodyPost_ret (v := .agg (scC 0 t 0 0 none 0 0)) (by simp [results, Tryz.results21, go_sem, z0, z1, z2, z3, z4]) rfl (HF.out 0 _ HR.out (hm3.after hGA))
    | true =>
      rw [hn] at cN hR
      clear hn
      rcases waysC a with rfl | ⟨h6, rfl⟩ | ⟨h6, h7, rfl⟩ | ⟨h6, h7, h8⟩
      · rw [show opW_ bCase = 2 from rfl, if_pos ⟨by decide, rfl⟩] at hR
        have HR := Lib.hid hR
        clear hR
        clear h1 h2 h3 h4
        go_enter Tryz.func21, Tryz.ntmps21
        go_wp2_with (first
        | (go_at_call 23; (with_reducible refine cT.mono ?_); rintro e w1 ⟨rfl, hm1⟩
           have hts := hsz _ hm1.1)
        | (go_at_call 23; (with_reducible refine (cT2 _ hm1.1).mono ?_); rintro e w2 ⟨rfl, hm2⟩
           have hm3 := hm1.tr hm2
           have hB5 := hB0.xW hm3.2 (by omega)
           obtain ⟨r0, r1, r2, r3, r4, q0, q1, q2, q3, q4⟩ := five_cells5 hB5)
        | (go_at_call 41; (with_reducible refine (cN _ hts).mono ?_); rintro e w3 ⟨rfl, rfl⟩))
        obtain ⟨z0, z1, z2, z3, z4, -⟩ := five_cells5 (hB5.put5 (y0 := .int .i64 2) (y1 := .string t) (y2 := .int .i64 0) (y3 := .int .i64 0) (y4 := .slice none 0 0))
        exact bodyPost_ret (v := .agg (scC 2 t 0 0 none 0 0)) (by simp [results, Tryz.results21, go_sem, z0, z1, z2, z3, z4]) rfl (HY.out 2 _ HR.out (hm3.after hGA))
      · rw [show opW_ bSub = 3 from rfl, if_pos ⟨by decide, rfl⟩] at hR
        have HR := Lib.hid hR
        clear hR
        clear h1 h2 h3 h4 h6
        go_enter Tryz.func21, Tryz.ntmps21
        go_wp2_with (first
        | (go_at_call 23; (with_reducible refine cT.mono ?_); rintro e w1 ⟨rfl, hm1⟩
           have hts := hsz _ hm1.1)
        | (go_at_call 23; (with_reducible refine (cT2 _ hm1.1).mono ?_); rintro e w2 ⟨rfl, hm2⟩
           have hm3 := hm1.tr hm2
           have hB5 := hB0.xW hm3.2 (by omega)
           obtain ⟨r0, r1, r2, r3, r4, q0, q1, q2, q3, q4⟩ := five_cells5 hB5)
        | (go_at_call 41; (with_reducible refine (cN _ hts).mono ?_); rintro e w3 ⟨rfl, rfl⟩))
        obtain ⟨z0, z1, z2, z3, z4, -⟩ := five_cells5 (hB5.put5 (y0 := .int .i64 3) (y1 := .string t) (y2 := .int .i64 0) (y3 := .int .i64 0) (y4 := .slice none 0 0))
        exact bodyPost_ret (v := .agg (scC 3 t 0 0 none 0 0)) (by simp [results, Tryz.results21, go_sem, z0, z1, z2, z3, z4]) rfl (HY.out 3 _ HR.out (hm3.after hGA))
      · rw [show opW_ bClass = 4 from rfl, if_pos ⟨by decide, rfl⟩] at hR
        have HR := Lib.hid hR
        clear hR
        clear h1 h2 h3 h4 h6 h7
        go_enter Tryz.func21, Tryz.ntmps21
        go_wp2_with (first
        | (go_at_call 23; (with_reducible refine cT.mono ?_); rintro e w1 ⟨rfl, hm1⟩
           have hts := hsz _ hm1.1)
        | (go_at_call 23; (with_reducible refine (cT2 _ hm1.1).mono ?_); rintro e w2 ⟨rfl, hm2⟩
           have hm3 := hm1.tr hm2
           have hB5 := hB0.xW hm3.2 (by omega)
           obtain ⟨r0, r1, r2, r3, r4, q0, q1, q2, q3, q4⟩ := five_cells5 hB5)
        | (go_at_call 41; (with_reducible refine (cN _ hts).mono ?_); rintro e w3 ⟨rfl, rfl⟩))
        obtain ⟨z0, z1, z2, z3, z4, -⟩ := five_cells5 (hB5.put5 (y0 := .int .i64 4) (y1 := .string t) (y2 := .int .i64 0) (y3 := .int .i64 0) (y4 := .slice none 0 0))
        exact bodyPost_ret (v := .agg (scC 4 t 0 0 none 0 0)) (by simp [results, Tryz.results21, go_sem, z0, z1, z2, z3, z4]) rfl (HY.out 4 _ HR.out (hm3.after hGA))
      · rw [show opW_ a = 0 by unfold opW_; rw [if_neg h6, if_neg h7, if_neg h8], if_neg (by simp)] at hR
        have HR := Lib.hid hR
        clear hR
        obtain ⟨u1, v1⟩ := str_nlW (s := a) (l := [110, 111, 116]) h1
        obtain ⟨u2, v2⟩ := str_nlW (s := a) (l := [40]) h2
        obtain ⟨u3, v3⟩ := str_nlW (s := a) (l := [97, 108, 108]) h3
        obtain ⟨u4, v4⟩ := str_nlW (s := a) (l := [116, 105, 109, 101]) h4
        obtain ⟨u6, v6⟩ := str_nlW (s := a) (l := [99, 97, 115, 101]) h6
        obtain ⟨u7, v7⟩ := str_nlW (s := a) (l := [115, 117, 98, 106, 101, 99, 116]) h7
        obtain ⟨u8, v8⟩ := str_nlW (s := a) (l := [99, 108, 97, 115, 115]) h8
        clear h1 h2 h3 h4 h6 h7 h8
        go_enter Tryz.func21, Tryz.ntmps21
        go_wp2_with (first
        | (go_at_call 23; (with_reducible refine cT.mono ?_); rintro e w1 ⟨rfl, hm1⟩
           have hts := hsz _ hm1.1)
        | (go_at_call 23; (with_reducible refine (cT2 _ hm1.1).mono ?_); rintro e w2 ⟨rfl, hm2⟩
           have hm3 := hm1.tr hm2
           obtain ⟨LA, lc, g0, g1, gf0, gf1, -, -⟩ := hm3.1.cells
           have hB5 := (hB0.xW hm3.2 (by omega)).far (p := ⟨g, 1, none⟩) hng (.bool true)
           obtain ⟨r0, r1, r2, r3, r4, q0, q1, q2, q3, q4⟩ := five_cells5 hB5)
        | (go_at_call 41; (with_reducible refine (cN _ hts).mono ?_); rintro e w3 ⟨rfl, rfl⟩))
        obtain ⟨z0, z1, z2, z3, z4, -⟩ := five_cells5 (hB5.put5 (y0 := .int .i64 0) (y1 := .string t) (y2 := .int .i64 0) (y3 := .int .i64 0) (y4 := .slice none 0 0))
        exact bodyPost_ret (v := .agg (scC 0 t 0 0 none 0 0)) (by simp [results, Tryz.results21, go_sem, z0, z1, z2, z3, z4]) rfl (HF.out 0 _ HR.out (hm3.after hGA))
theorem sfact_any : ∀ d : Nat, d ≤ 42 → IHR d
  | 0, _ => sfact_0
  | d + 1, h => sfact_s d (by omega) (sfact_any d (by omega))
theorem swhole_41 {w : World} {g : Nat} {s : Wst} (h : EnvW TS w g s) : Calls Tryz.prog 14 #[.pointer (some ⟨g, 0, none⟩), .int .i64 7, .int .i64 41] w (PW TS w g (wholeW 41 s)) :=
  ssevW_or 41 (termW 41) (term_goes 41) (fun W s hW => ssevW_and 41 (factW 41) (fact_goes 41) (fun W s hW => sfact_any 41 (by omega) g W s hW) hW) h
end Go.Proofs.YtppnlijeonneeaaGreatDoor

namespace Go.Proofs.YtppnlijeonneeaaGreatDoor
open Go Go.RowKit Go.Sort

/-- Where the search for blanks stands: words so far, where the next begins, where one looks. -/
def WordTo (l : List UInt8) (ws : List (List UInt8)) (b i : Nat) : Prop :=
  (i ≤ l.length ∧ b ≤ i ∧ splW l = ws ++ splW (l.drop b) ∧ ∀ (j : Nat) (c : UInt8), b ≤ j → j < i → l[j]? = some c → c ≠ 32) ∨ (i = l.length + 1 ∧ ws = splW l)
theorem WordTo.start (l : List UInt8) : WordTo l [] 0 0 := .inl ⟨Nat.zero_le _, Nat.le_refl _, rfl, fun _ _ _ h => absurd h (by omega)⟩
theorem seg_no {l : List UInt8} {b i : Nat} (h : ∀ (j : Nat) (c : UInt8), b ≤ j → j < i → l[j]? = some c → c ≠ 32) : ∀ c ∈ (l.take i).drop b, c ≠ 32 := by
  intro c hc
  obtain ⟨j, hj⟩ := List.getElem?_of_mem hc
  rw [List.getElem?_drop, List.getElem?_take] at hj
  split at hj
  · rename_i hlt
    exact h (b + j) c (by omega) hlt hj
  · cases hj
theorem WordTo.blank {l : List UInt8} {ws : List (List UInt8)} {b i : Nat} (h : WordTo l ws b i) (hi : i < l.length) (h32 : l[i]? = some 32) : WordTo l (ws ++ [(l.take i).drop b]) (i + 1) (i + 1) := by
  rcases h with ⟨h1, h2, h3, h4⟩ | ⟨h1, _⟩
  · refine .inl ⟨by omega, Nat.le_refl _, ?_, fun j c hb hj => absurd hj (by omega)⟩
    have e : l.drop b = (l.take i).drop b ++ 32 :: l.drop (i + 1) := by
      obtain ⟨hl, e0⟩ := List.getElem?_eq_some_iff.1 h32
      have e1 : l = l.take i ++ 32 :: l.drop (i + 1) := by
        conv => lhs; rw [← List.take_append_drop i l, List.drop_eq_getElem_cons hl, e0]
      conv => lhs; rw [e1]
      rw [List.drop_append_of_le_length (by rw [List.length_take]; omega)]
    rw [h3, e, splW_app _ _ (seg_no h4), List.append_assoc]
    rfl
  · omega
theorem WordTo.last {l : List UInt8} {ws : List (List UInt8)} {b : Nat} (h : WordTo l ws b l.length) : WordTo l (ws ++ [(l.take l.length).drop b]) (l.length + 1) (l.length + 1) := by
  rcases h with ⟨h1, h2, h3, h4⟩ | ⟨h1, _⟩
  · refine .inr ⟨rfl, ?_⟩
    have h5 := seg_no h4
    rw [List.take_of_length_le (Nat.le_refl _)] at h5 ⊢
    rw [h3, splW_word _ h5]
  · omega
theorem WordTo.on {l : List UInt8} {ws : List (List UInt8)} {b i : Nat} {c : UInt8} (h : WordTo l ws b i) (hi : i < l.length) (hc : l[i]? = some c) (h32 : c ≠ 32) : WordTo l ws b (i + 1) := by
  rcases h with ⟨h1, h2, h3, h4⟩ | ⟨h1, _⟩
  · refine .inl ⟨by omega, by omega, h3, fun j c' hb hj hc' => ?_⟩
    by_cases e : j = i
    · subst e
      rw [hc] at hc'
      cases hc'
      exact h32
    · exact h4 j c' hb (by omega) hc'
  · omega
theorem WordTo.begin_ {l : List UInt8} {ws : List (List UInt8)} {b i : Nat} (h : WordTo l ws b i) (hi : i ≤ l.length) : b ≤ i := by
  rcases h with ⟨_, h2, _⟩ | ⟨h1, _⟩
  · exact h2
  · omega
theorem WordTo.done {l : List UInt8} {ws : List (List UInt8)} {b i : Nat} (h : WordTo l ws b i) (hi : l.length < i) : ws = splW l := by
  rcases h with ⟨h1, _⟩ | ⟨_, h⟩
  · omega
  · exact h
theorem WordTo.le {l : List UInt8} {ws : List (List UInt8)} {b i : Nat} (h : WordTo l ws b i) : i ≤ l.length + 1 := by
  rcases h with ⟨h1, _⟩ | ⟨h1, _⟩ <;> omega
theorem ext_mid (a : ByteArray) (b i : Nat) : a.extract b i = wa ((a.data.toList.take i).drop b) := by
  rw [← data_wa (a.extract b i), ByteArray.data_extract, Array.toList_extract]
  simp [List.extract_eq_take_drop, List.drop_take]
/-- Where the loop of Words stands. -/
def WordsAt (s : ByteArray) (w : World) (v3 v4 v5 : Value) (wr : World) : Prop :=
  ∃ (ws : List (List UInt8)) (b i : Nat) (A : Option Addr) (c : Nat), v5 = .int .i64 (i : Int) ∧ v4 = .int .i64 (b : Int) ∧ v3 = .slice A ws.length c ∧ OwnT wr w.heap.size v3 (ws.map wa) ∧ WordTo s.data.toList ws b i ∧ Gr w wr ∧ ws.length ≤ i
set_option maxRecDepth 100000 in
set_option maxHeartbeats 2000000 in
theorem swords_any (s : ByteArray) (w : World) (hs : s.size ≤ 5000) : Calls Tryz.prog 13 #[.string s] w fun e w' => (∃ v, e = .returned v ∧ OwnT w' w.heap.size v ((splW s.data.toList).map wa)) ∧ Gr w w' := by
  have hls : s.data.toList.length = s.size := by simp
  have hfin : ∀ v wr ws, ws = splW s.data.toList → OwnT wr w.heap.size v (ws.map wa) → Gr w wr → (∃ v', Ending.returned v = .returned v' ∧ OwnT wr w.heap.size v' ((splW s.data.toList).map wa)) ∧ Gr w wr :=
    fun v wr ws h h2 h3 => ⟨⟨v, rfl, by rw [← h]; exact h2⟩, h3⟩
  have HFin := Lib.hid hfin
  clear hfin
  go_enter Tryz.func13, Tryz.ntmps13
  go_wp2
  go_loopw [3, 4, 5] (fun v3 v4 v5 wr => WordsAt s w v3 v4 v5 wr) (fun _ _ v5 _ => s.size + 2 - (intOf v5).toNat)
  case atStart => exact ⟨[], 0, 0, none, 0, rfl, rfl, rfl, OwnT.nil _ _, WordTo.start _, Gr.refl _, Nat.zero_le _⟩
  case round =>
    obtain ⟨ws, b, i, A3, c3, rfl, rfl, rfl, hO, hT, hgw, hwi⟩ := hrel
    have hile := hT.le
    rw [hls] at hile
    by_cases hlt : i < s.size
    · have hbi := hT.begin_ (by omega)
      have hget : s.data.toList[i]? = some (s[i]'hlt) := by
        rw [List.getElem?_eq_getElem (by omega)]
        rfl
      by_cases h32 : s[i]'hlt = 32
      · have m0 : (((s[i]'hlt).toNat : Int) == 32) = true := by simp [h32]
        have hT2 := hT.blank (by omega) (by rw [hget, h32])
        have hS := (ext_mid s b i).symm
        have HT := Lib.hid hT2
        have HS := Lib.hid hS
        have n1 : (i : Int) ≠ (s.size : Int) := by omega
        have f1 : ¬ i < b := by omega
        have f2 : ¬ s.size < i := by omega
        have hwl : (ws.map wa).length ≤ 100000 := by rw [List.length_map]; omega
        clear hT hT2 hS
        have hGn := Gr.alloc wr (.cells #[.string (s.extract b i)] 9)
        have hBn := Blk.new wr 9 #[.string (s.extract b i)]
        have hO5 := hO.gr hGn
        have hle : w.heap.size ≤ (wr.alloc (.cells #[.string (s.extract b i)] 9)).heap.size := by have h1 := hgw.size; have h2 := hGn.size; omega
        have hg5 := Gr.trans hgw hGn
        go_wp2_with (first
          | (at_builtin
             go_loud (refine wpList_appendT _ rfl (.tmp 22) (.tmp 27) rfl w.heap.size _ (ws.map wa) rfl hO5 (s.extract b i) _ rfl hBn hwl hle ?_)
             intro v6 w6 hO6 hb6
             obtain ⟨A6, c6, hv6⟩ := hO6.vform
             rw [List.length_append, List.length_map, List.length_singleton] at hv6
             subst hv6))
        all_goals (try (exfalso; omega))
        go_roundw
        case rel => exact ⟨ws ++ [(s.data.toList.take i).drop b], i + 1, i + 1, A6, c6, by go_num, by go_num, by simp, by rw [List.map_append, List.map_singleton, HS.out]; exact hO6, HT.out, Below.trans hg5 hb6, by simp; omega⟩
        case measure => simp [intOf]; omega
      · have m0 : (((s[i]'hlt).toNat : Int) == 32) = false := by
          have : (s[i]'hlt).toNat ≠ 32 := fun e1 => h32 (UInt8.toNat_inj.mp e1)
          simpa using (by omega : ¬ (((s[i]'hlt).toNat : Int) = 32))
        have hT2 := hT.on (by omega) hget h32
        have HT := Lib.hid hT2
        have n1 : (i : Int) ≠ (s.size : Int) := by omega
        clear hT hT2
        go_wp2
        all_goals (try (exfalso; omega))
        go_roundw
        case rel => exact ⟨ws, b, i + 1, A3, c3, by go_num, rfl, rfl, hO, HT.out, hgw, by omega⟩
        case measure => simp [intOf]; omega
    · by_cases hie : i = s.size
      · subst hie
        have hbi := hT.begin_ (by omega)
        rw [← hls] at hT
        have hT2 := hT.last
        rw [hls] at hT2
        have hS := (ext_mid s b s.size).symm
        have HT := Lib.hid hT2
        have HS := Lib.hid hS
        have f1 : ¬ s.size < b := by omega
        have hwl : (ws.map wa).length ≤ 100000 := by rw [List.length_map]; omega
        clear hT hT2 hS hlt hile
        have hGn := Gr.alloc wr (.cells #[.string (s.extract b s.size)] 9)
        have hBn := Blk.new wr 9 #[.string (s.extract b s.size)]
        have hO5 := hO.gr hGn
        have hle : w.heap.size ≤ (wr.alloc (.cells #[.string (s.extract b s.size)] 9)).heap.size := by have h1 := hgw.size; have h2 := hGn.size; omega
        have hg5 := Gr.trans hgw hGn
        go_wp2_with (first
          | (at_builtin
             go_loud (refine wpList_appendT _ rfl (.tmp 22) (.tmp 27) rfl w.heap.size _ (ws.map wa) rfl hO5 (s.extract b s.size) _ rfl hBn hwl hle ?_)
             intro v6 w6 hO6 hb6
             obtain ⟨A6, c6, hv6⟩ := hO6.vform
             rw [List.length_append, List.length_map, List.length_singleton] at hv6
             subst hv6))
        all_goals (try (exfalso; omega))
        go_roundw
        case rel => exact ⟨ws ++ [(s.data.toList.take s.size).drop b], s.size + 1, s.size + 1, A6, c6, by go_num, by go_num, by simp, by rw [List.map_append, List.map_singleton, HS.out]; exact hO6, HT.out, Below.trans hg5 hb6, by simp; omega⟩
        case measure => simp [intOf]
      · have hd := hT.done (by omega)
        have hgt : s.size < i := by omega
        clear hT
        go_wp2
        all_goals (try (exfalso; omega))
        go_ret
        exact HFin.out _ _ ws hd hO hgw
end Go.Proofs.YtppnlijeonneeaaGreatDoor

namespace Go.Proofs.YtppnlijeonneeaaGreatDoor
open Go Go.RowKit Go.Sort

theorem words_env {w w1 : World} {base : Nat} {l : List UInt8} {A : Option Addr} {c : Nat} (h : OwnT w1 base (.slice A ((splW l).map wa).length c) ((splW l).map wa)) (hl : l.length ≤ 2000) (hV : WVars w) (hg : Gr w w1) :
    EnvW TS (w1.alloc (.cells #[.slice A ((splW l).map wa).length c, .bool false] TS)) w1.heap.size ⟨(splW l).map wa, false⟩ := by
  obtain ⟨h1, h2⟩ := splW_len l
  have hlen : ((splW l).map wa).length = (splW l).length := by simp
  have hR : Reads w1 w1.heap.size 1 A ((splW l).map wa).length (((splW l).map wa).map Value.string) := Reads.of_own h
  refine ⟨⟨A, c, Blk.new _ _ _, ?_, hR.alloc (Nat.le_refl _) _⟩, ?_, ?_, ⟨w, hV, Gr.trans hg (Gr.alloc _ _), hg.size⟩⟩
  · rcases h.2 with ⟨e, h0⟩ | ⟨g', cap, cur, e, e2, e3, e4, e5, e6⟩
    · exact absurd (List.eq_nil_of_length_eq_zero (by rw [← hlen]; exact h0)) (splW_ne l)
    · injection e with e7 e8 e9
      subst e9
      exact ⟨e4, e5⟩
  · dsimp only; rw [hlen]; omega
  · intro t ht
    obtain ⟨a, ha, rfl⟩ := List.mem_map.1 ht
    have := h2 a ha
    rw [wa_size]; omega
set_option maxRecDepth 100000 in
set_option maxHeartbeats 2000000 in
theorem sparse_long (s : ByteArray) (w : World) (hs : s.size ≤ 2000) (hl : 1000 < s.size) : Calls Tryz.prog 6 #[.string s] w (PPar (parseW s.data.toList) w) := by
  have hF : PPar (parseW s.data.toList) w (.returned (.tuple #[.agg scZ, .int .i64 3])) (w.alloc (.cells scZ 25)) := by
    have e : parseW s.data.toList = (scN, 3) := by unfold parseW; rw [if_pos (by simpa using hl)]
    rw [e]
    exact ⟨_, _, _, _, _, _, _, rfl, rd_leaf _ _ _ _ _ _, Gr.alloc _ _⟩
  have hB := Blk.new w 25 scZ
  generalize PPar (parseW s.data.toList) w = Post at *
  go_enter Tryz.func6, Tryz.ntmps6
  go_wp2
  obtain ⟨z0, z1, z2, z3, z4, -⟩ := five_cells5 hB
  exact bodyPost_ret (v := .tuple #[.agg scZ, .int .i64 3]) (by simp [results, Tryz.results6, go_sem, z0, z1, z2, z3, z4]) rfl hF
set_option maxRecDepth 100000 in
set_option maxHeartbeats 8000000 in
theorem sparse_short (s : ByteArray) (w : World) (hV : WVars w) (hl : s.size ≤ 1000) : Calls Tryz.prog 6 #[.string s] w (PPar (parseW s.data.toList) w) := by
  have hls : s.data.toList.length = s.size := by simp
  have hp : parseW s.data.toList = if (wholeW 41 ⟨(splW s.data.toList).map wa, false⟩).2.fail = true ∨ (wholeW 41 ⟨(splW s.data.toList).map wa, false⟩).2.l ≠ [] then (scN, 2) else
      if (mayS (wholeW 41 ⟨(splW s.data.toList).map wa, false⟩).1 24 8).isSome = true then ((wholeW 41 ⟨(splW s.data.toList).map wa, false⟩).1, 0) else (scN, 1) := by
    unfold parseW
    rw [if_neg (by omega)]
  have cS := swords_any s (w.alloc (.cells scZ 25)) (by omega)
  have hG0 := Gr.alloc w (.cells scZ 25)
  have hB0 := Blk.new w 25 scZ
  have hs0 : (w.alloc (.cells scZ 25)).heap.size = w.heap.size + 1 := by simp
  rw [hs0] at cS
  have hEnv : ∀ w1 A c, OwnT w1 (w.heap.size + 1) (.slice A ((splW s.data.toList).map wa).length c) ((splW s.data.toList).map wa) → Gr w w1 → EnvW TS (w1.alloc (.cells #[.slice A ((splW s.data.toList).map wa).length c, .bool false] TS)) w1.heap.size ⟨(splW s.data.toList).map wa, false⟩ := fun w1 A c h hg => words_env h (by omega) hV hg
  have cW : ∀ w1 A c, OwnT w1 (w.heap.size + 1) (.slice A ((splW s.data.toList).map wa).length c) ((splW s.data.toList).map wa) → Gr w w1 → Calls Tryz.prog 14 #[.pointer (some ⟨w1.heap.size, 0, none⟩), .int .i64 7, .int .i64 41] (w1.alloc (.cells #[.slice A ((splW s.data.toList).map wa).length c, .bool false] TS))
      (PW TS (w1.alloc (.cells #[.slice A ((splW s.data.toList).map wa).length c, .bool false] TS)) w1.heap.size (wholeW 41 ⟨(splW s.data.toList).map wa, false⟩)) := fun w1 A c h hg => swhole_41 (hEnv w1 A c h hg)
  have hnm := whole_nm 41 ⟨(splW s.data.toList).map wa, false⟩
  unfold PW at cW
  generalize hPost : PPar (parseW s.data.toList) w = Post at *
  have hF : ∀ W o_ m_ f_ t_ A_ n_ c_ x, x = (parseW s.data.toList).2 → RdSc W (fun b => w.heap.size + 1 ≤ b ∧ b < W.heap.size) (parseW s.data.toList).1 (.agg (scC o_ m_ f_ t_ A_ n_ c_)) → Gr w W → Post (.returned (.tuple #[.agg (scC o_ m_ f_ t_ A_ n_ c_), .int .i64 x])) (set5v W w.heap.size (.int .i64 o_) (.string m_) (.int .i64 f_) (.int .i64 t_) (.slice A_ n_ c_)) := by
    rw [← hPost]
    exact fun W o_ m_ f_ t_ A_ n_ c_ x hx hr hg => PPar.fin hx hr hg
  have HF := Lib.hid hF
  clear hF hPost hEnv
  rw [hp] at HF
  clear hp
  generalize (splW s.data.toList).map wa = ws at *
  generalize hNN : ws.length = N at *
  generalize wholeW 41 ⟨ws, false⟩ = o at *
  obtain ⟨x, ⟨L, f⟩⟩ := o
  dsimp only at *
  by_cases hf : f = true ∨ L ≠ []
  · rw [if_pos hf] at HF
    have HG := Lib.hid (fun W hg => HF.out W 0 ⟨#[]⟩ 0 0 none 0 0 2 rfl (rd_leaf _ _ _ _ _ _) hg)
    clear HF
    rcases (by cases f; exact .inr ⟨rfl, by simpa using hf⟩; exact .inl rfl : f = true ∨ (f = false ∧ L ≠ [])) with rfl | ⟨rfl, hL⟩
    · clear hf hnm
      go_enter Tryz.func6, Tryz.ntmps6
      go_wp2_with (first
        | (go_at_call 13; (with_reducible refine cS.mono ?_); rintro e w1 ⟨⟨v1, rfl, hO⟩, hg0⟩
           obtain ⟨LA0, lc0, rfl⟩ := hO.vform
           rw [hNN] at hO
           simp only [hNN]
           have hgw := Gr.trans hG0 hg0
           have hres := hB0.below hg0 hB0.lt)
        | (go_at_call 14; (with_reducible refine (cW _ _ _ hO hgw).mono ?_); rintro e w2 ⟨o_, m_, f_, t_, A_, n_, c_, x', rfl, hr2, he2, hm2⟩
           have hGn := Gr.alloc w2 (.cells (scC o_ m_ f_ t_ A_ n_ c_) 25)
           have hm3 := hm2.gr hGn
           obtain ⟨LA, lc, g0, g1, gf0, gf1, ⟨hlc, hlm⟩, -⟩ := hm3.1.cells
           have hB5 := (hres.alloc (.cells #[.slice LA0 N lc0, .bool false] TS)).xW hm3.2 (by have := hres.lt; omega)
           obtain ⟨r0, r1, r2, r3, r4, q0, q1, q2, q3, q4⟩ := five_cells5 hB5
           have hG9 := gr_x (Gr.trans hgw (Gr.alloc _ _)) hm3.2 (by have := hres.lt; omega)))
      obtain ⟨z0, z1, z2, z3, z4, -⟩ := five_cells5 (hB5.put5 (y0 := .int .i64 0) (y1 := .string ⟨#[]⟩) (y2 := .int .i64 0) (y3 := .int .i64 0) (y4 := .slice none 0 0))
      exact bodyPost_ret (v := .tuple #[.agg scZ, .int .i64 2]) (by simp [results, Tryz.results6, go_sem, z0, z1, z2, z3, z4]) rfl (HG.out _ hG9)
    · have hLl : 0 < L.length := List.length_pos_iff.2 hL
      have hL0 : ¬ L.length = 0 := by omega
      clear hf hnm hL
      generalize hLe : L.length = k at *
      go_enter Tryz.func6, Tryz.ntmps6
      go_wp2_with (first
        | (go_at_call 13; (with_reducible refine cS.mono ?_); rintro e w1 ⟨⟨v1, rfl, hO⟩, hg0⟩
           obtain ⟨LA0, lc0, rfl⟩ := hO.vform
           rw [hNN] at hO
           simp only [hNN]
           have hgw := Gr.trans hG0 hg0
           have hres := hB0.below hg0 hB0.lt)
        | (go_at_call 14; (with_reducible refine (cW _ _ _ hO hgw).mono ?_); rintro e w2 ⟨o_, m_, f_, t_, A_, n_, c_, x', rfl, hr2, he2, hm2⟩
           have hGn := Gr.alloc w2 (.cells (scC o_ m_ f_ t_ A_ n_ c_) 25)
           have hm3 := hm2.gr hGn
           obtain ⟨LA, lc, g0, g1, gf0, gf1, ⟨hlc, hlm⟩, -⟩ := hm3.1.cells
           dsimp only at g0 g1 hlc
           rw [hLe] at g0 hlc
           have hB5 := (hres.alloc (.cells #[.slice LA0 N lc0, .bool false] TS)).xW hm3.2 (by have := hres.lt; omega)
           obtain ⟨r0, r1, r2, r3, r4, q0, q1, q2, q3, q4⟩ := five_cells5 hB5
           have hG9 := gr_x (Gr.trans hgw (Gr.alloc _ _)) hm3.2 (by have := hres.lt; omega)))
      all_goals (try (exfalso; omega))
      obtain ⟨z0, z1, z2, z3, z4, -⟩ := five_cells5 (hB5.put5 (y0 := .int .i64 0) (y1 := .string ⟨#[]⟩) (y2 := .int .i64 0) (y3 := .int .i64 0) (y4 := .slice none 0 0))
      exact bodyPost_ret (v := .tuple #[.agg scZ, .int .i64 2]) (by simp [results, Tryz.results6, go_sem, z0, z1, z2, z3, z4]) rfl (HG.out _ hG9)
  · rw [if_neg hf] at HF
    obtain ⟨rfl, rfl⟩ : f = false ∧ L = [] := by
      refine ⟨?_, Classical.byContradiction fun h => hf (.inr h)⟩
      cases f with
      | false => rfl
      | true => exact absurd (.inl rfl) hf
    clear hf
    have cC : ∀ W v, RdSc W (· < W.heap.size) x v → Calls Tryz.prog 15 #[v] W fun e w' => e = .returned (.bool (mayS x 24 8).isSome) ∧ Gr W w' := fun W v hr => May_any x v W hr hnm
    clear hnm
    cases hb : (mayS x 24 8).isSome with
    | true =>
      rw [hb, if_pos rfl] at HF
      rw [hb] at cC
      clear hb
      go_enter Tryz.func6, Tryz.ntmps6
      go_wp2_with (first
        | (go_at_call 13; (with_reducible refine cS.mono ?_); rintro e w1 ⟨⟨v1, rfl, hO⟩, hg0⟩
           obtain ⟨LA0, lc0, rfl⟩ := hO.vform
           rw [hNN] at hO
           simp only [hNN]
           have hgw := Gr.trans hG0 hg0
           have hres := hB0.below hg0 hB0.lt)
        | (go_at_call 14; (with_reducible refine (cW _ _ _ hO hgw).mono ?_); rintro e w2 ⟨o_, m_, f_, t_, A_, n_, c_, x', rfl, hr2, he2, hm2⟩
           obtain rfl := he2 (by first | rfl | trivial)
           have hGn := Gr.alloc w2 (.cells (scC o_ m_ f_ t_ A_ n_ c_) 25)
           have hm3 := hm2.gr hGn
           obtain ⟨LA, lc, g0, g1, gf0, gf1, ⟨hlc, hlm⟩, -⟩ := hm3.1.cells
           obtain ⟨k0, k1, k2, k3, k4, -⟩ := five_cells5 (Blk.new w2 25 (scC o_ m_ f_ t_ A_ n_ c_))
           have hrx : RdSc (w2.alloc (.cells (scC o_ m_ f_ t_ A_ n_ c_) 25)) (fun b => w.heap.size + 1 ≤ b ∧ b < (w2.alloc (.cells (scC o_ m_ f_ t_ A_ n_ c_) 25)).heap.size) x' (.agg (scC o_ m_ f_ t_ A_ n_ c_)) := RdSc.mono (fun b hb => ⟨by have := hb.1; have h9 := hres.lt; simp at this; omega, Nat.lt_of_lt_of_le hb.2 hGn.size⟩) _ _ (RdSc.keep (fun p hp => hGn.cell hp.2) _ _ hr2)
           have hrc := RdSc.mono (K' := fun b => b < (w2.alloc (.cells (scC o_ m_ f_ t_ A_ n_ c_) 25)).heap.size) (fun _ hb => hb.2) _ _ hrx
           have hB5 := (hres.alloc (.cells #[.slice LA0 N lc0, .bool false] TS)).xW hm3.2 (by have := hres.lt; omega)
           have hG9 := gr_x (Gr.trans hgw (Gr.alloc _ _)) hm3.2 (by have := hres.lt; omega))
        | (go_at_call 15; (with_reducible refine (cC _ _ hrc).mono ?_); rintro e w7 ⟨rfl, hb7⟩
           obtain ⟨j0, j1, j2, j3, j4, -⟩ := five_cells5 ((Blk.new w2 25 (scC o_ m_ f_ t_ A_ n_ c_)).below hb7 (Blk.new w2 _ _).lt)
           have hB7 := hB5.below hb7 hB5.lt
           obtain ⟨r0, r1, r2, r3, r4, q0, q1, q2, q3, q4⟩ := five_cells5 hB7
           have hG7 := Gr.trans hG9 hb7
           have hr7 : RdSc w7 (fun b => w.heap.size + 1 ≤ b ∧ b < w7.heap.size) x' (.agg (scC o_ m_ f_ t_ A_ n_ c_)) := RdSc.mono (fun b hb => ⟨hb.1, Nat.lt_of_lt_of_le hb.2 hb7.size⟩) _ _ (RdSc.keep (fun p hp => hb7.cell hp.2) _ _ hrx)))
      obtain ⟨z0, z1, z2, z3, z4, -⟩ := five_cells5 (hB7.put5 (y0 := .int .i64 o_) (y1 := .string m_) (y2 := .int .i64 f_) (y3 := .int .i64 t_) (y4 := .slice A_ n_ c_))
      exact bodyPost_ret (v := .tuple #[.agg (scC o_ m_ f_ t_ A_ n_ c_), .int .i64 0]) (by simp [results, Tryz.results6, go_sem, z0, z1, z2, z3, z4]) rfl (HF.out w7 o_ m_ f_ t_ A_ n_ c_ 0 rfl hr7 hG7)
    | false =>
      rw [hb, if_neg (by simp)] at HF
      rw [hb] at cC
      clear hb
      have HG := Lib.hid (fun W hg => HF.out W 0 ⟨#[]⟩ 0 0 none 0 0 1 rfl (rd_leaf _ _ _ _ _ _) hg)
      clear HF
      go_enter Tryz.func6, Tryz.ntmps6
      go_wp2_with (first
        | (go_at_call 13; (with_reducible refine cS.mono ?_); rintro e w1 ⟨⟨v1, rfl, hO⟩, hg0⟩
           obtain ⟨LA0, lc0, rfl⟩ := hO.vform
           rw [hNN] at hO
           simp only [hNN]
           have hgw := Gr.trans hG0 hg0
           have hres := hB0.below hg0 hB0.lt)
        | (go_at_call 14; (with_reducible refine (cW _ _ _ hO hgw).mono ?_); rintro e w2 ⟨o_, m_, f_, t_, A_, n_, c_, x', rfl, hr2, he2, hm2⟩
           obtain rfl := he2 (by first | rfl | trivial)
           have hGn := Gr.alloc w2 (.cells (scC o_ m_ f_ t_ A_ n_ c_) 25)
           have hm3 := hm2.gr hGn
           obtain ⟨LA, lc, g0, g1, gf0, gf1, ⟨hlc, hlm⟩, -⟩ := hm3.1.cells
           obtain ⟨k0, k1, k2, k3, k4, -⟩ := five_cells5 (Blk.new w2 25 (scC o_ m_ f_ t_ A_ n_ c_))
           have hrc : RdSc (w2.alloc (.cells (scC o_ m_ f_ t_ A_ n_ c_) 25)) (fun b => b < (w2.alloc (.cells (scC o_ m_ f_ t_ A_ n_ c_) 25)).heap.size) x' (.agg (scC o_ m_ f_ t_ A_ n_ c_)) := RdSc.mono (fun b hb => Nat.lt_of_lt_of_le hb.2 hGn.size) _ _ (RdSc.keep (fun p hp => hGn.cell hp.2) _ _ hr2)
           have hB5 := (hres.alloc (.cells #[.slice LA0 N lc0, .bool false] TS)).xW hm3.2 (by have := hres.lt; omega)
           have hG9 := gr_x (Gr.trans hgw (Gr.alloc _ _)) hm3.2 (by have := hres.lt; omega))
        | (go_at_call 15; (with_reducible refine (cC _ _ hrc).mono ?_); rintro e w7 ⟨rfl, hb7⟩
           have hB7 := hB5.below hb7 hB5.lt
           obtain ⟨r0, r1, r2, r3, r4, q0, q1, q2, q3, q4⟩ := five_cells5 hB7
           have hG7 := Gr.trans hG9 hb7))
      obtain ⟨z0, z1, z2, z3, z4, -⟩ := five_cells5 (hB7.put5 (y0 := .int .i64 0) (y1 := .string ⟨#[]⟩) (y2 := .int .i64 0) (y3 := .int .i64 0) (y4 := .slice none 0 0))
      exact bodyPost_ret (v := .tuple #[.agg scZ, .int .i64 1]) (by simp [results, Tryz.results6, go_sem, z0, z1, z2, z3, z4]) rfl (HG.out w7 hG7)
theorem sparse_any (s : ByteArray) (w : World) (hV : WVars w) (hs : s.size ≤ 2000) : Calls Tryz.prog 6 #[.string s] w (PPar (parseW s.data.toList) w) := by
  by_cases hl : 1000 < s.size
  · exact sparse_long s w hs hl
  · exact sparse_short s w hV (by omega)
end Go.Proofs.YtppnlijeonneeaaGreatDoor

namespace Go.Proofs.YtppnlijeonneeaaGreatDoor
open Go Go.RowKit Go.Sort

set_option maxRecDepth 100000 in
set_option maxHeartbeats 4000000 in
theorem law_writparse (s : ByteArray) (w : World) (hV : WVars w) (hs : s.size ≤ 140737488351232) : Calls Tryz.prog 3 #[.string s] w fun e w' => e = .returned (.bool true) ∧ Gr w w' := by
  have cL := fun W (hg : Gr w W) => wlive_any W (hV.gr hg)
  by_cases hl : 2000 < s.size
  · go_enter Tryz.func3, Tryz.ntmps3
    go_wp2_with (go_at_call 4; (with_reducible refine (cL _ (Gr.refl _)).mono ?_); rintro e w5 ⟨rfl, hb5⟩)
    go_ret
    exact ⟨rfl, hb5⟩
  · have cP := fun W (hg : Gr w W) => wparse_any s W (hV.gr hg) (by omega)
    have cQ := fun W (hg : Gr w W) => sparse_any s W (hV.gr hg) (by omega)
    have cE : ∀ W v v', RdSc W (· < W.heap.size) (parseW s.data.toList).1 v → RdSc W (· < W.heap.size) (parseW s.data.toList).1 v' → Calls Tryz.prog 7 #[v, v'] W fun e w' => e = .returned (.bool true) ∧ Gr W w' := fun W v v' hr hr' => by
      have := ssame_n _ _ _ v v' W (Nat.le_refl _) hr hr'
      rwa [scEq_refl] at this
    unfold PPar at cP cQ
    generalize (parseW s.data.toList).1 = x at *
    generalize (parseW s.data.toList).2 = z at *
    clear hV hs
    go_enter Tryz.func3, Tryz.ntmps3
    go_wp2_with (first
      | (go_at_call 5; (with_reducible refine (cP _ (Gr.refl _)).mono ?_); rintro e w1 ⟨o1, m1, f1, t1, A1, n1, c1, rfl, hr1, hg1⟩
         have hGa := Gr.alloc w1 (.cells (scC o1 m1 f1 t1 A1 n1 c1) 25)
         have hg2 := Gr.trans hg1 hGa
         have hr2 := hr1.grk hGa
         have hBa := Blk.new w1 25 (scC o1 m1 f1 t1 A1 n1 c1))
      | (go_at_call 6; (with_reducible refine (cQ _ hg2).mono ?_); rintro e w3 ⟨o3, m3, f3, t3, A3, n3, c3, rfl, hr3, hg3⟩
         have hGb := Gr.alloc w3 (.cells (scC o3 m3 f3 t3 A3 n3 c3) 25)
         have hg4 := Gr.trans (Gr.trans hg2 hg3) hGb
         have hr4 := hr3.grk hGb
         have hr5 := (hr2.gr hg3).gr hGb
         obtain ⟨k0, k1, k2, k3, k4⟩ := five_cells ((hBa.below hg3 hBa.lt).below hGb (hBa.below hg3 hBa.lt).lt)
         obtain ⟨j0, j1, j2, j3, j4⟩ := five_cells (Blk.new w3 25 (scC o3 m3 f3 t3 A3 n3 c3)))
      | (go_at_call 7; (with_reducible refine (cE _ _ _ hr5 hr4).mono ?_); rintro e w6 ⟨rfl, hg6⟩
         have hg7 := Gr.trans hg4 hg6)
      | (go_at_call 8; (with_reducible refine (lnum_any _ _).mono ?_); rintro e w8 ⟨rfl, rfl⟩)
      | (go_at_call 4; (with_reducible refine (cL _ hg7).mono ?_); rintro e w9 ⟨rfl, hb9⟩))
    all_goals (try (exfalso; omega))
    go_ret
    exact ⟨rfl, Gr.trans hg7 hb9⟩
theorem row_writparse (s : ByteArray) (w : World) (hs : s.size ≤ 140737488351232) (hP : Pow w) (hE : Errs w) (hS : w.ShapedOpen Tryz.prog) :
    Calls Tryz.prog 3 #[.string s] w fun e w' => e = .returned (.bool true) ∧ Below w.heap.size w w' :=
  law_writparse s w (wvars_of hP hE hS) hs
end Go.Proofs.YtppnlijeonneeaaGreatDoor
