/- The reference's dice: a command. -/
import Derived.Test.YteoidkjiigjlaaaDoorGenQ
namespace Go.Proofs.YteoidkjiigjlaaaDoor
open Go Go.RowKit

theorem DR.set14 {w0 w : World} {g gx : Nat} {s : Int} {y0 y1 y2 y3 y4 y5 y6 y7 y8 y9 y10 y11 y12 y13 : Value} (h : DR w0 g w s) (hg : w0.heap.size ≤ gx) (hn : g ≠ gx) : DR w0 g (set14w w gx y0 y1 y2 y3 y4 y5 y6 y7 y8 y9 y10 y11 y12 y13) s := ((((((((((((((h.far hg hn _).far hg hn _).far hg hn _).far hg hn _).far hg hn _).far hg hn _).far hg hn _).far hg hn _).far hg hn _).far hg hn _).far hg hn _).far hg hn _).far hg hn _).far hg hn _)
/-- A command being thrown: its block gc. -/
structure CmdStR (w0 w wr : World) (g gr gc : Nat) (x : Cm × Int) (cs : Array Value) : Prop where
  dp : DR w0 g wr x.2
  grx : GrX w wr g
  res : Blk wr gr 87 (cmC 0 ⟨#[]⟩ ⟨#[]⟩ ⟨#[]⟩ ⟨#[]⟩ 0 (.slice none 0 0) 0 0 0 ⟨#[]⟩ 0 0 (.slice none 0 0))
  blk : Blk wr gc 87 cs
theorem CmdStR.x {w0 w wr w' : World} {g gr gc : Nat} {x : Cm × Int} {s' : Int} {cs : Array Value} (h : CmdStR w0 w wr g gr gc x cs) (hd : DR w0 g w' s') (hx : GrX wr w' g) (h1 : gr ≠ g) (h2 : gc ≠ g) (y : Cm) : CmdStR w0 w w' g gr gc (y, s') cs :=
  ⟨hd, h.grx.trans hx, h.res.grown hx (by intro e; injection e with e; exact h1 e), h.blk.grown hx (by intro e; injection e with e; exact h2 e)⟩
theorem CmdStR.set_ {w0 w wr : World} {g gr gc : Nat} {x : Cm × Int} {cs : Array Value} (h : CmdStR w0 w wr g gr gc x cs) (h0 : w0.heap.size ≤ gc) (h1 : w.heap.size ≤ gc) (h2 : gr ≠ gc) (h3 : g ≠ gc) (i : Nat) (u : Value) (y : Cm) :
    CmdStR w0 w (wr.setCell ⟨gc, i, none⟩ u) g gr gc (y, x.2) (cs.setIfInBounds i u) :=
  ⟨h.dp.far h0 h3 u, h.grx.far h1 u, h.res.far h2 u, h.blk.set_ i u⟩
/-- The command behind some fields. -/
def cmAtR (salt k s : Int) (pos : Nat) : Cm × Int := (((fieldsR k.toNat).take pos).map UInt8.toNat).foldl (fun x f => fieldR salt f x) (Cm.ofKind k, s)
theorem cmAtR_zero (salt k s : Int) : cmAtR salt k s 0 = (Cm.ofKind k, s) := rfl
theorem cmAtR_succ (salt k s : Int) (pos : Nat) (f : UInt8) (h : (fieldsR k.toNat)[pos]? = some f) : cmAtR salt k s (pos + 1) = fieldR salt f.toNat (cmAtR salt k s pos) := by
  unfold cmAtR
  rw [take_next h, List.map_append, List.foldl_append]
  rfl
theorem fieldR_kind (salt : Int) (f : Nat) (x : Cm × Int) : (fieldR salt f x).1.kind = x.1.kind := by
  unfold fieldR
  repeat' split
  all_goals rfl
theorem foldR_kind (salt : Int) : ∀ (l : List Nat) (x : Cm × Int), (l.foldl (fun x f => fieldR salt f x) x).1.kind = x.1.kind
  | [], _ => rfl
  | f :: l, x => by rw [List.foldl_cons, foldR_kind salt l, fieldR_kind]
theorem cmAtR_kind (salt k s : Int) (pos : Nat) : (cmAtR salt k s pos).1.kind = k := foldR_kind salt _ _
theorem cmAtR_end (salt s : Int) : cmAtR salt (belowN 22 s + 1) (belowS 22 s) (fieldsR (belowN 22 s + 1).toNat).length = cmdR salt s := by
  unfold cmAtR cmdR
  rw [List.take_length]
theorem field78 (salt : Int) (x : Cm) (s : Int) : fieldR salt 78 (x, s) = ({ x with n := gNumber x.kind s }, gNumberS x.kind s) := rfl
def CmdIR (w0 w wr : World) (g gr gc : Nat) (x : Cm × Int) : Prop := ∃ vd op nm fr to_ vk, CmdStR w0 w wr g gr gc x (cmC x.1.kind x.1.a x.1.b x.1.c x.1.d x.1.n vd x.1.salt x.1.draw op nm fr to_ vk) ∧ CmM wr (KB gc wr) x.1 vd op nm fr to_ vk
theorem CmdIR.mk {w0 w wr : World} {g gr gc : Nat} {x : Cm × Int} (vd : Value) (op : Int) (nm : ByteArray) (fr to_ : Int) (vk : Value) (h1 : CmdStR w0 w wr g gr gc x (cmC x.1.kind x.1.a x.1.b x.1.c x.1.d x.1.n vd x.1.salt x.1.draw op nm fr to_ vk)) (h2 : CmM wr (KB gc wr) x.1 vd op nm fr to_ vk) : CmdIR w0 w wr g gr gc x :=
  ⟨vd, op, nm, fr, to_, vk, h1, h2⟩
theorem fieldsR_len : ∀ k : Nat, k < 22 → (fieldsR (k + 1)).length ≤ 10 := by decide
set_option maxRecDepth 100000 in
set_option maxHeartbeats 4000000 in
theorem rone_any (w0 w : World) (g : Nat) (s i : Int) (h : DR w0 g w s) (hs0 : 0 ≤ i) (hs1 : i ≤ 1000) :
    Calls Tryd.prog 63 #[.pointer (some ⟨g, 0, none⟩), .int .i64 i] w fun e w' => ∃ v, e = .returned v ∧ RdCm w' (KN w w') (cmdR (32 * (i + 1)) s).1 v ∧ DR w0 g w' (cmdR (32 * (i + 1)) s).2 ∧ GrX w w' g := by
  have hgw := h.lt
  have hz0 : w0.heap.size ≤ w.heap.size := h.gr.size
  have hb := belowN_le 22 s (by omega)
  have cB := rdbelow_any w0 _ g 22 s (h.grow (Gr.alloc w (.cells (cmC 0 ⟨#[]⟩ ⟨#[]⟩ ⟨#[]⟩ ⟨#[]⟩ 0 (.slice none 0 0) 0 0 0 ⟨#[]⟩ 0 0 (.slice none 0 0)) 87))) (by omega)
  have hE := cmAtR_end (32 * (i + 1)) s
  rw [← hE]
  clear hE
  generalize belowN 22 s = m at *
  have hm1 : IntKind.i64.wrap (m + 1) = m + 1 := IntWalk.i64_in _ (by omega)
  go_enter Tryd.func63, Tryd.ntmps63
  go_wp2_with (first
    | (go_at_call 25; (with_reducible refine cB.mono ?_); rintro e w1 ⟨rfl, hd1, hx1⟩)
    | (go_at_call 86; (with_reducible refine (fieldsR_any (m + 1) _ (by omega) (by omega)).mono ?_); rintro e w2 ⟨rfl, rfl⟩))
  have hz1 : w0.heap.size ≤ w1.heap.size := hd1.gr.size
  have hzw : w.heap.size + 1 ≤ w1.heap.size := by have := hx1.size; simpa using this
  have hz2 : w.heap.size ≤ w1.heap.size := by omega
  have hrg : w.heap.size ≠ g := by omega
  have hcg : w1.heap.size ≠ g := by omega
  have hgc : g ≠ w1.heap.size := by omega
  have hrc : w.heap.size ≠ w1.heap.size := by omega
  have hgi : g ≤ w1.heap.size := by omega
  have hS0 : (⟨(fieldsR (m + 1).toNat).toArray⟩ : ByteArray).size = (fieldsR (m + 1).toNat).length := rfl
  have HSZ := Lib.hid hS0
  clear hS0
  go_loopw [7] (fun v7 wr => ∃ pos : Nat, v7 = .int .i64 pos ∧ pos ≤ (fieldsR (m + 1).toNat).length ∧ CmdIR w0 w wr g w.heap.size w1.heap.size (cmAtR (32 * (i + 1)) (m + 1) (belowS 22 s) pos)) (fun v7 _ => (fieldsR (m + 1).toNat).length - (intOf v7).toNat)
  case atStart =>
    exact ⟨0, rfl, Nat.zero_le _, CmdIR.mk (.slice none 0 0) 0 ⟨#[]⟩ 0 0 (.slice none 0 0) ⟨hd1.grow (Gr.alloc _ _), ((GrX.of_gr (Gr.alloc w _) g).trans hx1).new _, ((Blk.new w 87 _).grown hx1 (by intro e; injection e with e; exact hrg e)).alloc _, Blk.new w1 87 _⟩ ⟨RkB.nil _ _, rdSc_leaf _ _ _ _ _ _⟩⟩
  case round =>
    obtain ⟨pos, rfl, hp, vd, op, nm, fr, to_, vk, hst1, hM1⟩ := hrel
    by_cases hlt : pos < (fieldsR (m + 1).toNat).length
    · obtain ⟨f, hf⟩ : ∃ f, (fieldsR (m + 1).toNat)[pos]? = some f := ⟨_, List.getElem?_eq_getElem hlt⟩
      have e22 : (m + 1).toNat = m.toNat + 1 := by omega
      have hmem := fieldsR_mem m.toNat (by omega)
      rw [← e22, List.all_eq_true] at hmem
      have hmf := hmem f (List.mem_of_getElem? hf)
      clear hmem e22
      simp only [Bool.or_eq_true, beq_iff_eq, or_assoc] at hmf
      have hF : (f.toNat : Int) = 65 ∨ (f.toNat : Int) = 66 ∨ (f.toNat : Int) = 67 ∨ (f.toNat : Int) = 68 ∨ (f.toNat : Int) = 78 ∨ (f.toNat : Int) = 84 ∨ (f.toNat : Int) = 83 ∨ (f.toNat : Int) = 75 ∨ (f.toNat : Int) = 88 := by
        rcases hmf with h | h | h | h | h | h | h | h | h <;> (subst h; decide)
      clear hmf
      have hpSz : pos < (⟨(fieldsR (m + 1).toNat).toArray⟩ : ByteArray).size := by rw [HSZ.out]; exact hlt
      have hSp : (⟨(fieldsR (m + 1).toNat).toArray⟩ : ByteArray)[pos]'hpSz = f := (List.getElem?_eq_some_iff.1 hf).2
      have hlt1 := hst1.blk.lt
      have hlen10 := fieldsR_len m.toNat (by omega)
      rw [show m.toNat + 1 = (m + 1).toNat by omega] at hlen10
      have hps : (pos : Int) ≤ 10 := by omega
      clear hlen10
      have HS := Lib.hid (cmAtR_succ (32 * (i + 1)) (m + 1) (belowS 22 s) pos f hf)
      have hk := cmAtR_kind (32 * (i + 1)) (m + 1) (belowS 22 s) pos
      have hpl : pos + 1 ≤ (fieldsR (m + 1).toNat).length := hlt
      clear hf
      generalize cmAtR (32 * (i + 1)) (m + 1) (belowS 22 s) pos = X at *
      obtain ⟨⟨xk, xa, xb, xc, xd, xn, xl, xs, xw, xe⟩, sx⟩ := X
      obtain rfl : xk = m + 1 := hk
      generalize hgc' : w1.heap.size = gc at *
      have c0 : wr.cell? ⟨gc, 0, none⟩ = some (.int .i64 (m + 1)) := hst1.blk.cell 0
      have hSz2 : (fieldsR (m + 1).toNat).length = (⟨(fieldsR (m + 1).toNat).toArray⟩ : ByteArray).size := HSZ.out.symm
      have hltI : (pos : Int) < ((⟨(fieldsR (m + 1).toNat).toArray⟩ : ByteArray).size : Int) := by omega
      have hfi : ((((⟨(fieldsR (m + 1).toNat).toArray⟩ : ByteArray)[pos]'hpSz).toNat : Nat) : Int) = (f.toNat : Int) := by rw [hSp]
      clear hSp hgc' hSz2
      generalize hFe : (f.toNat : Int) = F at hF hfi
      rcases hF with rfl | rfl | rfl | rfl | rfl | rfl | rfl | rfl | rfl
      · have hfN : f.toNat = 65 := by omega
        have cc := rfirst_any w0 wr g sx (m + 1) hst1.dp (by omega) (by omega)
        go_wp2_with (go_at_call 87; (with_reducible refine cc.mono ?_); rintro e w2 ⟨rfl, hd2, hx2⟩
                     have hst2 := hst1.x hd2 hx2 hrg hcg Cm.zero
                     have hM2 := hM1.x hx2 hgi
                     have ci := hst2.blk.cell 1
                     have fi := hst2.blk.frozen 1)
        go_roundw
        case rel => exact ⟨pos + 1, by go_num, hpl, by rw [HS.out, hfN]; exact CmdIR.mk vd op nm fr to_ vk (hst2.set_ hz1 hz2 hrc hgc 1 _ _) ⟨(hM2.set_ (Nat.le_refl _) _).data, (hM2.set_ (Nat.le_refl _) _).scope⟩⟩
        case measure => simp [intOf]; omega
      · have hfN : f.toNat = 66 := by omega
        have cc := rsecond_any w0 wr g sx (m + 1) hst1.dp (by omega) (by omega)
        go_wp2_with (go_at_call 88; (with_reducible refine cc.mono ?_); rintro e w2 ⟨rfl, hd2, hx2⟩
                     have hst2 := hst1.x hd2 hx2 hrg hcg Cm.zero
                     have hM2 := hM1.x hx2 hgi
                     have ci := hst2.blk.cell 2
                     have fi := hst2.blk.frozen 2)
        go_roundw
        case rel => exact ⟨pos + 1, by go_num, hpl, by rw [HS.out, hfN]; exact CmdIR.mk vd op nm fr to_ vk (hst2.set_ hz1 hz2 hrc hgc 2 _ _) ⟨(hM2.set_ (Nat.le_refl _) _).data, (hM2.set_ (Nat.le_refl _) _).scope⟩⟩
        case measure => simp [intOf]; omega
      · have hfN : f.toNat = 67 := by omega
        have cc := rname_any w0 wr g sx hst1.dp 115
        go_wp2_with (go_at_call 89; (with_reducible refine cc.mono ?_); rintro e w2 ⟨rfl, hd2, hx2⟩
                     have hst2 := hst1.x hd2 hx2 hrg hcg Cm.zero
                     have hM2 := hM1.x hx2 hgi
                     have ci := hst2.blk.cell 3
                     have fi := hst2.blk.frozen 3)
        go_roundw
        case rel => exact ⟨pos + 1, by go_num, hpl, by rw [HS.out, hfN]; exact CmdIR.mk vd op nm fr to_ vk (hst2.set_ hz1 hz2 hrc hgc 3 _ _) ⟨(hM2.set_ (Nat.le_refl _) _).data, (hM2.set_ (Nat.le_refl _) _).scope⟩⟩
        case measure => simp [intOf]; omega
      · have hfN : f.toNat = 68 := by omega
        have cc := rclass_any w0 wr g sx hst1.dp
        go_wp2_with (go_at_call 90; (with_reducible refine cc.mono ?_); rintro e w2 ⟨rfl, hd2, hx2⟩
                     have hst2 := hst1.x hd2 hx2 hrg hcg Cm.zero
                     have hM2 := hM1.x hx2 hgi
                     have ci := hst2.blk.cell 4
                     have fi := hst2.blk.frozen 4)
        go_roundw
        case rel => exact ⟨pos + 1, by go_num, hpl, by rw [HS.out, hfN]; exact CmdIR.mk vd op nm fr to_ vk (hst2.set_ hz1 hz2 hrc hgc 4 _ _) ⟨(hM2.set_ (Nat.le_refl _) _).data, (hM2.set_ (Nat.le_refl _) _).scope⟩⟩
        case measure => simp [intOf]; omega
      · have hfN : f.toNat = 78 := by omega
        by_cases hk1 : m + 1 = 1
        · have hn : gNumber (m + 1) sx = belowN 9 sx + 1 := by unfold gNumber; rw [if_pos hk1]
          have hnS : gNumberS (m + 1) sx = belowS 9 sx := by unfold gNumberS; rw [if_pos hk1]
          have HN := Lib.hid hn
          have HNS := Lib.hid hnS
          clear hn hnS
          have hbb := belowN_le 9 sx (by omega)
          have t1 : ((m + 1) == 1) = true := by simp [hk1]
          have t2 : decide (m + 1 = 1) = true := by simp [hk1]
          have t3 : (m == 0) = true := by simp; omega
          have t4 : decide (m = 0) = true := by simp; omega
          clear hk1
          have cc := rdbelow_any w0 wr g 9 sx hst1.dp (by omega)
          generalize belowN 9 sx = q at *
          go_wp2_with (go_at_call 25; (with_reducible refine cc.mono ?_); rintro e w2 ⟨rfl, hd2, hx2⟩
                       have hst2 := hst1.x hd2 hx2 hrg hcg Cm.zero
                       have hM2 := hM1.x hx2 hgi
                       have ci := hst2.blk.cell 5
                       have fi := hst2.blk.frozen 5)
          go_roundw
          case rel => exact ⟨pos + 1, by go_num, hpl, by rw [HS.out, hfN, field78, HN.out, HNS.out]; exact CmdIR.mk vd op nm fr to_ vk (hst2.set_ hz1 hz2 hrc hgc 5 _ _) ⟨(hM2.set_ (Nat.le_refl _) _).data, (hM2.set_ (Nat.le_refl _) _).scope⟩⟩
          case measure => simp [intOf]; omega
        · have hn : gNumber (m + 1) sx = belowN 8 sx := by unfold gNumber; rw [if_neg hk1]
          have hnS : gNumberS (m + 1) sx = belowS 8 sx := by unfold gNumberS; rw [if_neg hk1]
          have HN := Lib.hid hn
          have HNS := Lib.hid hnS
          clear hn hnS
          have hbb := belowN_le 8 sx (by omega)
          have cc := rdbelow_any w0 wr g 8 sx hst1.dp (by omega)
          generalize belowN 8 sx = q at *
          go_wp2_with (go_at_call 25; (with_reducible refine cc.mono ?_); rintro e w2 ⟨rfl, hd2, hx2⟩
                       have hst2 := hst1.x hd2 hx2 hrg hcg Cm.zero
                       have hM2 := hM1.x hx2 hgi
                       have ci := hst2.blk.cell 5
                       have fi := hst2.blk.frozen 5)
          go_roundw
          case rel => exact ⟨pos + 1, by go_num, hpl, by rw [HS.out, hfN, field78, HN.out, HNS.out]; exact CmdIR.mk vd op nm fr to_ vk (hst2.set_ hz1 hz2 hrc hgc 5 _ _) ⟨(hM2.set_ (Nat.le_refl _) _).data, (hM2.set_ (Nat.le_refl _) _).scope⟩⟩
          case measure => simp [intOf]; omega
      · have hfN : f.toNat = 84 := by omega
        have cc := rdata_any w0 wr g sx (m + 1) hst1.dp
        go_wp2_with (go_at_call 91; (with_reducible refine cc.mono ?_); rintro e w2 ⟨v2, rfl, hr2, hd2, hx2⟩
                     have hst2 := hst1.x hd2 hx2 hrg hcg Cm.zero
                     have hM2 := hM1.x hx2 hgi
                     have hr3 := (hr2.mono (K' := KB gc w2) fun b hb => ⟨Nat.lt_of_lt_of_le hlt1 hb.1, hb.2⟩)
                     obtain ⟨A2, k2, rfl, _, _⟩ := hr2
                     have ci := hst2.blk.cell 6
                     have fi := hst2.blk.frozen 6)
        go_roundw
        case rel => exact ⟨pos + 1, by go_num, hpl, by rw [HS.out, hfN]; exact CmdIR.mk _ op nm fr to_ vk (hst2.set_ hz1 hz2 hrc hgc 6 _ _) ⟨(CmM.set_ (x := ⟨m + 1, xa, xb, xc, xd, xn, gData (m + 1) sx, xs, xw, xe⟩) ⟨hr3, hM2.scope⟩ (Nat.le_refl _) _).data, (hM2.set_ (Nat.le_refl _) _).scope⟩⟩
        case measure => simp [intOf]; omega
      · have hfN : f.toNat = 83 := by omega
        have ci := hst1.blk.cell 7
        have fi := hst1.blk.frozen 7
        go_wp2
        go_roundw
        case rel => exact ⟨pos + 1, by go_num, hpl, by rw [HS.out, hfN]; exact CmdIR.mk vd op nm fr to_ vk (hst1.set_ hz1 hz2 hrc hgc 7 _ _) ⟨(hM1.set_ (Nat.le_refl _) _).data, (hM1.set_ (Nat.le_refl _) _).scope⟩⟩
        case measure => simp [intOf]; omega
      · have hfN : f.toNat = 75 := by omega
        have ci := hst1.blk.cell 8
        have fi := hst1.blk.frozen 8
        go_wp2
        go_roundw
        case rel => exact ⟨pos + 1, by go_num, hpl, by rw [HS.out, hfN]; exact CmdIR.mk vd op nm fr to_ vk (hst1.set_ hz1 hz2 hrc hgc 8 _ _) ⟨(hM1.set_ (Nat.le_refl _) _).data, (hM1.set_ (Nat.le_refl _) _).scope⟩⟩
        case measure => simp [intOf]; omega
      · have hfN : f.toNat = 88 := by omega
        have cc := rscope_any w0 wr g sx hst1.dp
        go_wp2_with (go_at_call 92; (with_reducible refine cc.mono ?_); rintro e w2 ⟨v2, rfl, hr2, hd2, hx2⟩
                     have hst2 := hst1.x hd2 hx2 hrg hcg Cm.zero
                     have hM2 := hM1.x hx2 hgi
                     have hr3 := RdSc.mono (K' := KB gc w2) (fun b hb => ⟨Nat.lt_of_lt_of_le hlt1 hb.1, hb.2⟩) _ _ hr2
                     obtain ⟨op2, nm2, fr2, to2, A2, n2, k2, rfl⟩ := hr3.agg
                     have c9 := hst2.blk.cell 9
                     have f9 := hst2.blk.frozen 9
                     have c10 := hst2.blk.cell 10
                     have f10 := hst2.blk.frozen 10
                     have c11 := hst2.blk.cell 11
                     have f11 := hst2.blk.frozen 11
                     have c12 := hst2.blk.cell 12
                     have f12 := hst2.blk.frozen 12
                     have c13 := hst2.blk.cell 13
                     have f13 := hst2.blk.frozen 13)
        go_roundw
        case rel => exact ⟨pos + 1, by go_num, hpl, by rw [HS.out, hfN]; exact CmdIR.mk vd op2 nm2 fr2 to2 _ (((((hst2.set_ hz1 hz2 hrc hgc 9 _ Cm.zero).set_ hz1 hz2 hrc hgc 10 _ Cm.zero).set_ hz1 hz2 hrc hgc 11 _ Cm.zero).set_ hz1 hz2 hrc hgc 12 _ Cm.zero).set_ hz1 hz2 hrc hgc 13 _ _) ((((((CmM.mk (x := ⟨m + 1, xa, xb, xc, xd, xn, xl, xs, xw, gScope sx⟩) hM2.data hr3).set_ (p := ⟨gc, 9, none⟩) (Nat.le_refl _) _).set_ (p := ⟨gc, 10, none⟩) (Nat.le_refl _) _).set_ (p := ⟨gc, 11, none⟩) (Nat.le_refl _) _).set_ (p := ⟨gc, 12, none⟩) (Nat.le_refl _) _).set_ (p := ⟨gc, 13, none⟩) (Nat.le_refl _) _)⟩
        case measure => simp [intOf]; omega
    · obtain rfl : pos = (fieldsR (m + 1).toNat).length := by omega
      rcases hX : cmAtR (32 * (i + 1)) (m + 1) (belowS 22 s) (fieldsR (m + 1).toNat).length with ⟨⟨xk, xa, xb, xc, xd, xn, xl, xs, xw, xe⟩, sx⟩
      rw [hX] at hst1 hM1
      have HX := Lib.hid hX
      clear hX
      obtain ⟨A2, k2, rfl, _, _⟩ := hM1.data
      obtain ⟨_, _, _, _, A3, n3, k3, e3⟩ := hM1.scope.agg
      obtain rfl : vk = .slice A3 n3 k3 := by injection e3 with e3; simp at e3; exact e3.2.2.2.2
      clear e3
      obtain ⟨e0, e1, e2, e3, e4, e5, e6, e7, e8, e9, e10, e11, e12, e13⟩ := cm_cells hst1.blk
      obtain ⟨r0, r1, r2, r3, r4, r5, r6, r7, r8, r9, r10, r11, r12, r13⟩ := cm_cells hst1.res
      obtain ⟨i0, i1, i2, i3, i4, i5, i6, i7, i8, i9, i10, i11, i12, i13⟩ := cm_ice hst1.res
      have hnl : ¬ ((fieldsR (m + 1).toNat).length : Int) < ((⟨(fieldsR (m + 1).toNat).toArray⟩ : ByteArray).size : Int) := by rw [HSZ.out]; omega
      go_wp2
      have hZ := hst1.res.set14 (y0 := .int .i64 xk) (y1 := .string xa) (y2 := .string xb) (y3 := .string xc) (y4 := .string xd) (y5 := .int .i64 xn) (y6 := .slice A2 xl.length k2) (y7 := .int .u64 xs) (y8 := .int .u64 xw) (y9 := .int .i64 op) (y10 := .string nm) (y11 := .int .i64 fr) (y12 := .int .i64 to_) (y13 := .slice A3 n3 k3)
      obtain ⟨z0, z1, z2, z3, z4, z5, z6, z7, z8, z9, z10, z11, z12, z13⟩ := cm_cells hZ
      refine bodyPost_ret (v := .agg (cmC xk xa xb xc xd xn (.slice A2 xl.length k2) xs xw op nm fr to_ (.slice A3 n3 k3))) (by simp [results, Tryd.results63, go_sem, z0, z1, z2, z3, z4, z5, z6, z7, z8, z9, z10, z11, z12, z13]) rfl ⟨_, rfl, ?_, by rw [HX.out]; exact hst1.dp.set14 hz0 (by omega), hst1.grx.set14 (Nat.le_refl _)⟩
      rw [HX.out]
      exact (CmM.rd (hM1.set14 (gx := w.heap.size) (by omega))).mono fun b hb => ⟨by have := hb.1; omega, hb.2⟩
end Go.Proofs.YteoidkjiigjlaaaDoor
