/- The program's dice: a command. -/
import Derived.Test.YteoidkjiigjlaaaDoorGenC
import Derived.Test.YteoidkjiigjlaaaDoorGenF
import Derived.Lib.OthersKept
namespace Go.Proofs.YteoidkjiigjlaaaDoor
open Go Go.RowKit

/-- Blocks behind a block. -/
abbrev KB (it : Nat) (w : World) (b : Nat) : Prop := it < b ∧ b < w.heap.size
abbrev cmC (k : Int) (a b c d : ByteArray) (n : Int) (vd : Value) (salt draw op : Int) (nm : ByteArray) (fr to_ : Int) (vk : Value) : Array Value :=
  #[.int .i64 k, .string a, .string b, .string c, .string d, .int .i64 n, vd, .int .u64 salt, .int .u64 draw, .int .i64 op, .string nm, .int .i64 fr, .int .i64 to_, vk]
/-- The parts of a command that lead to memory. -/
structure CmM (w : World) (K : Nat → Prop) (x : Cm) (vd : Value) (op : Int) (nm : ByteArray) (fr to_ : Int) (vk : Value) : Prop where
  data : RkB w K vd x.data
  scope : RdSc w K x.scope (.agg #[.int .i64 op, .string nm, .int .i64 fr, .int .i64 to_, vk])
theorem CmM.rd {w : World} {K : Nat → Prop} {x : Cm} {vd : Value} {op fr to_ : Int} {nm : ByteArray} {vk : Value} (h : CmM w K x vd op nm fr to_ vk) :
    RdCm w K x (.agg (cmC x.kind x.a x.b x.c x.d x.n vd x.salt x.draw op nm fr to_ vk)) := by
  obtain ⟨h1, h2⟩ := h
  rcases hs : x.scope with ⟨op', nm', fr', to', ks⟩
  rw [hs] at h2
  obtain ⟨A, c, vs, e, hc, hr, hl⟩ := h2.form
  simp only [Value.agg.injEq, Array.mk.injEq, List.cons.injEq, and_true, Value.int.injEq, true_and, Value.string.injEq] at e
  obtain ⟨rfl, rfl, rfl, rfl, rfl⟩ := e
  exact ⟨vd, A, c, vs, op, nm, fr, to_, ks, hs, rfl, h1, hc, hr, hl⟩
theorem CmM.x {w w' : World} {g it : Nat} {x : Cm} {vd : Value} {op fr to_ : Int} {nm : ByteArray} {vk : Value} (h : CmM w (KB it w) x vd op nm fr to_ vk) (hx : GrX w w' g) (hg : g ≤ it) : CmM w' (KB it w') x vd op nm fr to_ vk := by
  have hk : ∀ p : Addr, KB it w p.block → w'.cell? p = w.cell? p := fun p hp => World.cell?_of_block (hx.block p.block hp.2 fun e => by injection e with e; have := hp.1; omega)
  have hm : ∀ b, KB it w b → KB it w' b := fun b hb => ⟨hb.1, Nat.lt_of_lt_of_le hb.2 hx.size⟩
  exact ⟨(h.data.keep hk).mono hm, RdSc.mono hm _ _ (RdSc.keep hk _ _ h.scope)⟩
theorem CmM.set_ {w : World} {it : Nat} {x : Cm} {vd : Value} {op fr to_ : Int} {nm : ByteArray} {vk : Value} (h : CmM w (KB it w) x vd op nm fr to_ vk) {p : Addr} (hp : p.block ≤ it) (u : Value) : CmM (w.setCell p u) (KB it (w.setCell p u)) x vd op nm fr to_ vk := by
  have hk : ∀ q : Addr, KB it w q.block → (w.setCell p u).cell? q = w.cell? q := fun q hq => World.cell?_setCell_other w p q u (fun e => by subst e; have := hq.1; omega)
  have hm : ∀ b, KB it w b → KB it (w.setCell p u) b := fun b hb => ⟨hb.1, by simpa using hb.2⟩
  exact ⟨(h.data.keep hk).mono hm, RdSc.mono hm _ _ (RdSc.keep hk _ _ h.scope)⟩
theorem iterAt_cell (w : World) (it : Nat) (s : ByteArray) (pos : Nat) (p : Addr) (h : p.block ≠ it) : (w.iterAt it s pos).cell? p = w.cell? p :=
  World.cell?_of_block (Lib.iterAt_other w it p.block s pos h)
theorem CmM.iter {w : World} {it : Nat} {x : Cm} {vd : Value} {op fr to_ : Int} {nm : ByteArray} {vk : Value} (h : CmM w (KB it w) x vd op nm fr to_ vk) (s : ByteArray) (pos : Nat) : CmM (w.iterAt it s pos) (KB it (w.iterAt it s pos)) x vd op nm fr to_ vk := by
  have hk : ∀ q : Addr, KB it w q.block → (w.iterAt it s pos).cell? q = w.cell? q := fun q hq => iterAt_cell w it s pos q (by have := hq.1; omega)
  have hm : ∀ b, KB it w b → KB it (w.iterAt it s pos) b := fun b hb => ⟨hb.1, by rw [Lib.iterAt_size]; exact hb.2⟩
  exact ⟨(h.data.keep hk).mono hm, RdSc.mono hm _ _ (RdSc.keep hk _ _ h.scope)⟩
theorem Blk.iter {w : World} {g it : Nat} {T : TypeId} {cs : Array Value} (h : Blk w g T cs) (hn : g ≠ it) (s : ByteArray) (pos : Nat) : Blk (w.iterAt it s pos) g T cs := (Lib.iterAt_other w it g s pos hn).trans h
theorem GrX.iter {w w' : World} {g it : Nat} (h : GrX w w' g) (hi : w.heap.size ≤ it) (s : ByteArray) (pos : Nat) : GrX w (w'.iterAt it s pos) g :=
  ⟨h.os, h.tape, h.output, by rw [Lib.iterAt_size]; exact h.size, fun k hk hne => (Lib.iterAt_other w' it k s pos (by omega)).trans (h.block k hk hne)⟩
theorem DP.iter {w0 w : World} {g it : Nat} {s : Int} (h : DP w0 g w s) (hi : w0.heap.size ≤ it) (hn : g ≠ it) (t : ByteArray) (pos : Nat) : DP w0 g (w.iterAt it t pos) s :=
  ⟨h.pow, Lib.below_iterAt h.gr hi t pos, h.ge, h.dice.1.iter hn t pos, h.dice.2⟩
theorem cm_cells {W : World} {g : Nat} {T : TypeId} {x0 x1 x2 x3 x4 x5 x6 x7 x8 x9 x10 x11 x12 x13 : Value} (h : Blk W g T #[x0, x1, x2, x3, x4, x5, x6, x7, x8, x9, x10, x11, x12, x13]) : W.cell? ⟨g, 0, none⟩ = some x0 ∧ W.cell? ⟨g, 1, none⟩ = some x1 ∧ W.cell? ⟨g, 2, none⟩ = some x2 ∧ W.cell? ⟨g, 3, none⟩ = some x3 ∧ W.cell? ⟨g, 4, none⟩ = some x4 ∧ W.cell? ⟨g, 5, none⟩ = some x5 ∧ W.cell? ⟨g, 6, none⟩ = some x6 ∧ W.cell? ⟨g, 7, none⟩ = some x7 ∧ W.cell? ⟨g, 8, none⟩ = some x8 ∧ W.cell? ⟨g, 9, none⟩ = some x9 ∧ W.cell? ⟨g, 10, none⟩ = some x10 ∧ W.cell? ⟨g, 11, none⟩ = some x11 ∧ W.cell? ⟨g, 12, none⟩ = some x12 ∧ W.cell? ⟨g, 13, none⟩ = some x13 :=
  ⟨h.cell 0, h.cell 1, h.cell 2, h.cell 3, h.cell 4, h.cell 5, h.cell 6, h.cell 7, h.cell 8, h.cell 9, h.cell 10, h.cell 11, h.cell 12, h.cell 13⟩
theorem cm_ice {W : World} {g : Nat} {T : TypeId} {cs : Array Value} (h : Blk W g T cs) : W.frozen? ⟨g, 0, none⟩ = false ∧ W.frozen? ⟨g, 1, none⟩ = false ∧ W.frozen? ⟨g, 2, none⟩ = false ∧ W.frozen? ⟨g, 3, none⟩ = false ∧ W.frozen? ⟨g, 4, none⟩ = false ∧ W.frozen? ⟨g, 5, none⟩ = false ∧ W.frozen? ⟨g, 6, none⟩ = false ∧ W.frozen? ⟨g, 7, none⟩ = false ∧ W.frozen? ⟨g, 8, none⟩ = false ∧ W.frozen? ⟨g, 9, none⟩ = false ∧ W.frozen? ⟨g, 10, none⟩ = false ∧ W.frozen? ⟨g, 11, none⟩ = false ∧ W.frozen? ⟨g, 12, none⟩ = false ∧ W.frozen? ⟨g, 13, none⟩ = false :=
  ⟨h.frozen 0, h.frozen 1, h.frozen 2, h.frozen 3, h.frozen 4, h.frozen 5, h.frozen 6, h.frozen 7, h.frozen 8, h.frozen 9, h.frozen 10, h.frozen 11, h.frozen 12, h.frozen 13⟩
/-- A command being thrown: its block gc, the iterator behind it. -/
structure CmdSt (w0 w wr : World) (g gr gc it : Nat) (x : Cm × Int) (cs : Array Value) : Prop where
  dp : DP w0 g wr x.2
  grx : GrX w wr g
  res : Blk wr gr 87 (cmC 0 ⟨#[]⟩ ⟨#[]⟩ ⟨#[]⟩ ⟨#[]⟩ 0 (.slice none 0 0) 0 0 0 ⟨#[]⟩ 0 0 (.slice none 0 0))
  blk : Blk wr gc 87 cs
theorem CmdSt.x {w0 w wr w' : World} {g gr gc it : Nat} {x : Cm × Int} {s' : Int} {cs : Array Value} (h : CmdSt w0 w wr g gr gc it x cs) (hd : DP w0 g w' s') (hx : GrX wr w' g) (h1 : gr ≠ g) (h2 : gc ≠ g) (y : Cm) : CmdSt w0 w w' g gr gc it (y, s') cs :=
  ⟨hd, h.grx.trans hx, h.res.grown hx (by intro e; injection e with e; exact h1 e), h.blk.grown hx (by intro e; injection e with e; exact h2 e)⟩
theorem CmdSt.set_ {w0 w wr : World} {g gr gc it : Nat} {x : Cm × Int} {cs : Array Value} (h : CmdSt w0 w wr g gr gc it x cs) (h0 : w0.heap.size ≤ gc) (h1 : w.heap.size ≤ gc) (h2 : gr ≠ gc) (h3 : g ≠ gc) (i : Nat) (u : Value) (y : Cm) :
    CmdSt w0 w (wr.setCell ⟨gc, i, none⟩ u) g gr gc it (y, x.2) (cs.setIfInBounds i u) :=
  ⟨h.dp.far h0 h3 u, h.grx.far h1 u, h.res.far h2 u, h.blk.set_ i u⟩
theorem CmdSt.iter {w0 w wr : World} {g gr gc it : Nat} {x : Cm × Int} {cs : Array Value} (h : CmdSt w0 w wr g gr gc it x cs) (h0 : w0.heap.size ≤ it) (h1 : w.heap.size ≤ it) (h2 : gr ≠ it) (h3 : g ≠ it) (h4 : gc ≠ it) (s : ByteArray) (pos : Nat) :
    CmdSt w0 w (wr.iterAt it s pos) g gr gc it x cs :=
  ⟨h.dp.iter h0 h3 s pos, h.grx.iter h1 s pos, h.res.iter h2 s pos, h.blk.iter h4 s pos⟩
abbrev set14w (w : World) (g : Nat) (y0 y1 y2 y3 y4 y5 y6 y7 y8 y9 y10 y11 y12 y13 : Value) : World := ((((((((((((((w.setCell ⟨g, 0, none⟩ y0).setCell ⟨g, 1, none⟩ y1).setCell ⟨g, 2, none⟩ y2).setCell ⟨g, 3, none⟩ y3).setCell ⟨g, 4, none⟩ y4).setCell ⟨g, 5, none⟩ y5).setCell ⟨g, 6, none⟩ y6).setCell ⟨g, 7, none⟩ y7).setCell ⟨g, 8, none⟩ y8).setCell ⟨g, 9, none⟩ y9).setCell ⟨g, 10, none⟩ y10).setCell ⟨g, 11, none⟩ y11).setCell ⟨g, 12, none⟩ y12).setCell ⟨g, 13, none⟩ y13)
theorem Blk.set14 {w : World} {g : Nat} {T : TypeId} {x0 x1 x2 x3 x4 x5 x6 x7 x8 x9 x10 x11 x12 x13 y0 y1 y2 y3 y4 y5 y6 y7 y8 y9 y10 y11 y12 y13 : Value} (h : Blk w g T #[x0, x1, x2, x3, x4, x5, x6, x7, x8, x9, x10, x11, x12, x13]) : Blk (set14w w g y0 y1 y2 y3 y4 y5 y6 y7 y8 y9 y10 y11 y12 y13) g T #[y0, y1, y2, y3, y4, y5, y6, y7, y8, y9, y10, y11, y12, y13] := by
  simpa using ((((((((((((((h.set_ 0 _).set_ 1 _).set_ 2 _).set_ 3 _).set_ 4 _).set_ 5 _).set_ 6 _).set_ 7 _).set_ 8 _).set_ 9 _).set_ 10 _).set_ 11 _).set_ 12 _).set_ 13 _)
theorem GrX.set14 {w w' : World} {g gx : Nat} {y0 y1 y2 y3 y4 y5 y6 y7 y8 y9 y10 y11 y12 y13 : Value} (h : GrX w w' g) (hg : w.heap.size ≤ gx) : GrX w (set14w w' gx y0 y1 y2 y3 y4 y5 y6 y7 y8 y9 y10 y11 y12 y13) g := ((((((((((((((h.far hg _).far hg _).far hg _).far hg _).far hg _).far hg _).far hg _).far hg _).far hg _).far hg _).far hg _).far hg _).far hg _).far hg _)
theorem DP.set14 {w0 w : World} {g gx : Nat} {s : Int} {y0 y1 y2 y3 y4 y5 y6 y7 y8 y9 y10 y11 y12 y13 : Value} (h : DP w0 g w s) (hg : w0.heap.size ≤ gx) (hn : g ≠ gx) : DP w0 g (set14w w gx y0 y1 y2 y3 y4 y5 y6 y7 y8 y9 y10 y11 y12 y13) s := ((((((((((((((h.far hg hn _).far hg hn _).far hg hn _).far hg hn _).far hg hn _).far hg hn _).far hg hn _).far hg hn _).far hg hn _).far hg hn _).far hg hn _).far hg hn _).far hg hn _).far hg hn _)
theorem CmM.set14 {w : World} {it gx : Nat} {x : Cm} {vd : Value} {op fr to_ : Int} {nm : ByteArray} {vk : Value} {y0 y1 y2 y3 y4 y5 y6 y7 y8 y9 y10 y11 y12 y13 : Value} (h : CmM w (KB it w) x vd op nm fr to_ vk) (hp : gx ≤ it) : CmM (set14w w gx y0 y1 y2 y3 y4 y5 y6 y7 y8 y9 y10 y11 y12 y13) (KB it (set14w w gx y0 y1 y2 y3 y4 y5 y6 y7 y8 y9 y10 y11 y12 y13)) x vd op nm fr to_ vk := ((((((((((((((h.set_ hp _).set_ hp _).set_ hp _).set_ hp _).set_ hp _).set_ hp _).set_ hp _).set_ hp _).set_ hp _).set_ hp _).set_ hp _).set_ hp _).set_ hp _).set_ hp _)
/-- The command behind some fields. -/
def cmAt (salt k s : Int) (pos : Nat) : Cm × Int := (((fieldsP k.toNat).take pos).map UInt8.toNat).foldl (fun x f => fieldP salt f x) (Cm.ofKind k, s)
theorem cmAt_zero (salt k s : Int) : cmAt salt k s 0 = (Cm.ofKind k, s) := rfl
theorem cmAt_succ (salt k s : Int) (pos : Nat) (f : UInt8) (h : (fieldsP k.toNat)[pos]? = some f) : cmAt salt k s (pos + 1) = fieldP salt f.toNat (cmAt salt k s pos) := by
  unfold cmAt
  rw [take_next h, List.map_append, List.foldl_append]
  rfl
theorem fold_kind (salt : Int) : ∀ (l : List Nat) (x : Cm × Int), (l.foldl (fun x f => fieldP salt f x) x).1.kind = x.1.kind
  | [], _ => rfl
  | f :: l, x => by rw [List.foldl_cons, fold_kind salt l, fieldP_kind]
theorem cmAt_kind (salt k s : Int) (pos : Nat) : (cmAt salt k s pos).1.kind = k := fold_kind salt _ _
theorem cmAt_end (salt s : Int) : cmAt salt (belowN 22 s + 1) (belowS 22 s) (fieldsP (belowN 22 s + 1).toNat).length = cmdD salt s := by
  unfold cmAt cmdD
  rw [List.take_length]
/-- What the loop holds. -/
def CmdI (w0 w wr : World) (g gr gc it : Nat) (x : Cm × Int) : Prop := ∃ vd op nm fr to_ vk, CmdSt w0 w wr g gr gc it x (cmC x.1.kind x.1.a x.1.b x.1.c x.1.d x.1.n vd x.1.salt x.1.draw op nm fr to_ vk) ∧ CmM wr (KB it wr) x.1 vd op nm fr to_ vk

theorem hit_x {w w' : World} {it g : Nat} {o : Obj} (h : w.heap[it]? = some o) (hx : GrX w w' g) (hn : it ≠ g) : w'.heap[it]? = some o :=
  (hx.block it (Array.getElem?_eq_some_iff.1 h).1 (by intro e; injection e with e; exact hn e)).trans h
theorem hit_set {w : World} {it gc : Nat} {o : Obj} (h : w.heap[it]? = some o) (hn : it ≠ gc) (i : Nat) (u : Value) : (w.setCell ⟨gc, i, none⟩ u).heap[it]? = some o :=
  (Below.heap_setCell w ⟨gc, i, none⟩ u it hn).trans h
theorem RdSc.agg {w : World} {K : Nat → Prop} {x : Sc} {v : Value} (h : RdSc w K x v) : ∃ op nm fr to_ A n c, v = .agg #[.int .i64 op, .string nm, .int .i64 fr, .int .i64 to_, .slice A n c] := by
  obtain ⟨op, nm, fr, to_, ks⟩ := x
  obtain ⟨A, c, vs, e, _⟩ := h.form
  exact ⟨_, _, _, _, _, _, _, e⟩
abbrev Cm.zero : Cm := Cm.ofKind 0
/-- A place behind the iterator's. -/
theorem iter_left {wr : World} {it pos : Nat} {S : ByteArray} (hit : wr.heap[it]? = some (.stringIter S pos)) : wr.iterPos it = pos := by simp only [World.iterPos, hit]

theorem CmdI.mk {w0 w wr : World} {g gr gc it : Nat} {x : Cm × Int} (vd : Value) (op : Int) (nm : ByteArray) (fr to_ : Int) (vk : Value) (h1 : CmdSt w0 w wr g gr gc it x (cmC x.1.kind x.1.a x.1.b x.1.c x.1.d x.1.n vd x.1.salt x.1.draw op nm fr to_ vk)) (h2 : CmM wr (KB it wr) x.1 vd op nm fr to_ vk) : CmdI w0 w wr g gr gc it x :=
  ⟨vd, op, nm, fr, to_, vk, h1, h2⟩
set_option maxRecDepth 100000 in
set_option maxHeartbeats 4000000 in
theorem gcommand_any (w0 w : World) (g : Nat) (s salt : Int) (h : DP w0 g w s) (hs0 : 0 ≤ salt) (hs1 : salt ≤ 100000) :
    Calls Tryd.prog 62 #[.pointer (some ⟨g, 0, none⟩), .int .u64 salt] w fun e w' => ∃ v, e = .returned v ∧ RdCm w' (KN w w') (cmdD salt s).1 v ∧ DP w0 g w' (cmdD salt s).2 ∧ GrX w w' g := by
  have hgw := h.lt
  have hz0 : w0.heap.size ≤ w.heap.size := h.gr.size
  have hb := belowN_le 22 s (by omega)
  have cB := dbelow_any w0 _ g 22 s (h.grow (Gr.alloc w (.cells (cmC 0 ⟨#[]⟩ ⟨#[]⟩ ⟨#[]⟩ ⟨#[]⟩ 0 (.slice none 0 0) 0 0 0 ⟨#[]⟩ 0 0 (.slice none 0 0)) 87))) (by omega)
  have hE := cmAt_end salt s
  rw [← hE]
  clear hE
  generalize belowN 22 s = m at *
  have hm1 : IntKind.i64.wrap (m + 1) = m + 1 := IntWalk.i64_in _ (by omega)
  go_enter Tryd.func62, Tryd.ntmps62
  go_wp2_with (first
    | (go_at_call 24; (with_reducible refine cB.mono ?_); rintro e w1 ⟨rfl, hd1, hx1⟩)
    | (go_at_call 79; (with_reducible refine (fieldsP_any (m + 1) _ (by omega) (by omega)).mono ?_); rintro e w2 ⟨rfl, rfl⟩))
  have hz1 : w0.heap.size ≤ w1.heap.size := hd1.gr.size
  have hzw : w.heap.size + 1 ≤ w1.heap.size := by have := hx1.size; simpa using this
  have hz2 : w.heap.size ≤ w1.heap.size := by omega
  have hrg : w.heap.size ≠ g := by omega
  have hcg : w1.heap.size ≠ g := by omega
  have hgc : g ≠ w1.heap.size := by omega
  have hrc : w.heap.size ≠ w1.heap.size := by omega
  have hig : w1.heap.size + 1 ≠ g := by omega
  have hic : w1.heap.size + 1 ≠ w1.heap.size := by omega
  have hgi : g ≤ w1.heap.size + 1 := by omega
  have hS0 : (⟨(fieldsP (m + 1).toNat).toArray⟩ : ByteArray).size = (fieldsP (m + 1).toNat).length := rfl
  have HSZ := Lib.hid hS0
  clear hS0
  go_loopw [7] (fun _ wr => ∃ pos : Nat, pos ≤ (fieldsP (m + 1).toNat).length ∧ wr.heap[w1.heap.size + 1]? = some (.stringIter ⟨(fieldsP (m + 1).toNat).toArray⟩ pos) ∧ CmdI w0 w wr g w.heap.size w1.heap.size (w1.heap.size + 1) (cmAt salt (m + 1) (belowS 22 s) pos)) (fun _ wr => (fieldsP (m + 1).toNat).length - wr.iterPos (w1.heap.size + 1))
  case atStart =>
    refine ⟨0, Nat.zero_le _, ?_, CmdI.mk (.slice none 0 0) 0 ⟨#[]⟩ 0 0 (.slice none 0 0) ⟨(hd1.grow (Gr.alloc _ _)).grow (Gr.alloc _ _), (((GrX.of_gr (Gr.alloc w _) g).trans hx1).new _).new _, (((Blk.new w 87 _).grown hx1 (by intro e; injection e with e; exact hrg e)).alloc _).alloc _, (Blk.new w1 87 _).alloc _⟩ ⟨RkB.nil _ _, rdSc_leaf _ _ _ _ _ _⟩⟩
    have := World.iter_heap (w1.alloc (.cells (cmC (m + 1) ⟨#[]⟩ ⟨#[]⟩ ⟨#[]⟩ ⟨#[]⟩ 0 (.slice none 0 0) 0 0 0 ⟨#[]⟩ 0 0 (.slice none 0 0)) 87)) ⟨(fieldsP (m + 1).toNat).toArray⟩ 0
    simpa using this
  case round =>
    obtain ⟨pos, hp, hit, vd, op, nm, fr, to_, vk, hst, hM⟩ := hrel
    have hpS : (wr.iterPos (w1.heap.size + 1)) = pos := iter_left hit
    by_cases hlt : pos < (fieldsP (m + 1).toNat).length
    · obtain ⟨f, hf⟩ : ∃ f, (fieldsP (m + 1).toNat)[pos]? = some f := ⟨_, List.getElem?_eq_getElem hlt⟩
      have e22 : (m + 1).toNat = m.toNat + 1 := by omega
      have hmem := fieldsP_mem m.toNat (by omega)
      rw [← e22, List.all_eq_true] at hmem
      have hmf := hmem f (List.mem_of_getElem? hf)
      clear hmem e22
      simp only [Bool.or_eq_true, beq_iff_eq, or_assoc] at hmf
      have hF : (f.toNat : Int) = 66 ∨ (f.toNat : Int) = 67 ∨ (f.toNat : Int) = 68 ∨ (f.toNat : Int) = 78 ∨ (f.toNat : Int) = 84 ∨ (f.toNat : Int) = 83 ∨ (f.toNat : Int) = 75 ∨ (f.toNat : Int) = 88 ∨ (f.toNat : Int) = 99 ∨ (f.toNat : Int) = 115 ∨ (f.toNat : Int) = 104 ∨ (f.toNat : Int) = 114 := by
        rcases hmf with h | h | h | h | h | h | h | h | h | h | h | h <;> (subst h; decide)
      clear hmf
      have hpSz : pos < (⟨(fieldsP (m + 1).toNat).toArray⟩ : ByteArray).size := by rw [HSZ.out]; exact hlt
      have hSp : (⟨(fieldsP (m + 1).toNat).toArray⟩ : ByteArray)[pos]'hpSz = f := (List.getElem?_eq_some_iff.1 hf).2
      have hnx : ∀ ty, (Instr.next (.pointer (some ⟨w1.heap.size + 1, 0, none⟩)) true ty).run Tryd.prog wr = .ok (.tuple #[.bool true, .int .i64 pos, .int .i32 (f.toNat : Int)]) (wr.iterAt (w1.heap.size + 1) ⟨(fieldsP (m + 1).toNat).toArray⟩ (pos + 1)) := by
        intro ty
        rw [Lib.run_next_ascii_at wr (w1.heap.size + 1) _ pos ty hit hpSz (by rw [hSp]; omega), hSp]
      have hst1 := hst.iter (by omega) (by omega) (by omega) hig.symm (by omega) ⟨(fieldsP (m + 1).toNat).toArray⟩ (pos + 1)
      have hM1 := hM.iter ⟨(fieldsP (m + 1).toNat).toArray⟩ (pos + 1)
      have hit1 := Lib.iterAt_heap wr (w1.heap.size + 1) _ pos (pos + 1) hit
      have hlt1 := (Array.getElem?_eq_some_iff.1 hit1).1
      have HS := Lib.hid (cmAt_succ salt (m + 1) (belowS 22 s) pos f hf)
      have hk := cmAt_kind salt (m + 1) (belowS 22 s) pos
      have HME : ∀ W' : World, W'.heap[w1.heap.size + 1]? = some (.stringIter ⟨(fieldsP (m + 1).toNat).toArray⟩ (pos + 1)) → (fieldsP (m + 1).toNat).length - W'.iterPos (w1.heap.size + 1) < (fieldsP (m + 1).toNat).length - wr.iterPos (w1.heap.size + 1) := by
        intro W' h'
        rw [iter_left h', hpS]
        omega
      have hpl : pos + 1 ≤ (fieldsP (m + 1).toNat).length := hlt
      clear hit hst hM hpS hSp hf
      generalize cmAt salt (m + 1) (belowS 22 s) pos = X at *
      obtain ⟨⟨xk, xa, xb, xc, xd, xn, xl, xs, xw, xe⟩, sx⟩ := X
      obtain rfl : xk = m + 1 := hk
      generalize wr.iterAt (w1.heap.size + 1) ⟨(fieldsP (m + 1).toNat).toArray⟩ (pos + 1) = W1 at *
      have c0 : W1.cell? ⟨w1.heap.size, 0, none⟩ = some (.int .i64 (m + 1)) := hst1.blk.cell 0
      generalize hFe : (f.toNat : Int) = F at hF hnx
      rcases hF with rfl | rfl | rfl | rfl | rfl | rfl | rfl | rfl | rfl | rfl | rfl | rfl
      · have hfN : f.toNat = 66 := by omega
        have cc := gsecond_any w0 W1 g sx (m + 1) hst1.dp (by omega) (by omega)
        go_wp2_with (go_at_call 80; (with_reducible refine cc.mono ?_); rintro e w2 ⟨rfl, hd2, hx2⟩
                     have hst2 := hst1.x hd2 hx2 hrg hcg Cm.zero
                     have hM2 := hM1.x hx2 hgi
                     have ci := hst2.blk.cell 2
                     have fi := hst2.blk.frozen 2)
        go_roundw
        case rel => exact ⟨pos + 1, hpl, hit_set (hit_x hit1 hx2 hig) hic _ _, by rw [HS.out, hfN]; exact CmdI.mk vd op nm fr to_ vk (hst2.set_ hz1 hz2 hrc hgc 2 _ _) ⟨(hM2.set_ (Nat.le_succ _) _).data, (hM2.set_ (Nat.le_succ _) _).scope⟩⟩
        case measure => exact HME _ (hit_set (hit_x hit1 hx2 hig) hic _ _)
      · have hfN : f.toNat = 67 := by omega
        have cc := gname_any w0 W1 g sx hst1.dp 115 (.inr (.inl rfl))
        go_wp2_with (go_at_call 81; (with_reducible refine cc.mono ?_); rintro e w2 ⟨rfl, hd2, hx2⟩
                     have hst2 := hst1.x hd2 hx2 hrg hcg Cm.zero
                     have hM2 := hM1.x hx2 hgi
                     have ci := hst2.blk.cell 3
                     have fi := hst2.blk.frozen 3)
        go_roundw
        case rel => exact ⟨pos + 1, hpl, hit_set (hit_x hit1 hx2 hig) hic _ _, by rw [HS.out, hfN]; exact CmdI.mk vd op nm fr to_ vk (hst2.set_ hz1 hz2 hrc hgc 3 _ _) ⟨(hM2.set_ (Nat.le_succ _) _).data, (hM2.set_ (Nat.le_succ _) _).scope⟩⟩
        case measure => exact HME _ (hit_set (hit_x hit1 hx2 hig) hic _ _)
      · have hfN : f.toNat = 68 := by omega
        have cc := gclass_any w0 W1 g sx hst1.dp
        go_wp2_with (go_at_call 82; (with_reducible refine cc.mono ?_); rintro e w2 ⟨rfl, hd2, hx2⟩
                     have hst2 := hst1.x hd2 hx2 hrg hcg Cm.zero
                     have hM2 := hM1.x hx2 hgi
                     have ci := hst2.blk.cell 4
                     have fi := hst2.blk.frozen 4)
        go_roundw
        case rel => exact ⟨pos + 1, hpl, hit_set (hit_x hit1 hx2 hig) hic _ _, by rw [HS.out, hfN]; exact CmdI.mk vd op nm fr to_ vk (hst2.set_ hz1 hz2 hrc hgc 4 _ _) ⟨(hM2.set_ (Nat.le_succ _) _).data, (hM2.set_ (Nat.le_succ _) _).scope⟩⟩
        case measure => exact HME _ (hit_set (hit_x hit1 hx2 hig) hic _ _)
      · have hfN : f.toNat = 78 := by omega
        have cc := gnumber_any w0 W1 g sx (m + 1) hst1.dp (by omega) (by omega)
        go_wp2_with (go_at_call 83; (with_reducible refine cc.mono ?_); rintro e w2 ⟨rfl, hd2, hx2⟩
                     have hst2 := hst1.x hd2 hx2 hrg hcg Cm.zero
                     have hM2 := hM1.x hx2 hgi
                     have ci := hst2.blk.cell 5
                     have fi := hst2.blk.frozen 5)
        go_roundw
        case rel => exact ⟨pos + 1, hpl, hit_set (hit_x hit1 hx2 hig) hic _ _, by rw [HS.out, hfN]; exact CmdI.mk vd op nm fr to_ vk (hst2.set_ hz1 hz2 hrc hgc 5 _ _) ⟨(hM2.set_ (Nat.le_succ _) _).data, (hM2.set_ (Nat.le_succ _) _).scope⟩⟩
        case measure => exact HME _ (hit_set (hit_x hit1 hx2 hig) hic _ _)
      · have hfN : f.toNat = 84 := by omega
        have cc := gdata_any w0 W1 g sx (m + 1) hst1.dp
        go_wp2_with (go_at_call 84; (with_reducible refine cc.mono ?_); rintro e w2 ⟨v2, rfl, hr2, hd2, hx2⟩
                     have hst2 := hst1.x hd2 hx2 hrg hcg Cm.zero
                     have hM2 := hM1.x hx2 hgi
                     have hr3 := (hr2.mono (K' := KB (w1.heap.size + 1) w2) fun b hb => ⟨Nat.lt_of_lt_of_le hlt1 hb.1, hb.2⟩)
                     obtain ⟨A2, k2, rfl, _, _⟩ := hr2
                     have ci := hst2.blk.cell 6
                     have fi := hst2.blk.frozen 6)
        go_roundw
        case rel => exact ⟨pos + 1, hpl, hit_set (hit_x hit1 hx2 hig) hic _ _, by rw [HS.out, hfN]; exact CmdI.mk _ op nm fr to_ vk (hst2.set_ hz1 hz2 hrc hgc 6 _ _) ⟨(CmM.set_ (x := ⟨m + 1, xa, xb, xc, xd, xn, gData (m + 1) sx, xs, xw, xe⟩) ⟨hr3, hM2.scope⟩ (Nat.le_succ _) _).data, (hM2.set_ (Nat.le_succ _) _).scope⟩⟩
        case measure => exact HME _ (hit_set (hit_x hit1 hx2 hig) hic _ _)
      · have hfN : f.toNat = 83 := by omega
        have ci := hst1.blk.cell 7
        have fi := hst1.blk.frozen 7
        go_wp2
        go_roundw
        case rel => exact ⟨pos + 1, hpl, hit_set hit1 hic _ _, by rw [HS.out, hfN]; exact CmdI.mk vd op nm fr to_ vk (hst1.set_ hz1 hz2 hrc hgc 7 _ _) ⟨(hM1.set_ (Nat.le_succ _) _).data, (hM1.set_ (Nat.le_succ _) _).scope⟩⟩
        case measure => exact HME _ (hit_set hit1 hic _ _)
      · have hfN : f.toNat = 75 := by omega
        have ci := hst1.blk.cell 8
        have fi := hst1.blk.frozen 8
        go_wp2
        try rw [show salt + 32 - 1 = salt + 31 by omega]
        go_roundw
        case rel => exact ⟨pos + 1, hpl, hit_set hit1 hic _ _, by rw [HS.out, hfN]; exact CmdI.mk vd op nm fr to_ vk (hst1.set_ hz1 hz2 hrc hgc 8 _ _) ⟨(hM1.set_ (Nat.le_succ _) _).data, (hM1.set_ (Nat.le_succ _) _).scope⟩⟩
        case measure => exact HME _ (hit_set hit1 hic _ _)
      · have hfN : f.toNat = 88 := by omega
        have cc := gscope_any w0 W1 g sx hst1.dp
        go_wp2_with (go_at_call 85; (with_reducible refine cc.mono ?_); rintro e w2 ⟨v2, rfl, hr2, hd2, hx2⟩
                     have hst2 := hst1.x hd2 hx2 hrg hcg Cm.zero
                     have hM2 := hM1.x hx2 hgi
                     have hr3 := RdSc.mono (K' := KB (w1.heap.size + 1) w2) (fun b hb => ⟨Nat.lt_of_lt_of_le hlt1 hb.1, hb.2⟩) _ _ hr2
                     obtain ⟨op2, nm2, fr2, to2, A2, n2, k2, rfl⟩ := hr3.agg
                     have c9 := hst2.blk.cell 9
                     have f9 := hst2.blk.frozen 9
                     have c10 := hst2.blk.cell 10
                     have f10 := hst2.blk.frozen 10
                     have c11 := hst2.blk.cell 11
                     have f11 := hst2.blk.frozen 11
                     have c12 := hst2.blk.cell 12
                     have f12 := hst2.blk.frozen 12
                     have c13 := hst2.blk.cell 13
                     have f13 := hst2.blk.frozen 13)
        go_roundw
        case rel => exact ⟨pos + 1, hpl, hit_set (hit_set (hit_set (hit_set (hit_set (hit_x hit1 hx2 hig) hic _ _) hic _ _) hic _ _) hic _ _) hic _ _, by rw [HS.out, hfN]; exact CmdI.mk vd op2 nm2 fr2 to2 _ (((((hst2.set_ hz1 hz2 hrc hgc 9 _ Cm.zero).set_ hz1 hz2 hrc hgc 10 _ Cm.zero).set_ hz1 hz2 hrc hgc 11 _ Cm.zero).set_ hz1 hz2 hrc hgc 12 _ Cm.zero).set_ hz1 hz2 hrc hgc 13 _ _) ((((((CmM.mk (x := ⟨m + 1, xa, xb, xc, xd, xn, xl, xs, xw, gScope sx⟩) hM2.data hr3).set_ (p := ⟨w1.heap.size, 9, none⟩) (Nat.le_succ _) _).set_ (p := ⟨w1.heap.size, 10, none⟩) (Nat.le_succ _) _).set_ (p := ⟨w1.heap.size, 11, none⟩) (Nat.le_succ _) _).set_ (p := ⟨w1.heap.size, 12, none⟩) (Nat.le_succ _) _).set_ (p := ⟨w1.heap.size, 13, none⟩) (Nat.le_succ _) _)⟩
        case measure => exact HME _ (hit_set (hit_set (hit_set (hit_set (hit_set (hit_x hit1 hx2 hig) hic _ _) hic _ _) hic _ _) hic _ _) hic _ _)
      · have hfN : f.toNat = 99 := by omega
        have cc := gname_any w0 W1 g sx hst1.dp 99 (.inl rfl)
        go_wp2_with (go_at_call 81; (with_reducible refine cc.mono ?_); rintro e w2 ⟨rfl, hd2, hx2⟩
                     have hst2 := hst1.x hd2 hx2 hrg hcg Cm.zero
                     have hM2 := hM1.x hx2 hgi
                     have ci := hst2.blk.cell 1
                     have fi := hst2.blk.frozen 1)
        go_roundw
        case rel => exact ⟨pos + 1, hpl, hit_set (hit_x hit1 hx2 hig) hic _ _, by rw [HS.out, hfN]; exact CmdI.mk vd op nm fr to_ vk (hst2.set_ hz1 hz2 hrc hgc 1 _ _) ⟨(hM2.set_ (Nat.le_succ _) _).data, (hM2.set_ (Nat.le_succ _) _).scope⟩⟩
        case measure => exact HME _ (hit_set (hit_x hit1 hx2 hig) hic _ _)
      · have hfN : f.toNat = 115 := by omega
        have cc := gname_any w0 W1 g sx hst1.dp 115 (.inr (.inl rfl))
        go_wp2_with (go_at_call 81; (with_reducible refine cc.mono ?_); rintro e w2 ⟨rfl, hd2, hx2⟩
                     have hst2 := hst1.x hd2 hx2 hrg hcg Cm.zero
                     have hM2 := hM1.x hx2 hgi
                     have ci := hst2.blk.cell 1
                     have fi := hst2.blk.frozen 1)
        go_roundw
        case rel => exact ⟨pos + 1, hpl, hit_set (hit_x hit1 hx2 hig) hic _ _, by rw [HS.out, hfN]; exact CmdI.mk vd op nm fr to_ vk (hst2.set_ hz1 hz2 hrc hgc 1 _ _) ⟨(hM2.set_ (Nat.le_succ _) _).data, (hM2.set_ (Nat.le_succ _) _).scope⟩⟩
        case measure => exact HME _ (hit_set (hit_x hit1 hx2 hig) hic _ _)
      · have hfN : f.toNat = 104 := by omega
        have cc := gname_any w0 W1 g sx hst1.dp 104 (.inr (.inr (.inl rfl)))
        go_wp2_with (go_at_call 81; (with_reducible refine cc.mono ?_); rintro e w2 ⟨rfl, hd2, hx2⟩
                     have hst2 := hst1.x hd2 hx2 hrg hcg Cm.zero
                     have hM2 := hM1.x hx2 hgi
                     have ci := hst2.blk.cell 1
                     have fi := hst2.blk.frozen 1)
        go_roundw
        case rel => exact ⟨pos + 1, hpl, hit_set (hit_x hit1 hx2 hig) hic _ _, by rw [HS.out, hfN]; exact CmdI.mk vd op nm fr to_ vk (hst2.set_ hz1 hz2 hrc hgc 1 _ _) ⟨(hM2.set_ (Nat.le_succ _) _).data, (hM2.set_ (Nat.le_succ _) _).scope⟩⟩
        case measure => exact HME _ (hit_set (hit_x hit1 hx2 hig) hic _ _)
      · have hfN : f.toNat = 114 := by omega
        have cc := gname_any w0 W1 g sx hst1.dp 114 (.inr (.inr (.inr rfl)))
        go_wp2_with (go_at_call 81; (with_reducible refine cc.mono ?_); rintro e w2 ⟨rfl, hd2, hx2⟩
                     have hst2 := hst1.x hd2 hx2 hrg hcg Cm.zero
                     have hM2 := hM1.x hx2 hgi
                     have ci := hst2.blk.cell 1
                     have fi := hst2.blk.frozen 1)
        go_roundw
        case rel => exact ⟨pos + 1, hpl, hit_set (hit_x hit1 hx2 hig) hic _ _, by rw [HS.out, hfN]; exact CmdI.mk vd op nm fr to_ vk (hst2.set_ hz1 hz2 hrc hgc 1 _ _) ⟨(hM2.set_ (Nat.le_succ _) _).data, (hM2.set_ (Nat.le_succ _) _).scope⟩⟩
        case measure => exact HME _ (hit_set (hit_x hit1 hx2 hig) hic _ _)
    · obtain rfl : pos = (fieldsP (m + 1).toNat).length := by omega
      have hnx : ∀ ty, (Instr.next (.pointer (some ⟨w1.heap.size + 1, 0, none⟩)) true ty).run Tryd.prog wr = .ok (.tuple #[.bool false]) wr := fun ty => Lib.run_next_end_at wr (w1.heap.size + 1) _ _ ty hit (by rw [HSZ.out]; omega)
      clear hpS hlt
      rcases hX : cmAt salt (m + 1) (belowS 22 s) (fieldsP (m + 1).toNat).length with ⟨⟨xk, xa, xb, xc, xd, xn, xl, xs, xw, xe⟩, sx⟩
      rw [hX] at hst hM
      have HX := Lib.hid hX
      clear hX
      obtain ⟨A2, k2, rfl, _, _⟩ := hM.data
      obtain ⟨_, _, _, _, A3, n3, k3, e3⟩ := hM.scope.agg
      obtain rfl : vk = .slice A3 n3 k3 := by injection e3 with e3; simp at e3; exact e3.2.2.2.2
      clear e3
      obtain ⟨e0, e1, e2, e3, e4, e5, e6, e7, e8, e9, e10, e11, e12, e13⟩ := cm_cells hst.blk
      obtain ⟨r0, r1, r2, r3, r4, r5, r6, r7, r8, r9, r10, r11, r12, r13⟩ := cm_cells hst.res
      obtain ⟨i0, i1, i2, i3, i4, i5, i6, i7, i8, i9, i10, i11, i12, i13⟩ := cm_ice hst.res
      go_wp2
      have hZ := hst.res.set14 (y0 := .int .i64 xk) (y1 := .string xa) (y2 := .string xb) (y3 := .string xc) (y4 := .string xd) (y5 := .int .i64 xn) (y6 := .slice A2 xl.length k2) (y7 := .int .u64 xs) (y8 := .int .u64 xw) (y9 := .int .i64 op) (y10 := .string nm) (y11 := .int .i64 fr) (y12 := .int .i64 to_) (y13 := .slice A3 n3 k3)
      obtain ⟨z0, z1, z2, z3, z4, z5, z6, z7, z8, z9, z10, z11, z12, z13⟩ := cm_cells hZ
      refine bodyPost_ret (v := .agg (cmC xk xa xb xc xd xn (.slice A2 xl.length k2) xs xw op nm fr to_ (.slice A3 n3 k3))) (by simp [results, Tryd.results62, go_sem, z0, z1, z2, z3, z4, z5, z6, z7, z8, z9, z10, z11, z12, z13]) rfl ⟨_, rfl, ?_, by rw [HX.out]; exact hst.dp.set14 hz0 (by omega), hst.grx.set14 (Nat.le_refl _)⟩
      rw [HX.out]
      exact (CmM.rd (hM.set14 (gx := w.heap.size) (by omega))).mono fun b hb => ⟨by have := hb.1; omega, hb.2⟩
end Go.Proofs.YteoidkjiigjlaaaDoor
