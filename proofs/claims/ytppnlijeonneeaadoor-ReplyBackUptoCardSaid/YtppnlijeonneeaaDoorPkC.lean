/- Scopes as texts: a reader of words: where it lies; take and ahead, of both sides. Scopes that grow: rows of the call's own. Scopes as texts: the program's reader: several. Printed by wip/tools/genwoc.py. Scopes as texts: the program's reader: numbers, times, names. Scopes as texts: the program's reader: a time. Scopes as texts: the program's reader: a scope with a name. Scopes as texts: the program's reader: term, whole, factor. Printed by wip/tools/genwof.py. Scopes as texts: the program's reader: factor. Scopes as texts: the reference's text. Scopes as texts: the program's text: its parts. -/
import Derived.Test.YtppnlijeonneeaaDoorPkI
import Derived.Test.YtppnlijeonneeaaDoorSpanP
import Derived.Test.YtppnlijeonneeaaDoorShelf5
import Derived.LoopN
import Derived.Test.YtppnlijeonneeaaDoorPkB
import Derived.Test.YtppnlijeonneeaaDoorPkA
import Derived.Test.YtppnlijeonneeaaDoorShelf6
namespace Go.Proofs.YtppnlijeonneeaaDoor
open Go Go.RowKit Go.Sort

theorem str_neqW {a b : ByteArray} (h : a ≠ b) : decide (a = b) = false ∧ (a.toList == b.toList) = false :=
  ⟨decide_eq_false h, by rw [beq_eq_false_iff_ne, ByteArray.toList_eq, ByteArray.toList_eq]; exact fun e => h (by cases a; cases b; simp_all [Array.toList_inj])⟩
/-- The variables that the reader reads. -/
def WVars (w : World) : Prop := Pow w ∧ Errs w ∧ ∃ m : Int, w.cell? ⟨2, 0, none⟩ = some (.int .i64 m)
theorem WVars.gr {w w' : World} (h : WVars w) (hb : Gr w w') : WVars w' := by
  refine ⟨h.1.below hb, ?_, ?_⟩
  · have one : ∀ {name : String} {v : Array Value}, w.var? Tryd.prog name = some v → w'.var? Tryd.prog name = some v := by
      intro name v h
      unfold World.var? at *
      cases hg : Tryd.prog.globalNamed name with
      | none => simp [hg] at h
      | some g =>
        simp only [hg, Option.bind_some] at h ⊢
        have hlt : g < w.heap.size := by
          rcases Nat.lt_or_ge g w.heap.size with h' | h'
          · exact h'
          · rw [Array.getElem?_eq_none h'] at h; simp at h
        rw [hb.block g hlt]
        exact h
    obtain ⟨⟨a, b, h1⟩, ⟨c, d, h2⟩⟩ := h.2.1
    exact ⟨⟨a, b, one h1⟩, ⟨c, d, one h2⟩⟩
  · obtain ⟨m, hm⟩ := h.2.2
    exact ⟨m, (hb.cell (block_lt_of_cell hm)).trans hm⟩
/-- Where a reader of words lies, and how it stands. -/
structure EnvW (T : TypeId) (w : World) (g : Nat) (s : Wst) : Prop where
  ex : ∃ A c, Blk w g T #[.slice A s.l.length c, .bool s.fail] ∧ (s.l.length ≤ c ∧ c ≤ maxLen) ∧ Reads w g 1 A s.l.length (s.l.map Value.string)
  len : s.l.length ≤ 2001
  small : ∀ t ∈ s.l, t.size ≤ 2000
  vs : ∃ w0, WVars w0 ∧ Gr w0 w ∧ w0.heap.size ≤ g
section
variable {T : TypeId} {w w' : World} {g : Nat} {s : Wst}
theorem EnvW.lt (h : EnvW T w g s) : g < w.heap.size := by
  obtain ⟨A, c, hB, _⟩ := h.ex
  exact hB.lt
theorem EnvW.below {B : Nat} (h : EnvW T w g s) (hb : Below B w w') (hg : g < B) : EnvW T w' g s := by
  obtain ⟨A, c, hB, hc, hr⟩ := h.ex
  exact ⟨⟨A, c, hB.below hb hg, hc, hr.keep fun p hp => hb.cell (by omega)⟩, h.len, h.small, by
    obtain ⟨w0, h1, h2, h3⟩ := h.vs
    exact ⟨w0, h1, Below.trans h2 (hb.mono (by omega)), h3⟩⟩
theorem EnvW.gr (h : EnvW T w g s) (hg : Gr w w') : EnvW T w' g s := h.below hg h.lt
theorem EnvW.far (h : EnvW T w g s) {p : Addr} (hp : g < p.block) (v : Value) : EnvW T (w.setCell p v) g s := by
  obtain ⟨A, c, hB, hc, hr⟩ := h.ex
  exact ⟨⟨A, c, hB.far (by omega) v, hc, hr.setCell (by omega) v⟩, h.len, h.small, by
    obtain ⟨w0, h1, h2, h3⟩ := h.vs
    exact ⟨w0, h1, Below.setCell h2 (by omega) v, h3⟩⟩
theorem EnvW.wv (h : EnvW T w g s) : WVars w := by
  obtain ⟨w0, h1, h2, h3⟩ := h.vs
  exact h1.gr h2
/-- What a method makes: the state behind, and all else as it was. -/
structure MadeW (T : TypeId) (w : World) (g : Nat) (s' : Wst) (w' : World) : Prop where
  env : EnvW T w' g s'
  gx : GrX w w' g
theorem MadeW.tr {w1 : World} {s1 s2 : Wst} (h : MadeW T w g s1 w1) (k : MadeW T w1 g s2 w') : MadeW T w g s2 w' := ⟨k.1, GrX.tr h.2 k.2⟩
theorem MadeW.gr {w1 : World} {s1 : Wst} (h : MadeW T w g s1 w1) (k : Gr w1 w') : MadeW T w g s1 w' := ⟨h.1.gr k, GrX.tr h.2 (GrX.of_gr k g)⟩
theorem MadeW.refl (h : EnvW T w g s) : MadeW T w g s w := ⟨h, World.grownBy.refl _ _⟩
theorem MadeW.of_gr (h : EnvW T w g s) (k : Gr w w') : MadeW T w g s w' := ⟨h.gr k, GrX.of_gr k g⟩
theorem MadeW.after {w1 : World} {s1 : Wst} (hG : Gr w w1) (h : MadeW T w1 g s1 w') : MadeW T w g s1 w' := ⟨h.1, GrX.tr (GrX.of_gr hG g) h.2⟩
theorem MadeW.far {w1 : World} {s1 : Wst} (h : MadeW T w g s1 w1) (hg : g < w.heap.size) {p : Addr} (hp : w.heap.size ≤ p.block) (v : Value) : MadeW T w g s1 (w1.setCell p v) :=
  ⟨h.1.far (by omega) v, ⟨h.2.os, h.2.tape, h.2.output, by simpa [World.setCell] using h.2.size, fun k hk hne => (Below.heap_setCell w1 p v k (by omega)).trans (h.2.block k hk hne)⟩⟩
theorem MadeW.set5 {w1 : World} {s1 : Wst} (h : MadeW T w g s1 w1) (hg : g < w.heap.size) {r : Nat} (hr : w.heap.size ≤ r) (y0 y1 y2 y3 y4 : Value) :
    MadeW T w g s1 (((((w1.setCell ⟨r, 0, none⟩ y0).setCell ⟨r, 1, none⟩ y1).setCell ⟨r, 2, none⟩ y2).setCell ⟨r, 3, none⟩ y3).setCell ⟨r, 4, none⟩ y4) :=
  ((((h.far hg hr y0).far hg hr y1).far hg hr y2).far hg hr y3).far hg hr y4
theorem MadeW.below {w1 w2 : World} {s1 : Wst} {base : Nat} (h : MadeW T w g s1 w1) (hg : g < w.heap.size) (hw : w.heap.size ≤ base) (hb : Below base w1 w2) : MadeW T w g s1 w2 :=
  ⟨h.1.below hb (by omega), ⟨hb.os.trans h.2.os, hb.tape.trans h.2.tape, hb.output.trans h.2.output, Nat.le_trans h.2.size hb.size, fun k hk hne => (hb.block k (by omega)).trans (h.2.block k hk hne)⟩⟩
theorem EnvW.cells (h : EnvW T w g s) : ∃ A c, w.cell? ⟨g, 0, none⟩ = some (.slice A s.l.length c) ∧ w.cell? ⟨g, 1, none⟩ = some (.bool s.fail) ∧ w.frozen? ⟨g, 0, none⟩ = false ∧ w.frozen? ⟨g, 1, none⟩ = false ∧ (s.l.length ≤ c ∧ c ≤ 9223372036854775807) ∧ Reads w g 1 A s.l.length (s.l.map Value.string) := by
  obtain ⟨A, c, hB, hc, hr⟩ := h.ex
  exact ⟨A, c, hB.cell 0, hB.cell 1, hB.frozen 0, hB.frozen 1, ⟨hc.1, by have := hc.2; unfold maxLen at this; omega⟩, hr⟩
theorem EnvW.setF (h : EnvW T w g s) : MadeW T w g (failW s) (w.setCell ⟨g, 1, none⟩ (.bool true)) := by
  obtain ⟨A, c, hB, hc, hr⟩ := h.ex
  exact ⟨⟨⟨A, c, by simpa [failW] using hB.set_ 1 (.bool true), hc, hr.setCell (Nat.le_refl _) _⟩, h.len, h.small, by
    obtain ⟨w0, h1, h2, h3⟩ := h.vs
    exact ⟨w0, h1, Below.setCell h2 (by exact h3) _, h3⟩⟩, GrX.set_ (World.grownBy.refl _ _) 1 _⟩
theorem EnvW.setT {a : ByteArray} {r : List ByteArray} {A : Option Addr} {c : Nat} (h : EnvW T w g ⟨a :: r, false⟩) (hc0 : w.cell? ⟨g, 0, none⟩ = some (.slice A (r.length + 1) c)) :
    MadeW T w g ⟨r, false⟩ (w.setCell ⟨g, 0, none⟩ (.slice (if c = 1 then A else A.map (·.add 1)) r.length (c - 1))) := by
  obtain ⟨A', c', hB, hc, hr⟩ := h.ex
  have h0 := hB.cell 0
  rw [hc0] at h0
  have h1 : (.slice A (r.length + 1) c : Value) = .slice A' (r.length + 1) c' := by simpa using h0
  injection h1 with e1 e2 e3
  subst e1 e3
  have h2 := hr.cut (k := 1) (cap := c) (by simp) hc.1
  dsimp only at hc
  refine ⟨⟨⟨_, c - 1, by simpa using hB.set_ 0 (.slice (if c = 1 then A else A.map (·.add 1)) r.length (c - 1)), ?_, ?_⟩, ?_, fun t ht => h.small t (List.mem_cons_of_mem _ ht), by
    obtain ⟨w0, h1, h2, h3⟩ := h.vs
    exact ⟨w0, h1, Below.setCell h2 (by exact h3) _, h3⟩⟩, GrX.set_ (World.grownBy.refl _ _) 0 _⟩
  · have := hc.1
    rw [List.length_cons] at this
    exact ⟨by dsimp only; omega, by have := hc.2; omega⟩
  · exact Reads.setCell (by simpa using h2) (Nat.le_refl _) _
  · have := h.len
    dsimp only at this ⊢
    rw [List.length_cons] at this
    omega
set_option maxRecDepth 100000 in
set_option maxHeartbeats 1000000 in
theorem wtake_any (h : EnvW T w g s) : Calls Tryd.prog 96 #[.pointer (some ⟨g, 0, none⟩)] w fun e w' => e = .returned (.string (takeW s).1) ∧ MadeW T w g (takeW s).2 w' := by
  obtain ⟨A, c, c0, c1, f0, f1, ⟨hc, hcm⟩, hr⟩ := h.cells
  have hF := h.setF
  obtain ⟨l, f⟩ := s
  dsimp only at *
  cases f with
  | true =>
    have e1 : takeW ⟨l, true⟩ = (⟨#[]⟩, ⟨l, true⟩) := rfl
    rw [e1]
    unfold failW at hF
    clear h e1 hr
    go_enter Tryd.func96, Tryd.ntmps96
    go_wp2
    go_ret
    exact ⟨rfl, hF⟩
  | false =>
    cases l with
    | nil =>
      have e1 : takeW ⟨[], false⟩ = (⟨#[]⟩, ⟨[], true⟩) := rfl
      rw [e1]
      unfold failW at hF
      clear h e1 hr
      go_enter Tryd.func96, Tryd.ntmps96
      go_wp2
      go_ret
      exact ⟨rfl, hF⟩
    | cons a r =>
      have e1 : takeW ⟨a :: r, false⟩ = (a, ⟨r, false⟩) := rfl
      rw [e1]
      rw [List.length_cons] at c0 hc
      have hT := h.setT c0
      obtain ⟨ad, rfl, hb, hcell⟩ := hr.2 (by simp)
      have k0 := hcell 0 (.string a) rfl
      rw [show ad.add 0 = ad by simp [Addr.add]] at k0
      have hl := h.len
      dsimp only at hl
      rw [List.length_cons] at hl
      rw [Option.map_some] at hT
      have eA : ad.add 1 = ⟨ad.block, ad.off + 1, none⟩ := by simp [Addr.add]
      rw [eA] at hT
      clear h e1 hr hcell hF eA
      generalize r.length = n at *
      by_cases hc1 : c = 1
      · rw [if_pos hc1] at hT
        subst hc1
        obtain rfl : n = 0 := by omega
        go_enter Tryd.func96, Tryd.ntmps96
        go_wp2
        go_ret
        exact ⟨rfl, hT⟩
      · rw [if_neg hc1] at hT
        go_enter Tryd.func96, Tryd.ntmps96
        go_wp2
        go_ret
        exact ⟨rfl, hT⟩
set_option maxRecDepth 100000 in
set_option maxHeartbeats 1000000 in
theorem wahead_any (m : ByteArray) (h : EnvW T w g s) : Calls Tryd.prog 95 #[.pointer (some ⟨g, 0, none⟩), .string m] w fun e w' => e = .returned (.bool (aheadW m s)) ∧ Gr w w' := by
  obtain ⟨A, c, c0, c1, f0, f1, ⟨hc, hcm⟩, hr⟩ := h.cells
  obtain ⟨l, f⟩ := s
  dsimp only at *
  cases f with
  | true =>
    have e1 : aheadW m ⟨l, true⟩ = false := rfl
    rw [e1]
    clear h e1 hr
    go_enter Tryd.func95, Tryd.ntmps95
    go_wp2
    go_ret
    exact ⟨rfl, Gr.refl _⟩
  | false =>
    cases l with
    | nil =>
      have e1 : aheadW m ⟨[], false⟩ = false := rfl
      rw [e1]
      clear h e1 hr
      go_enter Tryd.func95, Tryd.ntmps95
      go_wp2
      go_ret
      exact ⟨rfl, Gr.refl _⟩
    | cons a r =>
      have e1 : aheadW m ⟨a :: r, false⟩ = decide (a = m) := rfl
      rw [e1]
      rw [List.length_cons] at c0 hc
      obtain ⟨ad, rfl, hb, hcell⟩ := hr.2 (by simp)
      have k0 := hcell 0 (.string a) rfl
      rw [show ad.add 0 = ad by simp [Addr.add]] at k0
      have hl := h.len
      dsimp only at hl
      rw [List.length_cons] at hl
      clear h e1 hr hcell
      generalize r.length = n at *
      by_cases he : a = m
      · subst he
        rw [decide_eq_true rfl]
        go_enter Tryd.func95, Tryd.ntmps95
        go_wp2
        go_ret
        exact ⟨rfl, Gr.refl _⟩
      · obtain ⟨n1, n2⟩ := str_neqW he
        rw [decide_eq_false he]
        clear he
        go_enter Tryd.func95, Tryd.ntmps95
        go_wp2
        go_ret
        exact ⟨rfl, Gr.refl _⟩
end
end Go.Proofs.YtppnlijeonneeaaDoor

namespace Go.Proofs.YtppnlijeonneeaaDoor
open Go Go.RowKit Go.Sort

theorem own_xW {w w' : World} {base e size n g : Nat} {v : Value} {xs : List Value} (h : w.ownsRow base e size v n xs) (hx : GrX w w' g) (hn : g < base) : w'.ownsRow base e size v n xs := by
  refine ⟨h.1, ?_⟩
  rcases h.2 with h0 | ⟨g', cap, cur, e1, e2, e3, e4⟩
  · exact .inl h0
  · refine .inr ⟨g', cap, cur, e1, e2, ?_, e4⟩
    have hlt : g' < w.heap.size := (Array.getElem?_eq_some_iff.1 e3).1
    rw [hx.block g' hlt (by intro e; injection e with e; omega)]
    exact e3
theorem RdScL.snoc {w : World} {K : Nat → Prop} {x : Sc} {v0 v1 v2 v3 v4 : Value} (hx : RdSc w K x (.agg #[v0, v1, v2, v3, v4])) : ∀ (ks : List Sc) (vs : List Value), RdScL w K ks vs → RdScL w K (ks ++ [x]) (vs ++ [v0, v1, v2, v3, v4])
  | [], vs, h => by
    rw [RdScL] at h
    subst h
    rw [List.nil_append, RdScL]
    exact ⟨v0, v1, v2, v3, v4, [], rfl, hx, by rw [RdScL]⟩
  | k :: ks, vs, h => by
    rw [RdScL] at h
    obtain ⟨u0, u1, u2, u3, u4, r, rfl, hk, hl⟩ := h
    rw [List.cons_append, RdScL]
    exact ⟨u0, u1, u2, u3, u4, _, rfl, hk, RdScL.snoc hx ks r hl⟩
/-- Scopes that grow: a row of the call's own, what they lead to in other blocks of the call's own. -/
structure ScOwn (base : Nat) (w : World) (v : Value) (l : List Sc) (cs : List Value) : Prop where
  row : w.ownsRow base 39 5 v l.length cs
  mem : RdScL w (fun b => base ≤ b ∧ b < w.heap.size ∧ v.ownBlock ≠ some b) l cs
theorem ScOwn.nil (base : Nat) (w : World) : ScOwn base w (.slice none 0 0) [] [] := ⟨⟨rfl, .inl ⟨rfl, rfl⟩⟩, by rw [RdScL]⟩
theorem ScOwn.x {base g : Nat} {w w' : World} {v : Value} {l : List Sc} {cs : List Value} (h : ScOwn base w v l cs) (hx : GrX w w' g) (hn : g < base) : ScOwn base w' v l cs :=
  ⟨own_xW h.row hx hn, RdScL.mono (fun _ hb => ⟨hb.1, Nat.lt_of_lt_of_le hb.2.1 hx.size, hb.2.2⟩) _ _ (RdScL.keep (fun _ hp => World.cell?_of_block (hx.block _ hp.2.1 (by intro e; injection e with e; have := hp.1; omega))) _ _ h.mem)⟩
theorem ScOwn.gr {base : Nat} {w w' : World} {v : Value} {l : List Sc} {cs : List Value} (h : ScOwn base w v l cs) (hx : Gr w w') : ScOwn base w' v l cs :=
  ⟨ownsRow_gr h.row hx, RdScL.mono (fun _ hb => ⟨hb.1, Nat.lt_of_lt_of_le hb.2.1 hx.size, hb.2.2⟩) _ _ (RdScL.keep (fun _ hp => hx.cell hp.2.1) _ _ h.mem)⟩
theorem ScOwn.far {base : Nat} {w : World} {v : Value} {l : List Sc} {cs : List Value} (h : ScOwn base w v l cs) {p : Addr} (hp : p.block < base) (u : Value) : ScOwn base (w.setCell p u) v l cs :=
  h.x (g := p.block) ⟨rfl, rfl, rfl, by simp [World.setCell], fun k _ hk => Below.heap_setCell w p u k (by intro e; exact hk (by rw [e]))⟩ hp
theorem scO_info : (Tryd.prog.info? 39).map (fun i => (i.zero, i.size, i.bytes)) = some (some (.agg #[.int .i64 0, .string ⟨#[]⟩, .int .i64 0, .int .i64 0, .slice none 0 0]), 5, 64) := by kernel_rfl
theorem own_retW {w w' : World} {base : Nat} {v v' : Value} (hg : w.grownBy w' v.ownBlock) (hat : v'.ownBlock = v.ownBlock ∨ v'.ownBlock = some w.heap.size) (b : Nat) (hb : base ≤ b ∧ b < w.heap.size ∧ v.ownBlock ≠ some b) : base ≤ b ∧ b < w'.heap.size ∧ v'.ownBlock ≠ some b := by
  refine ⟨hb.1, Nat.lt_of_lt_of_le hb.2.1 hg.size, ?_⟩
  rcases hat with e | e
  · rw [e]; exact hb.2.2
  · rw [e]; intro e2; injection e2 with e2; omega
theorem own_grW {w w' : World} {base e size n : Nat} {v : Value} {xs : List Value} (h : w.ownsRow base e size v n xs) (hbase : base ≤ w.heap.size) (hg : w.grownBy w' v.ownBlock) : Below base w w' := by
  refine (Below.refl base w).grown hg hbase fun k hk => ?_
  rcases h.2 with ⟨rfl, _⟩ | ⟨g, cap, cur, rfl, e2, _⟩
  · simp [Value.ownBlock] at hk
  · simp [Value.ownBlock] at hk
    omega
theorem rd_blkW {w : World} {gb size : Nat} {T : TypeId} {ar : Array Value} (hB : Blk w gb T ar) (hs : ar.size = size) : Reads w w.heap.size size (some ⟨gb, 0, none⟩) 1 ar.toList := by
  refine ⟨by simp [hs], fun _ => ⟨_, rfl, hB.lt, fun j u hu => ?_⟩⟩
  have e : (⟨gb, 0, none⟩ : Addr).add j = ⟨gb, j, none⟩ := by
    unfold Addr.add
    split
    · rename_i h0; simp_all
    · simp
  rw [e, hB.cell j, ← Array.getElem?_toList, hu]
theorem own_ltW {w : World} {base e size n : Nat} {v : Value} {xs : List Value} (h : w.ownsRow base e size v n xs) (k : Nat) (hk : w.heap.size ≤ k) : v.ownBlock ≠ some k := by
  intro hk2
  rcases h.2 with ⟨rfl, _⟩ | ⟨g', cap, cur, rfl, e2, e3, _⟩
  · simp [Value.ownBlock] at hk2
  · simp [Value.ownBlock] at hk2
    subst hk2
    have := (Array.getElem?_eq_some_iff.1 e3).1
    omega
/-- A scope is appended. -/
theorem wpList_appendSc {ops : Array Oper} {rest : List Oper} {o : Oper} {a : Act} {Q : Exit → Act → World → Prop} (w : World) (hgd : o.guard = none) (s y : Operand)
    (ho : o.op = .call { callee := .builtin .append, args := #[s, y], argTypes := #[37, 37] }) (base : Nat) (v : Value) (l : List Sc) (cs : List Value) (hs : a.eval s = v) (hown : ScOwn base w v l cs)
    (x : Sc) (o_ f_ t_ : Int) (m_ : ByteArray) (A_ : Option Addr) (n_ c_ : Nat) (gb : Nat) (hx : a.eval y = .slice (some ⟨gb, 0, none⟩) 1 1) (hB : Blk w gb 39 #[.int .i64 o_, .string m_, .int .i64 f_, .int .i64 t_, .slice A_ n_ c_]) (hr : RdSc w (fun b => base ≤ b ∧ b < w.heap.size ∧ v.ownBlock ≠ some b) x (.agg #[.int .i64 o_, .string m_, .int .i64 f_, .int .i64 t_, .slice A_ n_ c_])) (hlen : l.length ≤ 100000) (hbase : base ≤ w.heap.size)
    (h : ∀ v' w', ScOwn base w' v' (l ++ [x]) (cs ++ [.int .i64 o_, .string m_, .int .i64 f_, .int .i64 t_, .slice A_ n_ c_]) → Below base w w' → wpList Tryd.prog ops Q rest (a.put o.dst v') w') : wpList Tryd.prog ops Q (o :: rest) a w := by
  have hu := scO_info
  cases hi : Tryd.prog.info? 39 with
  | none => rw [hi] at hu; cases hu
  | some i =>
    rw [hi] at hu
    simp only [Option.map_some, Option.some.injEq, Prod.mk.injEq] at hu
    obtain ⟨hz, hsz, hb⟩ := hu
    refine wpList_append_any (P := Tryd.prog) w hgd s y 37 ho base 39 i _ 5 64 (by kernel_rfl) hi hz hsz hb rfl (by omega) v l.length cs hs hown.row w.heap.size _ 1 1 _ hx (rd_blkW hB rfl) ?_ (by unfold maxLen; omega) (by omega) hbase ?_
    · intro u hu
      simp only [List.mem_cons, List.not_mem_nil, or_false] at hu
      rcases hu with rfl | rfl | rfl | rfl | rfl <;> rfl
    intro v' w' hown' hg hat
    refine h v' w' ⟨by rw [List.length_append]; exact hown', ?_⟩ (own_grW hown.row hbase hg)
    have hk : ∀ p : Addr, (base ≤ p.block ∧ p.block < w.heap.size ∧ v.ownBlock ≠ some p.block) → w'.cell? p = w.cell? p := fun p hp => World.cell?_of_block (hg.block p.block hp.2.1 (fun e => hp.2.2 e.symm))
    exact RdScL.mono (own_retW hg hat) _ _ (RdScL.keep hk _ _ (RdScL.snoc hr l cs hown.mem))
/-- A row made of one scope. -/
theorem ScOwn.one {base : Nat} {w : World} {gb : Nat} {x : Sc} {v0 v1 v2 v3 v4 : Value} (hB : Blk w gb 39 #[v0, v1, v2, v3, v4]) (hg : base ≤ gb) (hr : RdSc w (fun b => base ≤ b ∧ b < w.heap.size ∧ b ≠ gb) x (.agg #[v0, v1, v2, v3, v4])) : ScOwn base w (.slice (some ⟨gb, 0, none⟩) 1 1) [x] [v0, v1, v2, v3, v4] := by
  refine ⟨⟨rfl, .inr ⟨gb, 1, _, rfl, hg, hB, Nat.le_refl _, by unfold maxLen; decide, rfl, rfl⟩⟩, ?_⟩
  rw [RdScL]
  refine ⟨v0, v1, v2, v3, v4, [], rfl, RdSc.mono (fun b hb => ⟨hb.1, hb.2.1, ?_⟩) _ _ hr, by rw [RdScL]⟩
  simp [Value.ownBlock]
  exact fun e => hb.2.2 e.symm
/-- A scope of these. -/
theorem ScOwn.node {base : Nat} {w : World} {v : Value} {l : List Sc} {cs : List Value} (h : ScOwn base w v l cs) (op : Int) : ∃ A c, v = .slice A l.length c ∧ RdSc w (fun b => base ≤ b ∧ b < w.heap.size) (.mk op ⟨#[]⟩ 0 0 l) (.agg #[.int .i64 op, .string ⟨#[]⟩, .int .i64 0, .int .i64 0, v]) := by
  have hm := RdScL.mono (K' := fun b => base ≤ b ∧ b < w.heap.size) (fun _ hb => ⟨hb.1, hb.2.1⟩) _ _ h.mem
  rcases h.row.2 with ⟨rfl, h0⟩ | ⟨g', cap, cur, rfl, e2, e3, e4, e5, e6⟩
  · have : l = [] := List.eq_nil_of_length_eq_zero h0
    subst this
    refine ⟨none, 0, rfl, ?_⟩
    rw [RdSc]
    exact ⟨none, 0, [], rfl, ⟨Nat.le_refl _, Nat.zero_le _⟩, Rk.nil _ _ _ _, by rw [RdScL]⟩
  · refine ⟨some ⟨g', 0, none⟩, cap, rfl, ?_⟩
    rw [RdSc]
    refine ⟨_, _, cs, rfl, ⟨e4, e5⟩, ?_, hm⟩
    have hr := Reads.of_own h.row
    refine ⟨hr.1, fun hn => ?_⟩
    obtain ⟨ad, ea, _, hc⟩ := hr.2 hn
    injection ea with ea
    subst ea
    exact ⟨_, rfl, ⟨e2, (Array.getElem?_eq_some_iff.1 e3).1⟩, hc⟩
theorem ScOwn.vform {base : Nat} {w : World} {v : Value} {l : List Sc} {cs : List Value} (h : ScOwn base w v l cs) : ∃ A c, v = .slice A l.length c := by
  rcases h.row.2 with ⟨rfl, h0⟩ | ⟨g', cap, cur, rfl, _⟩
  · exact ⟨none, 0, by rw [h0]⟩
  · exact ⟨_, _, rfl⟩
/-- The only one. -/
theorem ScOwn.sole {base : Nat} {w : World} {v : Value} {x : Sc} {cs : List Value} (h : ScOwn base w v [x] cs) : ∃ (gb c : Nat) (v0 v1 v2 v3 v4 : Value), v = .slice (some ⟨gb, 0, none⟩) 1 c ∧ base ≤ gb ∧ gb < w.heap.size ∧ w.cell? ⟨gb, 0, none⟩ = some v0 ∧ w.cell? ⟨gb, 1, none⟩ = some v1 ∧ w.cell? ⟨gb, 2, none⟩ = some v2 ∧ w.cell? ⟨gb, 3, none⟩ = some v3 ∧ w.cell? ⟨gb, 4, none⟩ = some v4 ∧ RdSc w (fun b => base ≤ b ∧ b < w.heap.size) x (.agg #[v0, v1, v2, v3, v4]) := by
  have hm := h.mem
  rw [RdScL] at hm
  obtain ⟨v0, v1, v2, v3, v4, r, rfl, hx, hr⟩ := hm
  rcases h.row.2 with ⟨_, h0⟩ | ⟨g', cap, cur, rfl, e2, e3, e4, e5, e6⟩
  · simp at h0
  · obtain ⟨ad, ea, hlt, hc⟩ := (Reads.of_own h.row).2 (by simp)
    injection ea with ea
    subst ea
    have hj : ∀ j u, (v0 :: v1 :: v2 :: v3 :: v4 :: r)[j]? = some u → w.cell? ⟨g', j, none⟩ = some u := fun j u hu => by
      have := hc j u hu
      have e : (⟨g', 0, none⟩ : Addr).add j = ⟨g', j, none⟩ := by
        unfold Addr.add
        split
        · rename_i h0; simp_all
        · simp
      rwa [e] at this
    exact ⟨g', cap, v0, v1, v2, v3, v4, rfl, e2, (Array.getElem?_eq_some_iff.1 e3).1, hj 0 _ rfl, hj 1 _ rfl, hj 2 _ rfl, hj 3 _ rfl, hj 4 _ rfl, RdSc.mono (fun _ hb => ⟨hb.1, hb.2.1⟩) _ _ hx⟩
end Go.Proofs.YtppnlijeonneeaaDoor

namespace Go.Proofs.YtppnlijeonneeaaDoor
open Go Go.RowKit Go.Sort

abbrev scC (o : Int) (m : ByteArray) (f t : Int) (A : Option Addr) (n c : Nat) : Array Value := #[.int .i64 o, .string m, .int .i64 f, .int .i64 t, .slice A n c]
abbrev scZ : Array Value := scC 0 ⟨#[]⟩ 0 0 none 0 0
/-- What a method that reads a scope makes. -/
def PW (T : TypeId) (w : World) (g : Nat) (o : Sc × Wst) (e : Ending) (w' : World) : Prop :=
  ∃ (o_ : Int) (m_ : ByteArray) (f_ t_ : Int) (A_ : Option Addr) (n_ c_ : Nat) (x : Sc), e = .returned (.agg (scC o_ m_ f_ t_ A_ n_ c_)) ∧ RdSc w' (fun b => w.heap.size ≤ b ∧ b < w'.heap.size) x (.agg (scC o_ m_ f_ t_ A_ n_ c_)) ∧ (o.2.fail = false → x = o.1) ∧ MadeW T w g o.2 w'
abbrev set5v (w : World) (g : Nat) (y0 y1 y2 y3 y4 : Value) : World := ((((w.setCell ⟨g, 0, none⟩ y0).setCell ⟨g, 1, none⟩ y1).setCell ⟨g, 2, none⟩ y2).setCell ⟨g, 3, none⟩ y3).setCell ⟨g, 4, none⟩ y4
theorem Blk.put5 {w : World} {g : Nat} {T : TypeId} {x0 x1 x2 x3 x4 y0 y1 y2 y3 y4 : Value} (h : Blk w g T #[x0, x1, x2, x3, x4]) : Blk (set5v w g y0 y1 y2 y3 y4) g T #[y0, y1, y2, y3, y4] := by
  have := ((((h.set_ 0 y0).set_ 1 y1).set_ 2 y2).set_ 3 y3).set_ 4 y4
  simpa using this
theorem set5_far {W : World} {r : Nat} {p : Addr} (h : p.block ≠ r) (y0 y1 y2 y3 y4 : Value) : (set5v W r y0 y1 y2 y3 y4).cell? p = W.cell? p := by
  unfold set5v World.cell?
  rw [Below.heap_setCell _ _ _ _ (by simpa using h), Below.heap_setCell _ _ _ _ (by simpa using h), Below.heap_setCell _ _ _ _ (by simpa using h), Below.heap_setCell _ _ _ _ (by simpa using h), Below.heap_setCell _ _ _ _ (by simpa using h)]
theorem set5_size (W : World) (r : Nat) (y0 y1 y2 y3 y4 : Value) : (set5v W r y0 y1 y2 y3 y4).heap.size = W.heap.size := by simp [set5v, World.setCell]
theorem RdSc.set5 {W : World} {lo r : Nat} {x : Sc} {v : Value} (h : RdSc W (fun b => lo + 1 ≤ b ∧ b < W.heap.size) x v) (hr : r = lo) (y0 y1 y2 y3 y4 : Value) : RdSc (set5v W r y0 y1 y2 y3 y4) (fun b => lo ≤ b ∧ b < (set5v W r y0 y1 y2 y3 y4).heap.size) x v :=
  RdSc.mono (fun b hb => ⟨by omega, by rw [set5_size]; exact hb.2⟩) _ _ (RdSc.keep (fun p hp => set5_far (by omega) _ _ _ _ _) _ _ h)
theorem scRd_form {w : World} {K : Nat → Prop} {x : Sc} {v : Value} (h : RdSc w K x v) : ∃ o_ m_ f_ t_ A_ n_ c_, v = .agg (scC o_ m_ f_ t_ A_ n_ c_) := by
  obtain ⟨op, nm, fr, to_, ks⟩ := x
  obtain ⟨A, c, vs, rfl, _⟩ := h.form
  exact ⟨_, _, _, _, _, _, _, rfl⟩
theorem rd_leaf (w : World) (K : Nat → Prop) (o : Int) (m : ByteArray) (f t : Int) : RdSc w K (.mk o m f t []) (.agg (scC o m f t none 0 0)) := by
  rw [RdSc]
  exact ⟨none, 0, [], rfl, ⟨Nat.le_refl _, Nat.zero_le _⟩, Rk.nil _ _ _ _, by rw [RdScL]⟩
theorem five_cells5 {W : World} {g : Nat} {T : TypeId} {x0 x1 x2 x3 x4 : Value} (h : Blk W g T #[x0, x1, x2, x3, x4]) : W.cell? ⟨g, 0, none⟩ = some x0 ∧ W.cell? ⟨g, 1, none⟩ = some x1 ∧ W.cell? ⟨g, 2, none⟩ = some x2 ∧ W.cell? ⟨g, 3, none⟩ = some x3 ∧ W.cell? ⟨g, 4, none⟩ = some x4 ∧
    W.frozen? ⟨g, 0, none⟩ = false ∧ W.frozen? ⟨g, 1, none⟩ = false ∧ W.frozen? ⟨g, 2, none⟩ = false ∧ W.frozen? ⟨g, 3, none⟩ = false ∧ W.frozen? ⟨g, 4, none⟩ = false :=
  ⟨h.cell 0, h.cell 1, h.cell 2, h.cell 3, h.cell 4, h.frozen 0, h.frozen 1, h.frozen 2, h.frozen 3, h.frozen 4⟩
theorem Blk.xW {w w1 : World} {g b : Nat} {T : TypeId} {cs : Array Value} (h : Blk w b T cs) (hx : GrX w w1 g) (hn : b ≠ g) : Blk w1 b T cs := h.grown hx (fun e => hn (Option.some.inj e))
def slLenW : Value → Nat
  | .slice _ n _ => n
  | _ => 0
theorem aloneS_many {op : Int} {ks : List Sc} (h : ¬ ks.length = 1) : aloneS op ks = .mk op ⟨#[]⟩ 0 0 ks := by
  match ks, h with
  | [], _ => rfl
  | [_], h => exact absurd rfl h
  | _ :: _ :: _, _ => rfl
theorem sevW_step {one : Wst → Sc × Wst} (h1 : ∀ s, GoesW s (one s).2) {m : ByteArray} {n : Nat} {ks : List Sc} {s : Wst} (h : aheadW m s = true) (hn : s.fail = false → s.l.length < n) :
    ∃ n', n = n' + 1 ∧ sevW one m n ks s = sevW one m n' (ks ++ [(one (takeW s).2).1]) (one (takeW s).2).2 ∧ ((one (takeW s).2).2.fail = false → (one (takeW s).2).2.l.length < n') := by
  obtain ⟨l, f⟩ := s
  have h' := h
  unfold aheadW at h'
  rw [Bool.and_eq_true] at h'
  have hf : f = false := by simpa using h'.1
  subst hf
  cases l with
  | nil => exact absurd h'.2 (by simp)
  | cons a r =>
    have h2 := hn rfl
    rw [List.length_cons] at h2
    match n, h2 with
    | n + 1, h2 =>
      refine ⟨n, rfl, by rw [sevW, if_pos h], fun _ => ?_⟩
      have h3 := (h1 (takeW ⟨a :: r, false⟩).2).len
      have h4 : (takeW ⟨a :: r, false⟩).2.l.length = r.length := rfl
      omega
theorem sevW_end {one : Wst → Sc × Wst} {m : ByteArray} {n : Nat} {ks : List Sc} {s : Wst} (h : aheadW m s = false) : sevW one m n ks s = (ks, s) := by
  cases n with
  | zero => rfl
  | succ n => rw [sevW, h, if_neg (by simp)]
section
variable {w w' : World} {g : Nat} {s : Wst}
/-- Where the loop of several stands. -/
def SevTW (one : Wst → Sc × Wst) (m : ByteArray) (R : List Sc × Wst) (w : World) (g : Nat) (v : Value) (wr : World) : Prop :=
  ∃ (ks ks' : List Sc) (cs : List Value) (s : Wst) (n : Nat) (A : Option Addr) (c : Nat), v = .slice A ks'.length c ∧ ScOwn (w.heap.size + 1) wr v ks' cs ∧ ks'.length = ks.length ∧ (s.fail = false → ks' = ks) ∧ MadeW 77 w g s wr ∧ Blk wr w.heap.size 39 scZ ∧
    R = sevW one m n ks s ∧ (s.fail = false → s.l.length < n) ∧ 1 ≤ ks.length ∧ ks.length + n ≤ 2003
set_option maxRecDepth 100000 in
set_option maxHeartbeats 4000000 in
theorem wsev_fact (op : Int) (m : ByteArray) (d : Int) (one : Wst → Sc × Wst) (h1 : ∀ s, GoesW s (one s).2) (cOne : ∀ (W : World) (s : Wst), EnvW 77 W g s → Calls Tryd.prog 97 #[.pointer (some ⟨g, 0, none⟩), .int .i64 d] W (PW 77 W g (one s))) (h : EnvW 77 w g s) :
    Calls Tryd.prog 69 #[.pointer (some ⟨g, 0, none⟩), .int .i64 op, .string m, .func (.func 97) #[.pointer (some ⟨g, 0, none⟩)] #[], .int .i64 d] w (PW 77 w g (manyW one op m s)) := by
  have hgl := h.lt
  have hGA := Gr.alloc w (.cells scZ 39)
  have hB0 := Blk.new w 39 scZ
  have hs1 : (w.alloc (.cells scZ 39)).heap.size = w.heap.size + 1 := by simp
  have c1 := cOne _ s (h.gr hGA)
  have HOne := Lib.hid cOne
  have H1 := Lib.hid h1
  have hlen : (one s).2.l.length ≤ s.l.length := (h1 s).len
  have hlen2 := h.len
  have hfin : ∀ (W : World) (ks' : List Sc) (q : Wst) (o_ : Int) (m_ : ByteArray) (f_ t_ : Int) (A_ : Option Addr) (n_ c_ : Nat), q = (manyW one op m s).2 → (q.fail = false → aloneS op ks' = (manyW one op m s).1) → RdSc W (fun b => w.heap.size + 1 ≤ b ∧ b < W.heap.size) (aloneS op ks') (.agg (scC o_ m_ f_ t_ A_ n_ c_)) → MadeW 77 w g q W →
      PW 77 w g (manyW one op m s) (.returned (.agg (scC o_ m_ f_ t_ A_ n_ c_))) (set5v W w.heap.size (.int .i64 o_) (.string m_) (.int .i64 f_) (.int .i64 t_) (.slice A_ n_ c_)) := by
    intro W ks' q o_ m_ f_ t_ A_ n_ c_ hq he hr hm
    exact ⟨_, _, _, _, _, _, _, _, rfl, hr.set5 rfl _ _ _ _ _, fun h0 => he (by rw [hq]; exact h0), by rw [← hq]; exact hm.set5 hgl (Nat.le_refl _) _ _ _ _ _⟩
  have hR : (sevW one m (s.l.length + 1) [(one s).1] (one s).2).2 = (manyW one op m s).2 := rfl
  have hR1 : aloneS op (sevW one m (s.l.length + 1) [(one s).1] (one s).2).1 = (manyW one op m s).1 := rfl
  rw [← hR1, ← hR] at hfin
  have HFin := Lib.hid hfin
  clear hfin cOne h1
  generalize hRR : sevW one m (s.l.length + 1) [(one s).1] (one s).2 = R at *
  have HRR := Lib.hid hRR
  generalize hPost : PW 77 w g (manyW one op m s) = Post at *
  unfold PW at c1
  generalize one s = o1 at *
  obtain ⟨x1, s1⟩ := o1
  dsimp only at c1 hlen
  clear hRR hPost h hR hR1
  go_enter Tryd.func69, Tryd.ntmps69
  go_wp2_with (go_at_call 97; (with_reducible refine c1.mono ?_); rintro e w1 ⟨o1, m1, f1, t1, A1, n1, a1, x, rfl, hr1, he1, hm1⟩)
  have hw1 : w.heap.size + 1 ≤ w1.heap.size := by have := hm1.2.size; omega
  have hBn := Blk.new w1 39 (scC o1 m1 f1 t1 A1 n1 a1)
  have hGn := Gr.alloc w1 (.cells (scC o1 m1 f1 t1 A1 n1 a1) 39)
  have hX0 : ScOwn (w.heap.size + 1) (w1.alloc (.cells (scC o1 m1 f1 t1 A1 n1 a1) 39)) (.slice (some ⟨w1.heap.size, 0, none⟩) 1 1) [x] _ := ScOwn.one hBn hw1 (RdSc.mono (fun b hb => ⟨by rw [← hs1]; exact hb.1, Nat.lt_of_lt_of_le hb.2 hGn.size, by omega⟩) _ _ (RdSc.keep (fun p hp => hGn.cell hp.2) _ _ hr1))
  have hst : SevTW one m R w g (.slice (some ⟨w1.heap.size, 0, none⟩) 1 1) (w1.alloc (.cells (scC o1 m1 f1 t1 A1 n1 a1) 39)) :=
    ⟨[x1], [x], _, s1, s.l.length + 1, _, _, rfl, hX0, rfl, fun h0 => by rw [he1 h0], (hm1.after hGA).gr hGn, (hB0.xW hm1.2 (by omega)).below hGn (by have := hm1.2.size; omega), HRR.out.symm, fun _ => by omega, Nat.le_refl _, by simp; omega⟩
  clear hX0 hBn hm1 hr1 he1 hlen hlen2
  go_loopw [11] (fun v11 wr => SevTW one m R w g v11 wr) (fun v11 _ => 2100 - slLenW v11)
  case atStart => exact hst
  case round =>
    clear hst
    obtain ⟨ks, ks', cs, s, n, A, c, rfl, hX, hkl, hke, hm, hBr, hRe, hn, hk1, hkn⟩ := hrel
    have cA := wahead_any m hm.1
    cases hT : aheadW m s with
    | true =>
      rw [hT] at cA
      have cW := fun W (hE : EnvW 77 W g s) => wtake_any hE
      obtain ⟨n', rfl, hst2, hn2⟩ := sevW_step (ks := ks) H1.out hT hn
      rw [hst2] at hRe
      have HOK := Lib.hid (fun h0 => (takeW_goes s).ok ((H1.out _).ok h0) : (one (takeW s).2).2.fail = false → s.fail = false)
      generalize takeW s = o2 at *
      obtain ⟨tx, s2⟩ := o2
      dsimp only at *
      have c1 := fun W hE => HOne.out W s2 hE
      unfold PW at c1
      generalize one s2 = o1 at *
      obtain ⟨x2, s3⟩ := o1
      dsimp only at c1 hRe hn2 HOK
      have HRe := Lib.hid hRe
      have HKE := Lib.hid hke
      have HN := Lib.hid hn2
      have HKL := Lib.hid hkl
      have hkb : ks'.length ≤ 100000 := by omega
      clear hRe hke hn2 hn hst2 hT hkl
      go_wp2_with (first
        | (go_at_call 95; (with_reducible refine cA.mono ?_); rintro e w2 ⟨rfl, hb2⟩)
        | (go_at_call 96; (with_reducible refine (cW _ (hm.1.gr hb2)).mono ?_); rintro e w3 ⟨rfl, hm3⟩)
        | (go_at_call 97; (with_reducible refine (c1 _ hm3.1).mono ?_); rintro e w4 ⟨o1, m1, f1, t1, A1, n1, a1, x, rfl, hr1, he1, hm4⟩
           have hM4 := ((hm.gr hb2).tr hm3).tr hm4
           have hGn := Gr.alloc w4 (.cells (scC o1 m1 f1 t1 A1 n1 a1) 39)
           have hM5 := hM4.gr hGn
           have hX3 := (hX.gr hb2).x hm3.2 (by omega)
           have hX5 := (hX3.x hm4.2 (by omega)).gr hGn
           have hBn := Blk.new w4 39 (scC o1 m1 f1 t1 A1 n1 a1)
           have hB5 := (((hBr.below hb2 hBr.lt).xW hm3.2 (by omega)).xW hm4.2 (by omega)).below hGn (by have h1 := hBr.lt; have h2 := hb2.size; have h3 := hm3.2.size; have h4 := hm4.2.size; omega)
           have hw3 : w.heap.size + 1 ≤ w3.heap.size := by have h1 := hBr.lt; have h2 := hb2.size; have h3 := hm3.2.size; omega
           have hle5 : w.heap.size + 1 ≤ (w4.alloc (.cells (scC o1 m1 f1 t1 A1 n1 a1) 39)).heap.size := by have h4 := hm4.2.size; have h5 := hGn.size; omega)
        | (at_builtin
           go_loud (refine wpList_appendSc _ rfl (.tmp 21) (.tmp 25) rfl (w.heap.size + 1) _ ks' cs rfl hX5 x o1 f1 t1 m1 A1 n1 a1 _ rfl hBn ?_ hkb hle5 ?_)
           · exact RdSc.mono (fun b hb => ⟨by omega, Nat.lt_of_lt_of_le hb.2 hGn.size, own_ltW hX3.row b hb.1⟩) _ _ (RdSc.keep (fun p hp => hGn.cell hp.2) _ _ hr1)
           intro v6 w6 hX6 hb6
           obtain ⟨A6, c6, hv6⟩ := hX6.vform
           rw [List.length_append, List.length_singleton] at hv6
           subst hv6))
      go_roundw
      case rel => exact ⟨ks ++ [x2], ks' ++ [x], _, s3, n', A6, c6, by simp, hX6, by simp [HKL.out], fun h0 => by rw [he1 h0, HKE.out (HOK.out h0)], hM5.below hgl (by omega) hb6, hB5.below hb6 (by omega), HRe.out, HN.out, by simp, by simp; omega⟩
      case measure => simp [slLenW]; have := HKL.out; omega
    | false =>
      rw [hT] at cA
      rw [sevW_end hT] at hRe
      obtain rfl := hRe
      clear hn HRR H1 HOne
      by_cases hk : ks'.length = 1
      · obtain ⟨x', rfl⟩ := List.length_eq_one_iff.1 hk
        have HKE := Lib.hid hke
        clear hke hk hkl
        go_wp2_with (go_at_call 95; (with_reducible refine cA.mono ?_); rintro e w2 ⟨rfl, hb2⟩
                     obtain ⟨gb, cp, v0, v1, v2, v3, v4, hv, hgb, hgb2, k0, k1, k2, k3, k4, hrx⟩ := (hX.gr hb2).sole
                     obtain ⟨o_, m_, f_, t_, A_, n_, c_, hf⟩ := scRd_form hrx
                     obtain ⟨rfl, rfl, rfl, rfl, rfl⟩ : v0 = .int .i64 o_ ∧ v1 = .string m_ ∧ v2 = .int .i64 f_ ∧ v3 = .int .i64 t_ ∧ v4 = .slice A_ n_ c_ := by simpa using hf
                     obtain rfl : A = some ⟨gb, 0, none⟩ := by injection hv
                     have hB2 := hBr.below hb2 hBr.lt
                     obtain ⟨r0, r1, r2, r3, r4, q0, q1, q2, q3, q4⟩ := five_cells5 hB2
                     clear hf hv)
        obtain ⟨z0, z1, z2, z3, z4, -⟩ := five_cells5 (hB2.put5 (y0 := .int .i64 o_) (y1 := .string m_) (y2 := .int .i64 f_) (y3 := .int .i64 t_) (y4 := .slice A_ n_ c_))
        exact bodyPost_ret (v := .agg (scC o_ m_ f_ t_ A_ n_ c_)) (by simp [results, Tryd.results69, go_sem, z0, z1, z2, z3, z4]) rfl (HFin.out w2 [x'] s o_ m_ f_ t_ A_ n_ c_ rfl (fun h0 => by rw [HKE.out h0]) hrx (hm.gr hb2))
      · have e1 : ((ks'.length : Int) == 1) = false := by simp; omega
        have e2 : decide (ks'.length = 1) = false := decide_eq_false hk
        have ea := aloneS_many (op := op) hk
        have HKE := Lib.hid hke
        have HEA := Lib.hid ea
        clear hke hk hkl ea
        go_wp2_with (go_at_call 95; (with_reducible refine cA.mono ?_); rintro e w2 ⟨rfl, hb2⟩
                     obtain ⟨A2, c2, hv, hrx⟩ := (hX.gr hb2).node op
                     clear hv
                     have hB2 := hBr.below hb2 hBr.lt
                     obtain ⟨r0, r1, r2, r3, r4, q0, q1, q2, q3, q4⟩ := five_cells5 hB2)
        obtain ⟨z0, z1, z2, z3, z4, -⟩ := five_cells5 (hB2.put5 (y0 := .int .i64 op) (y1 := .string ⟨#[]⟩) (y2 := .int .i64 0) (y3 := .int .i64 0) (y4 := .slice A ks'.length c))
        exact bodyPost_ret (v := .agg (scC op ⟨#[]⟩ 0 0 A ks'.length c)) (by simp [results, Tryd.results69, go_sem, z0, z1, z2, z3, z4]) rfl (HFin.out w2 ks' s op ⟨#[]⟩ 0 0 A ks'.length c rfl (fun h0 => by rw [HKE.out h0]) (by rw [HEA.out]; exact hrx) (hm.gr hb2))
set_option maxRecDepth 100000 in
set_option maxHeartbeats 4000000 in
theorem wsev_term (op : Int) (m : ByteArray) (d : Int) (one : Wst → Sc × Wst) (h1 : ∀ s, GoesW s (one s).2) (cOne : ∀ (W : World) (s : Wst), EnvW 77 W g s → Calls Tryd.prog 70 #[.pointer (some ⟨g, 0, none⟩), .int .i64 d] W (PW 77 W g (one s))) (h : EnvW 77 w g s) :
    Calls Tryd.prog 69 #[.pointer (some ⟨g, 0, none⟩), .int .i64 op, .string m, .func (.func 70) #[.pointer (some ⟨g, 0, none⟩)] #[], .int .i64 d] w (PW 77 w g (manyW one op m s)) := by
  have hgl := h.lt
  have hGA := Gr.alloc w (.cells scZ 39)
  have hB0 := Blk.new w 39 scZ
  have hs1 : (w.alloc (.cells scZ 39)).heap.size = w.heap.size + 1 := by simp
  have c1 := cOne _ s (h.gr hGA)
  have HOne := Lib.hid cOne
  have H1 := Lib.hid h1
  have hlen : (one s).2.l.length ≤ s.l.length := (h1 s).len
  have hlen2 := h.len
  have hfin : ∀ (W : World) (ks' : List Sc) (q : Wst) (o_ : Int) (m_ : ByteArray) (f_ t_ : Int) (A_ : Option Addr) (n_ c_ : Nat), q = (manyW one op m s).2 → (q.fail = false → aloneS op ks' = (manyW one op m s).1) → RdSc W (fun b => w.heap.size + 1 ≤ b ∧ b < W.heap.size) (aloneS op ks') (.agg (scC o_ m_ f_ t_ A_ n_ c_)) → MadeW 77 w g q W →
      PW 77 w g (manyW one op m s) (.returned (.agg (scC o_ m_ f_ t_ A_ n_ c_))) (set5v W w.heap.size (.int .i64 o_) (.string m_) (.int .i64 f_) (.int .i64 t_) (.slice A_ n_ c_)) := by
    intro W ks' q o_ m_ f_ t_ A_ n_ c_ hq he hr hm
    exact ⟨_, _, _, _, _, _, _, _, rfl, hr.set5 rfl _ _ _ _ _, fun h0 => he (by rw [hq]; exact h0), by rw [← hq]; exact hm.set5 hgl (Nat.le_refl _) _ _ _ _ _⟩
  have hR : (sevW one m (s.l.length + 1) [(one s).1] (one s).2).2 = (manyW one op m s).2 := rfl
  have hR1 : aloneS op (sevW one m (s.l.length + 1) [(one s).1] (one s).2).1 = (manyW one op m s).1 := rfl
  rw [← hR1, ← hR] at hfin
  have HFin := Lib.hid hfin
  clear hfin cOne h1
  generalize hRR : sevW one m (s.l.length + 1) [(one s).1] (one s).2 = R at *
  have HRR := Lib.hid hRR
  generalize hPost : PW 77 w g (manyW one op m s) = Post at *
  unfold PW at c1
  generalize one s = o1 at *
  obtain ⟨x1, s1⟩ := o1
  dsimp only at c1 hlen
  clear hRR hPost h hR hR1
  go_enter Tryd.func69, Tryd.ntmps69
  go_wp2_with (go_at_call 70; (with_reducible refine c1.mono ?_); rintro e w1 ⟨o1, m1, f1, t1, A1, n1, a1, x, rfl, hr1, he1, hm1⟩)
  have hw1 : w.heap.size + 1 ≤ w1.heap.size := by have := hm1.2.size; omega
  have hBn := Blk.new w1 39 (scC o1 m1 f1 t1 A1 n1 a1)
  have hGn := Gr.alloc w1 (.cells (scC o1 m1 f1 t1 A1 n1 a1) 39)
  have hX0 : ScOwn (w.heap.size + 1) (w1.alloc (.cells (scC o1 m1 f1 t1 A1 n1 a1) 39)) (.slice (some ⟨w1.heap.size, 0, none⟩) 1 1) [x] _ := ScOwn.one hBn hw1 (RdSc.mono (fun b hb => ⟨by rw [← hs1]; exact hb.1, Nat.lt_of_lt_of_le hb.2 hGn.size, by omega⟩) _ _ (RdSc.keep (fun p hp => hGn.cell hp.2) _ _ hr1))
  have hst : SevTW one m R w g (.slice (some ⟨w1.heap.size, 0, none⟩) 1 1) (w1.alloc (.cells (scC o1 m1 f1 t1 A1 n1 a1) 39)) :=
    ⟨[x1], [x], _, s1, s.l.length + 1, _, _, rfl, hX0, rfl, fun h0 => by rw [he1 h0], (hm1.after hGA).gr hGn, (hB0.xW hm1.2 (by omega)).below hGn (by have := hm1.2.size; omega), HRR.out.symm, fun _ => by omega, Nat.le_refl _, by simp; omega⟩
  clear hX0 hBn hm1 hr1 he1 hlen hlen2
  go_loopw [11] (fun v11 wr => SevTW one m R w g v11 wr) (fun v11 _ => 2100 - slLenW v11)
  case atStart => exact hst
  case round =>
    clear hst
    obtain ⟨ks, ks', cs, s, n, A, c, rfl, hX, hkl, hke, hm, hBr, hRe, hn, hk1, hkn⟩ := hrel
    have cA := wahead_any m hm.1
    cases hT : aheadW m s with
    | true =>
      rw [hT] at cA
      have cW := fun W (hE : EnvW 77 W g s) => wtake_any hE
      obtain ⟨n', rfl, hst2, hn2⟩ := sevW_step (ks := ks) H1.out hT hn
      rw [hst2] at hRe
      have HOK := Lib.hid (fun h0 => (takeW_goes s).ok ((H1.out _).ok h0) : (one (takeW s).2).2.fail = false → s.fail = false)
      generalize takeW s = o2 at *
      obtain ⟨tx, s2⟩ := o2
      dsimp only at *
      have c1 := fun W hE => HOne.out W s2 hE
      unfold PW at c1
      generalize one s2 = o1 at *
      obtain ⟨x2, s3⟩ := o1
      dsimp only at c1 hRe hn2 HOK
      have HRe := Lib.hid hRe
      have HKE := Lib.hid hke
      have HN := Lib.hid hn2
      have HKL := Lib.hid hkl
      have hkb : ks'.length ≤ 100000 := by omega
      clear hRe hke hn2 hn hst2 hT hkl
      go_wp2_with (first
        | (go_at_call 95; (with_reducible refine cA.mono ?_); rintro e w2 ⟨rfl, hb2⟩)
        | (go_at_call 96; (with_reducible refine (cW _ (hm.1.gr hb2)).mono ?_); rintro e w3 ⟨rfl, hm3⟩)
        | (go_at_call 70; (with_reducible refine (c1 _ hm3.1).mono ?_); rintro e w4 ⟨o1, m1, f1, t1, A1, n1, a1, x, rfl, hr1, he1, hm4⟩
           have hM4 := ((hm.gr hb2).tr hm3).tr hm4
           have hGn := Gr.alloc w4 (.cells (scC o1 m1 f1 t1 A1 n1 a1) 39)
           have hM5 := hM4.gr hGn
           have hX3 := (hX.gr hb2).x hm3.2 (by omega)
           have hX5 := (hX3.x hm4.2 (by omega)).gr hGn
           have hBn := Blk.new w4 39 (scC o1 m1 f1 t1 A1 n1 a1)
           have hB5 := (((hBr.below hb2 hBr.lt).xW hm3.2 (by omega)).xW hm4.2 (by omega)).below hGn (by have h1 := hBr.lt; have h2 := hb2.size; have h3 := hm3.2.size; have h4 := hm4.2.size; omega)
           have hw3 : w.heap.size + 1 ≤ w3.heap.size := by have h1 := hBr.lt; have h2 := hb2.size; have h3 := hm3.2.size; omega
           have hle5 : w.heap.size + 1 ≤ (w4.alloc (.cells (scC o1 m1 f1 t1 A1 n1 a1) 39)).heap.size := by have h4 := hm4.2.size; have h5 := hGn.size; omega)
        | (at_builtin
           go_loud (refine wpList_appendSc _ rfl (.tmp 21) (.tmp 25) rfl (w.heap.size + 1) _ ks' cs rfl hX5 x o1 f1 t1 m1 A1 n1 a1 _ rfl hBn ?_ hkb hle5 ?_)
           · exact RdSc.mono (fun b hb => ⟨by omega, Nat.lt_of_lt_of_le hb.2 hGn.size, own_ltW hX3.row b hb.1⟩) _ _ (RdSc.keep (fun p hp => hGn.cell hp.2) _ _ hr1)
           intro v6 w6 hX6 hb6
           obtain ⟨A6, c6, hv6⟩ := hX6.vform
           rw [List.length_append, List.length_singleton] at hv6
           subst hv6))
      go_roundw
      case rel => exact ⟨ks ++ [x2], ks' ++ [x], _, s3, n', A6, c6, by simp, hX6, by simp [HKL.out], fun h0 => by rw [he1 h0, HKE.out (HOK.out h0)], hM5.below hgl (by omega) hb6, hB5.below hb6 (by omega), HRe.out, HN.out, by simp, by simp; omega⟩
      case measure => simp [slLenW]; have := HKL.out; omega
    | false =>
      rw [hT] at cA
      rw [sevW_end hT] at hRe
      obtain rfl := hRe
      clear hn HRR H1 HOne
      by_cases hk : ks'.length = 1
      · obtain ⟨x', rfl⟩ := List.length_eq_one_iff.1 hk
        have HKE := Lib.hid hke
        clear hke hk hkl
        go_wp2_with (go_at_call 95; (with_reducible refine cA.mono ?_); rintro e w2 ⟨rfl, hb2⟩
                     obtain ⟨gb, cp, v0, v1, v2, v3, v4, hv, hgb, hgb2, k0, k1, k2, k3, k4, hrx⟩ := (hX.gr hb2).sole
                     obtain ⟨o_, m_, f_, t_, A_, n_, c_, hf⟩ := scRd_form hrx
                     obtain ⟨rfl, rfl, rfl, rfl, rfl⟩ : v0 = .int .i64 o_ ∧ v1 = .string m_ ∧ v2 = .int .i64 f_ ∧ v3 = .int .i64 t_ ∧ v4 = .slice A_ n_ c_ := by simpa using hf
                     obtain rfl : A = some ⟨gb, 0, none⟩ := by injection hv
                     have hB2 := hBr.below hb2 hBr.lt
                     obtain ⟨r0, r1, r2, r3, r4, q0, q1, q2, q3, q4⟩ := five_cells5 hB2
                     clear hf hv)
        obtain ⟨z0, z1, z2, z3, z4, -⟩ := five_cells5 (hB2.put5 (y0 := .int .i64 o_) (y1 := .string m_) (y2 := .int .i64 f_) (y3 := .int .i64 t_) (y4 := .slice A_ n_ c_))
        exact bodyPost_ret (v := .agg (scC o_ m_ f_ t_ A_ n_ c_)) (by simp [results, Tryd.results69, go_sem, z0, z1, z2, z3, z4]) rfl (HFin.out w2 [x'] s o_ m_ f_ t_ A_ n_ c_ rfl (fun h0 => by rw [HKE.out h0]) hrx (hm.gr hb2))
      · have e1 : ((ks'.length : Int) == 1) = false := by simp; omega
        have e2 : decide (ks'.length = 1) = false := decide_eq_false hk
        have ea := aloneS_many (op := op) hk
        have HKE := Lib.hid hke
        have HEA := Lib.hid ea
        clear hke hk hkl ea
        go_wp2_with (go_at_call 95; (with_reducible refine cA.mono ?_); rintro e w2 ⟨rfl, hb2⟩
                     obtain ⟨A2, c2, hv, hrx⟩ := (hX.gr hb2).node op
                     clear hv
                     have hB2 := hBr.below hb2 hBr.lt
                     obtain ⟨r0, r1, r2, r3, r4, q0, q1, q2, q3, q4⟩ := five_cells5 hB2)
        obtain ⟨z0, z1, z2, z3, z4, -⟩ := five_cells5 (hB2.put5 (y0 := .int .i64 op) (y1 := .string ⟨#[]⟩) (y2 := .int .i64 0) (y3 := .int .i64 0) (y4 := .slice A ks'.length c))
        exact bodyPost_ret (v := .agg (scC op ⟨#[]⟩ 0 0 A ks'.length c)) (by simp [results, Tryd.results69, go_sem, z0, z1, z2, z3, z4]) rfl (HFin.out w2 ks' s op ⟨#[]⟩ 0 0 A ks'.length c rfl (fun h0 => by rw [HKE.out h0]) (by rw [HEA.out]; exact hrx) (hm.gr hb2))
end
end Go.Proofs.YtppnlijeonneeaaDoor

namespace Go.Proofs.YtppnlijeonneeaaDoor
open Go Go.RowKit Go.Sort

theorem atoi_num13 (l : List UInt8) (h1 : 1 ≤ l.length) (h13 : l.length ≤ 13) :
    (∃ v : Nat, Lib.atoiAll l = .ok v ∧ Lib.itoa v = l ∧ numD l 13 = v) ∨ ((∀ v : Int, Lib.atoiAll l = .ok v → v < 0 ∨ Lib.itoa v ≠ l) ∧ numD l 13 = -1) := by
  by_cases hz : 1 < l.length ∧ l.head? = some 48
  · right
    refine ⟨fun v hv => ?_, by rw [numD, if_pos (.inr (.inr hz))]⟩
    by_cases h0 : v < 0
    · exact .inl h0
    · right
      intro e
      rw [Lib.itoa, if_neg h0] at e
      exact digits_head v.toNat (by rw [e]; exact hz.1) (by rw [e]; exact hz.2)
  · have hno : ¬ ((l.length : Int) < 1 ∨ (13 : Int) < l.length ∨ (1 < l.length ∧ l.head? = some 48)) := by
      rintro (h | h | h)
      · omega
      · omega
      · exact hz h
    cases hd : Lib.decFrom 0 l with
    | some n =>
      left
      have e := digits_of l n (by rintro rfl; simp at h1) hd (by intro h e; exact hz ⟨h, e⟩)
      refine ⟨n, ?_, by rw [Lib.itoa_nonneg]; exact e.symm, by rw [numD, if_neg hno, hd]⟩
      have hlt := Lib.decFrom_lt18 hd (by omega)
      have hm : Lib.parseMag l = .ok n := by
        rw [Lib.parseMag_short l (by omega)]
        unfold Lib.decNat
        cases l with
        | nil => simp at h1
        | cons c r => simp [hd, Lib.NumEnd.ofOption]
      cases l with
      | nil => simp at h1
      | cons c r =>
        have hc : ∃ d, Lib.digitVal c = some d := Lib.digit_of_decFrom _ _ _ hd 0 c rfl
        obtain ⟨d, hc⟩ := hc
        obtain ⟨c1, c2, _⟩ := Lib.digitVal_eq hc
        rw [Lib.atoiAll_plain c r (by omega) (by omega), hm]
        simp only [Lib.signless]
        rw [if_neg (by omega)]
    | none =>
      right
      refine ⟨fun v hv => ?_, by rw [numD, if_neg hno, hd]⟩
      by_cases h0 : v < 0
      · exact .inl h0
      · right
        intro e
        rw [Lib.itoa, if_neg h0] at e
        rw [← e, decFrom_digits] at hd
        cases hd
theorem num13_short (l : List UInt8) (h : l.length < 1 ∨ 13 < l.length) : numD l 13 = -1 := by rw [numD, if_pos (by omega)]
/-- How a number's text may go. -/
theorem num13_ways (l : List UInt8) : (∀ v : Int, Lib.atoiAll l ≠ .ok v) ∧ numD l 13 = -1 ∨ (∃ v : Int, Lib.atoiAll l = .ok v ∧ ((v < 0 ∧ numD l 13 = -1) ∨ (0 ≤ v ∧ 13 < l.length ∧ numD l 13 = -1) ∨ (0 ≤ v ∧ l.length ≤ 13 ∧ Lib.itoa v ≠ l ∧ numD l 13 = -1) ∨ (0 ≤ v ∧ l.length ≤ 13 ∧ Lib.itoa v = l ∧ numD l 13 = v))) := by
  by_cases hs : l.length < 1 ∨ 13 < l.length
  · have hn := num13_short l hs
    rcases hc : Lib.atoiAll l with v | _ | _
    · right
      refine ⟨v, rfl, ?_⟩
      by_cases h0 : v < 0
      · exact .inl ⟨h0, hn⟩
      · right
        by_cases h13 : 13 < l.length
        · exact .inl ⟨by omega, h13, hn⟩
        · right; left
          refine ⟨by omega, by omega, ?_, hn⟩
          intro e
          have h1 : l.length < 1 := by omega
          have h2 : 1 ≤ (Lib.decDigits v.toNat).length := by
            have := itoa_ne v.toNat
            cases e2 : Lib.decDigits v.toNat with
            | nil => exact absurd e2 this
            | cons a b => simp
          rw [Lib.itoa, if_neg h0] at e
          rw [← e] at h1
          omega
    · left; exact ⟨fun v => by simp, hn⟩
    · left; exact ⟨fun v => by simp, hn⟩
  · rcases atoi_num13 l (by omega) (by omega) with ⟨v, h1, h2, h3⟩ | ⟨h1, h2⟩
    · right
      exact ⟨v, h1, .inr (.inr (.inr ⟨by omega, by omega, h2, h3⟩))⟩
    · rcases hc : Lib.atoiAll l with v | _ | _
      · right
        refine ⟨v, rfl, ?_⟩
        rcases h1 v hc with h | h
        · exact .inl ⟨h, h2⟩
        · by_cases h0 : v < 0
          · exact .inl ⟨h0, h2⟩
          · exact .inr (.inr (.inl ⟨by omega, by omega, h, h2⟩))
      · left; exact ⟨fun v => by simp, h2⟩
      · left; exact ⟨fun v => by simp, h2⟩
/-- What number tells. -/
def PNum (l : List UInt8) (w : World) (e : Ending) (w' : World) : Prop := ∃ v : Int, e = .returned (.tuple #[.int .i64 v, .bool (decide (0 ≤ numD l 13))]) ∧ (0 ≤ numD l 13 → v = numD l 13) ∧ Gr w w'
theorem PNum.no {l : List UInt8} {w w' : World} {v : Int} (h : numD l 13 = -1) (hg : Gr w w') : PNum l w (.returned (.tuple #[.int .i64 v, .bool false])) w' :=
  ⟨v, by rw [h]; rfl, fun h0 => by omega, hg⟩
set_option maxRecDepth 100000 in
set_option maxHeartbeats 2000000 in
theorem wnum_any (s : ByteArray) (w : World) (hs : s.size ≤ 2000) (hV : WVars w) : Calls Tryd.prog 130 #[.string s] w (PNum s.data.toList w) := by
  have hlen : s.data.toList.length = s.size := by simp
  rcases num13_ways s.data.toList with ⟨h1, h2⟩ | ⟨v, h1, h2⟩
  · have HF := Lib.hid (fun v W hg => @PNum.no s.data.toList w W v h2 hg)
    have cE := fun W hE => atoi_err s W (by omega) hE h1
    have hE := hV.2.1
    clear hV h1 h2
    generalize hP : PNum s.data.toList w = Post at *
    clear hP
    go_enter Tryd.func130, Tryd.ntmps130
    go_wp2_with (go_at_call 25; (with_reducible refine (cE _ hE).mono ?_); rintro e w1 ⟨v, N, rfl, hb⟩)
    exact HF.out _ _ hb
  · have cO := fun W => atoi_ok s v W (by omega) h1
    have hv1 := atoiAll_le h1
    have hP0 := hV.1
    rw [hlen] at h2
    rcases h2 with ⟨h0, h2⟩ | ⟨h0, h13, h2⟩ | ⟨h0, h13, hi, h2⟩ | ⟨h0, h13, hi, h2⟩
    · have HF := Lib.hid (fun v W hg => @PNum.no s.data.toList w W v h2 hg)
      clear hV h1 h2
      generalize hP : PNum s.data.toList w = Post at *
      clear hP
      go_enter Tryd.func130, Tryd.ntmps130
      go_wp2_with (go_at_call 25; (with_reducible refine (cO _).mono ?_); rintro e w1 ⟨rfl, hb⟩)
      all_goals (try (exfalso; omega))
      exact HF.out _ _ hb
    · have HF := Lib.hid (fun v W hg => @PNum.no s.data.toList w W v h2 hg)
      clear hV h1 h2
      generalize hP : PNum s.data.toList w = Post at *
      clear hP
      go_enter Tryd.func130, Tryd.ntmps130
      go_wp2_with (go_at_call 25; (with_reducible refine (cO _).mono ?_); rintro e w1 ⟨rfl, hb⟩)
      all_goals (try (exfalso; omega))
      exact HF.out _ _ hb
    · have HF := Lib.hid (fun v W hg => @PNum.no s.data.toList w W v h2 hg)
      have hne : str (Lib.itoa v) ≠ s := fun e => hi (by rw [← e]; simp [str])
      have cI := fun W hP => itoa_any v W hP (by omega) hv1
      obtain ⟨n1, n2⟩ := str_neqW hne
      clear hV h1 h2 hi hne
      generalize str (Lib.itoa v) = t at *
      generalize hP : PNum s.data.toList w = Post at *
      clear hP
      go_enter Tryd.func130, Tryd.ntmps130
      go_wp2_with (first
        | (go_at_call 25; (with_reducible refine (cO _).mono ?_); rintro e w1 ⟨rfl, hb⟩)
        | (go_at_call 30; (with_reducible refine (cI _ (hP0.below hb)).mono ?_); rintro e w2 ⟨rfl, hb2⟩))
      all_goals (try (exfalso; omega))
      exact HF.out _ _ (Gr.trans hb hb2)
    · have hF : ∀ W, Gr w W → PNum s.data.toList w (.returned (.tuple #[.int .i64 v, .bool true])) W := fun W hg => ⟨v, by rw [h2, decide_eq_true h0], fun _ => h2.symm, hg⟩
      have HF := Lib.hid hF
      have he : str (Lib.itoa v) = s := by rw [hi]; exact data_wa s
      have cI := fun W hP => itoa_any v W hP (by omega) hv1
      rw [he] at cI
      clear hV h1 h2 hi hF he
      generalize hP : PNum s.data.toList w = Post at *
      clear hP
      go_enter Tryd.func130, Tryd.ntmps130
      go_wp2_with (first
        | (go_at_call 25; (with_reducible refine (cO _).mono ?_); rintro e w1 ⟨rfl, hb⟩)
        | (go_at_call 30; (with_reducible refine (cI _ (hP0.below hb)).mono ?_); rintro e w2 ⟨rfl, hb2⟩))
      all_goals (try (exfalso; omega))
      exact HF.out _ (Gr.trans hb hb2)
section
variable {w w' : World} {g : Nat} {s : Wst} {T : TypeId}
theorem PW.fin {W : World} {o : Sc × Wst} {o_ : Int} {m_ : ByteArray} {f_ t_ : Int} {A_ : Option Addr} {n_ c_ : Nat} {x : Sc} (hgl : g < w.heap.size) (hr : RdSc W (fun b => w.heap.size + 1 ≤ b ∧ b < W.heap.size) x (.agg (scC o_ m_ f_ t_ A_ n_ c_))) (he : o.2.fail = false → x = o.1) (hm : MadeW T w g o.2 W) :
    PW T w g o (.returned (.agg (scC o_ m_ f_ t_ A_ n_ c_))) (set5v W w.heap.size (.int .i64 o_) (.string m_) (.int .i64 f_) (.int .i64 t_) (.slice A_ n_ c_)) :=
  ⟨_, _, _, _, _, _, _, x, rfl, hr.set5 rfl _ _ _ _ _, he, hm.set5 hgl (Nat.le_refl _) _ _ _ _ _⟩
theorem cutW_len (l sep : List UInt8) : (Lib.cut l sep).1.length ≤ l.length ∧ (Lib.cut l sep).2.1.length ≤ l.length := by
  unfold Lib.cut
  split
  · simp; omega
  · simp
theorem takeW_small (h : ∀ t ∈ s.l, t.size ≤ 2000) : (takeW s).1.size ≤ 2000 := by
  obtain ⟨l, f⟩ := s
  unfold takeW
  split
  · exact Nat.zero_le _
  · cases l with
    | nil => exact Nat.zero_le _
    | cons a r => exact h a (by simp)
end
end Go.Proofs.YtppnlijeonneeaaDoor

namespace Go.Proofs.YtppnlijeonneeaaDoor
open Go Go.RowKit Go.Sort

section
variable {w w' : World} {g : Nat} {s : Wst}
theorem cut_any (a : ByteArray) (W : World) (ha : a.size ≤ 2000) (hV : WVars W) : Calls Tryd.prog 129 #[.string a, .string ⟨#[45]⟩] W fun e w' => e = .returned (.tuple #[.string (wa (Lib.cut a.data.toList [45]).1), .string (wa (Lib.cut a.data.toList [45]).2.1), .bool (Lib.cut a.data.toList [45]).2.2]) ∧ ∃ n, w' = W.drewN n := by
  obtain ⟨m, hm⟩ := hV.2.2
  exact Tryd.strings_Cut a ⟨#[45]⟩ m W (by omega) hm
set_option maxRecDepth 100000 in
set_option maxHeartbeats 4000000 in
theorem wtime_any (h : EnvW 77 w g s) : Calls Tryd.prog 114 #[.pointer (some ⟨g, 0, none⟩)] w (PW 77 w g (timeW s)) := by
  have hgl := h.lt
  have hGA := Gr.alloc w (.cells scZ 39)
  have hB0 := Blk.new w 39 scZ
  have cT := wtake_any (h.gr hGA)
  have hsz := takeW_small h.small
  have htw : timeW s = match spanW (takeW s).1.data.toList with | some (a, b) => (.mk 5 ⟨#[]⟩ a b [], (takeW s).2) | none => (scN, failW (takeW s).2) := rfl
  rw [htw]
  clear htw h
  generalize takeW s = o2 at *
  obtain ⟨a, s1⟩ := o2
  dsimp only at *
  have cC := fun W hV => cut_any a W hsz hV
  have hl := cutW_len a.data.toList [45]
  have hsp : spanW a.data.toList = if 0 ≤ numD (Lib.cut a.data.toList [45]).1 13 ∧ 0 ≤ numD (Lib.cut a.data.toList [45]).2.1 13 ∧ numD (Lib.cut a.data.toList [45]).1 13 ≤ numD (Lib.cut a.data.toList [45]).2.1 13 ∧ numD (Lib.cut a.data.toList [45]).2.1 13 ≤ 1099511627776
    then some (numD (Lib.cut a.data.toList [45]).1 13, numD (Lib.cut a.data.toList [45]).2.1 13) else none := rfl
  rw [hsp]
  clear hsp
  have hal : a.data.toList.length = a.size := by simp
  have cN1 := fun W hV => wnum_any (wa (Lib.cut a.data.toList [45]).1) W (by rw [wa_size]; omega) hV
  have cN2 := fun W hV => wnum_any (wa (Lib.cut a.data.toList [45]).2.1) W (by rw [wa_size]; omega) hV
  rw [wa_data] at cN1 cN2
  unfold PNum at cN1 cN2
  generalize wa (Lib.cut a.data.toList [45]).1 = b at *
  generalize wa (Lib.cut a.data.toList [45]).2.1 = c at *
  generalize (Lib.cut a.data.toList [45]).2.2 = fd at *
  generalize numD (Lib.cut a.data.toList [45]).1 13 = n1 at *
  generalize numD (Lib.cut a.data.toList [45]).2.1 13 = n2 at *
  clear hl hal hsz
  by_cases hp : 0 ≤ n1 ∧ 0 ≤ n2 ∧ n1 ≤ n2 ∧ n2 ≤ 1099511627776
  · rw [if_pos hp]
    obtain ⟨p1, p2, p3, p4⟩ := hp
    dsimp only
    have hF : ∀ W, MadeW 77 w g s1 W → PW 77 w g (.mk 5 ⟨#[]⟩ n1 n2 [], s1) (.returned (.agg (scC 5 ⟨#[]⟩ n1 n2 none 0 0))) (set5v W w.heap.size (.int .i64 5) (.string ⟨#[]⟩) (.int .i64 n1) (.int .i64 n2) (.slice none 0 0)) :=
      fun W hm => PW.fin (x := .mk 5 ⟨#[]⟩ n1 n2 []) hgl (rd_leaf _ _ _ _ _ _) (fun _ => rfl) hm
    have HF := Lib.hid hF
    rw [decide_eq_true p1] at cN1
    rw [decide_eq_true p2] at cN2
    have HP1 := Lib.hid p1
    have HP2 := Lib.hid p2
    clear hF p1 p2
    generalize hPost : PW 77 w g (.mk 5 ⟨#[]⟩ n1 n2 [], s1) = Post at *
    clear hPost
    go_enter Tryd.func114, Tryd.ntmps114
    go_wp2_with (first
      | (go_at_call 96; (with_reducible refine cT.mono ?_); rintro e w1 ⟨rfl, hm1⟩
         have hV1 := hm1.1.wv)
      | (go_at_call 129; (with_reducible refine (cC _ hV1).mono ?_); rintro e w2 ⟨rfl, n, rfl⟩
         have hV2 := hV1.gr (Gr.drewN w1 n)
         have hm2 := hm1.gr (Gr.drewN w1 n))
      | (go_at_call 130; (with_reducible refine (cN1 _ hV2).mono ?_); rintro e w3 ⟨v1, rfl, hv1, hg3⟩
         obtain rfl := hv1 HP1.out
         have hV3 := hV2.gr hg3
         have hm3 := hm2.gr hg3
         clear hv1)
      | (go_at_call 130; (with_reducible refine (cN2 _ hV3).mono ?_); rintro e w4 ⟨v2, rfl, hv2, hg4⟩
         obtain rfl := hv2 HP2.out
         have hm4 := hm3.gr hg4
         have hB4 := (hB0.xW (hm4.2) (by omega))
         obtain ⟨r0, r1, r2, r3, r4, q0, q1, q2, q3, q4⟩ := five_cells5 hB4
         clear hv2))
    all_goals (try (exfalso; omega))
    obtain ⟨z0, z1, z2, z3, z4, -⟩ := five_cells5 (hB4.put5 (y0 := .int .i64 5) (y1 := .string ⟨#[]⟩) (y2 := .int .i64 v1) (y3 := .int .i64 v2) (y4 := .slice none 0 0))
    exact bodyPost_ret (v := .agg (scC 5 ⟨#[]⟩ v1 v2 none 0 0)) (by simp [results, Tryd.results114, go_sem, z0, z1, z2, z3, z4]) rfl (HF.out w4 (hm4.after hGA))
  · rw [if_neg hp]
    dsimp only
    have hF : ∀ W, MadeW 77 w g s1 W → PW 77 w g (scN, failW s1) (.returned (.agg scZ)) (set5v (W.setCell ⟨g, 1, none⟩ (.bool true)) w.heap.size (.int .i64 0) (.string ⟨#[]⟩) (.int .i64 0) (.int .i64 0) (.slice none 0 0)) :=
      fun W hm => PW.fin (x := scN) hgl (rd_leaf _ _ _ _ _ _) (fun _ => rfl) (hm.tr hm.env.setF)
    have HF := Lib.hid hF
    have hng : w.heap.size ≠ g := by omega
    clear hF
    generalize hPost : PW 77 w g (scN, failW s1) = Post at *
    clear hPost
    rcases (by omega : ¬ 0 ≤ n1 ∨ (0 ≤ n1 ∧ ¬ 0 ≤ n2) ∨ (0 ≤ n1 ∧ 0 ≤ n2 ∧ n2 < n1) ∨ (0 ≤ n1 ∧ 0 ≤ n2 ∧ n1 ≤ n2 ∧ 1099511627776 < n2)) with p1 | ⟨p1, p2⟩ | ⟨p1, p2, p3⟩ | ⟨p1, p2, p3, p4⟩
    · rw [decide_eq_false p1] at cN1
      generalize decide (0 ≤ n2) = d2 at *
      clear hp p1
      go_enter Tryd.func114, Tryd.ntmps114
      go_wp2_with (first
        | (go_at_call 96; (with_reducible refine cT.mono ?_); rintro e w1 ⟨rfl, hm1⟩
           have hV1 := hm1.1.wv)
        | (go_at_call 129; (with_reducible refine (cC _ hV1).mono ?_); rintro e w2 ⟨rfl, n, rfl⟩
           have hV2 := hV1.gr (Gr.drewN w1 n)
           have hm2 := hm1.gr (Gr.drewN w1 n))
        | (go_at_call 130; (with_reducible refine (cN1 _ hV2).mono ?_); rintro e w3 ⟨v1, rfl, hv1, hg3⟩
           have hV3 := hV2.gr hg3
           have hm3 := hm2.gr hg3
           clear hv1)
        | (go_at_call 130; (with_reducible refine (cN2 _ hV3).mono ?_); rintro e w4 ⟨v2, rfl, hv2, hg4⟩
           have hm4 := hm3.gr hg4
           obtain ⟨LA, lc, g0, g1, gf0, gf1, -, -⟩ := hm4.1.cells
           have hB4 := (hB0.xW (hm4.2) (by omega))
           have hB5 := hB4.far (p := ⟨g, 1, none⟩) hng (.bool true)
           obtain ⟨r0, r1, r2, r3, r4, q0, q1, q2, q3, q4⟩ := five_cells5 hB5
           clear hv2))
      all_goals (try (exfalso; omega))
      obtain ⟨z0, z1, z2, z3, z4, -⟩ := five_cells5 (hB5.put5 (y0 := .int .i64 0) (y1 := .string ⟨#[]⟩) (y2 := .int .i64 0) (y3 := .int .i64 0) (y4 := .slice none 0 0))
      exact bodyPost_ret (v := .agg scZ) (by simp [results, Tryd.results114, go_sem, z0, z1, z2, z3, z4]) rfl (HF.out w4 (hm4.after hGA))
    · rw [decide_eq_true p1] at cN1
      rw [decide_eq_false p2] at cN2
      have HP1 := Lib.hid p1
      clear hp p1 p2
      go_enter Tryd.func114, Tryd.ntmps114
      go_wp2_with (first
        | (go_at_call 96; (with_reducible refine cT.mono ?_); rintro e w1 ⟨rfl, hm1⟩
           have hV1 := hm1.1.wv)
        | (go_at_call 129; (with_reducible refine (cC _ hV1).mono ?_); rintro e w2 ⟨rfl, n, rfl⟩
           have hV2 := hV1.gr (Gr.drewN w1 n)
           have hm2 := hm1.gr (Gr.drewN w1 n))
        | (go_at_call 130; (with_reducible refine (cN1 _ hV2).mono ?_); rintro e w3 ⟨v1, rfl, hv1, hg3⟩
           obtain rfl := hv1 HP1.out
           have hV3 := hV2.gr hg3
           have hm3 := hm2.gr hg3
           clear hv1)
        | (go_at_call 130; (with_reducible refine (cN2 _ hV3).mono ?_); rintro e w4 ⟨v2, rfl, hv2, hg4⟩
           have hm4 := hm3.gr hg4
           obtain ⟨LA, lc, g0, g1, gf0, gf1, -, -⟩ := hm4.1.cells
           have hB4 := (hB0.xW (hm4.2) (by omega))
           have hB5 := hB4.far (p := ⟨g, 1, none⟩) hng (.bool true)
           obtain ⟨r0, r1, r2, r3, r4, q0, q1, q2, q3, q4⟩ := five_cells5 hB5
           clear hv2))
      all_goals (try (exfalso; omega))
      obtain ⟨z0, z1, z2, z3, z4, -⟩ := five_cells5 (hB5.put5 (y0 := .int .i64 0) (y1 := .string ⟨#[]⟩) (y2 := .int .i64 0) (y3 := .int .i64 0) (y4 := .slice none 0 0))
      exact bodyPost_ret (v := .agg scZ) (by simp [results, Tryd.results114, go_sem, z0, z1, z2, z3, z4]) rfl (HF.out w4 (hm4.after hGA))
    · rw [decide_eq_true p1] at cN1
      rw [decide_eq_true p2] at cN2
      have HP1 := Lib.hid p1
      have HP2 := Lib.hid p2
      clear hp p1 p2
      go_enter Tryd.func114, Tryd.ntmps114
      go_wp2_with (first
        | (go_at_call 96; (with_reducible refine cT.mono ?_); rintro e w1 ⟨rfl, hm1⟩
           have hV1 := hm1.1.wv)
        | (go_at_call 129; (with_reducible refine (cC _ hV1).mono ?_); rintro e w2 ⟨rfl, n, rfl⟩
           have hV2 := hV1.gr (Gr.drewN w1 n)
           have hm2 := hm1.gr (Gr.drewN w1 n))
        | (go_at_call 130; (with_reducible refine (cN1 _ hV2).mono ?_); rintro e w3 ⟨v1, rfl, hv1, hg3⟩
           obtain rfl := hv1 HP1.out
           have hV3 := hV2.gr hg3
           have hm3 := hm2.gr hg3
           clear hv1)
        | (go_at_call 130; (with_reducible refine (cN2 _ hV3).mono ?_); rintro e w4 ⟨v2, rfl, hv2, hg4⟩
           obtain rfl := hv2 HP2.out
           have hm4 := hm3.gr hg4
           obtain ⟨LA, lc, g0, g1, gf0, gf1, -, -⟩ := hm4.1.cells
           have hB4 := (hB0.xW (hm4.2) (by omega))
           have hB5 := hB4.far (p := ⟨g, 1, none⟩) hng (.bool true)
           obtain ⟨r0, r1, r2, r3, r4, q0, q1, q2, q3, q4⟩ := five_cells5 hB5
           clear hv2))
      all_goals (try (exfalso; omega))
      obtain ⟨z0, z1, z2, z3, z4, -⟩ := five_cells5 (hB5.put5 (y0 := .int .i64 0) (y1 := .string ⟨#[]⟩) (y2 := .int .i64 0) (y3 := .int .i64 0) (y4 := .slice none 0 0))
      exact bodyPost_ret (v := .agg scZ) (by simp [results, Tryd.results114, go_sem, z0, z1, z2, z3, z4]) rfl (HF.out w4 (hm4.after hGA))
    · rw [decide_eq_true p1] at cN1
      rw [decide_eq_true p2] at cN2
      have HP1 := Lib.hid p1
      have HP2 := Lib.hid p2
      clear hp p1 p2
      go_enter Tryd.func114, Tryd.ntmps114
      go_wp2_with (first
        | (go_at_call 96; (with_reducible refine cT.mono ?_); rintro e w1 ⟨rfl, hm1⟩
           have hV1 := hm1.1.wv)
        | (go_at_call 129; (with_reducible refine (cC _ hV1).mono ?_); rintro e w2 ⟨rfl, n, rfl⟩
           have hV2 := hV1.gr (Gr.drewN w1 n)
           have hm2 := hm1.gr (Gr.drewN w1 n))
        | (go_at_call 130; (with_reducible refine (cN1 _ hV2).mono ?_); rintro e w3 ⟨v1, rfl, hv1, hg3⟩
           obtain rfl := hv1 HP1.out
           have hV3 := hV2.gr hg3
           have hm3 := hm2.gr hg3
           clear hv1)
        | (go_at_call 130; (with_reducible refine (cN2 _ hV3).mono ?_); rintro e w4 ⟨v2, rfl, hv2, hg4⟩
           obtain rfl := hv2 HP2.out
           have hm4 := hm3.gr hg4
           obtain ⟨LA, lc, g0, g1, gf0, gf1, -, -⟩ := hm4.1.cells
           have hB4 := (hB0.xW (hm4.2) (by omega))
           have hB5 := hB4.far (p := ⟨g, 1, none⟩) hng (.bool true)
           obtain ⟨r0, r1, r2, r3, r4, q0, q1, q2, q3, q4⟩ := five_cells5 hB5
           clear hv2))
      all_goals (try (exfalso; omega))
      obtain ⟨z0, z1, z2, z3, z4, -⟩ := five_cells5 (hB5.put5 (y0 := .int .i64 0) (y1 := .string ⟨#[]⟩) (y2 := .int .i64 0) (y3 := .int .i64 0) (y4 := .slice none 0 0))
      exact bodyPost_ret (v := .agg scZ) (by simp [results, Tryd.results114, go_sem, z0, z1, z2, z3, z4]) rfl (HF.out w4 (hm4.after hGA))
end
end Go.Proofs.YtppnlijeonneeaaDoor

namespace Go.Proofs.YtppnlijeonneeaaDoor
open Go Go.RowKit Go.Sort

theorem wword_2 (w : World) : Calls Tryd.prog 65 #[.int .i64 2] w fun e w' => e = .returned (.string bCase) ∧ w = w' := by
  go_enter Tryd.func65, Tryd.ntmps65
  go_wp2
  go_ret
  exact ⟨rfl, rfl⟩
theorem wword_3 (w : World) : Calls Tryd.prog 65 #[.int .i64 3] w fun e w' => e = .returned (.string bSub) ∧ w = w' := by
  go_enter Tryd.func65, Tryd.ntmps65
  go_wp2
  go_ret
  exact ⟨rfl, rfl⟩
theorem wword_4 (w : World) : Calls Tryd.prog 65 #[.int .i64 4] w fun e w' => e = .returned (.string bClass) ∧ w = w' := by
  go_enter Tryd.func65, Tryd.ntmps65
  go_wp2
  go_ret
  exact ⟨rfl, rfl⟩
theorem waysC (a : ByteArray) : a = bCase ∨ (a ≠ bCase ∧ a = bSub) ∨ (a ≠ bCase ∧ a ≠ bSub ∧ a = bClass) ∨ (a ≠ bCase ∧ a ≠ bSub ∧ a ≠ bClass) := by
  by_cases h2 : a = bCase
  · exact .inl h2
  · by_cases h3 : a = bSub
    · exact .inr (.inl ⟨h2, h3⟩)
    · by_cases h4 : a = bClass
      · exact .inr (.inr (.inl ⟨h2, h3, h4⟩))
      · exact .inr (.inr (.inr ⟨h2, h3, h4⟩))
section
variable {w w' : World} {g : Nat} {s : Wst}
set_option maxRecDepth 100000 in
set_option maxHeartbeats 8000000 in
theorem wnamed_any (a : ByteArray) (h : EnvW 77 w g s) : Calls Tryd.prog 115 #[.pointer (some ⟨g, 0, none⟩), .string a] w (PW 77 w g (namedW a s)) := by
  have hgl := h.lt
  have hGA := Gr.alloc w (.cells scZ 39)
  have hB0 := Blk.new w 39 scZ
  have cT := wtake_any (h.gr hGA)
  have hsz := takeW_small h.small
  have htw : namedW a s = if opW_ a ≠ 0 ∧ nameD (takeW s).1 = true then (.mk (opW_ a) (takeW s).1 0 0 [], (takeW s).2) else (scN, failW (takeW s).2) := rfl
  rw [htw]
  clear htw h
  generalize takeW s = o2 at *
  obtain ⟨t, s1⟩ := o2
  dsimp only at *
  have cN := fun W => name_any t W (by omega)
  clear hsz
  have hng : w.heap.size ≠ g := by omega
  have hF : ∀ W, MadeW 77 w g s1 W → PW 77 w g (scN, failW s1) (.returned (.agg scZ)) (set5v (W.setCell ⟨g, 1, none⟩ (.bool true)) w.heap.size (.int .i64 0) (.string ⟨#[]⟩) (.int .i64 0) (.int .i64 0) (.slice none 0 0)) :=
    fun W hm => PW.fin (x := scN) hgl (rd_leaf _ _ _ _ _ _) (fun _ => rfl) (hm.tr hm.env.setF)
  have hY : ∀ o W, MadeW 77 w g s1 W → PW 77 w g (.mk o t 0 0 [], s1) (.returned (.agg (scC o t 0 0 none 0 0))) (set5v W w.heap.size (.int .i64 o) (.string t) (.int .i64 0) (.int .i64 0) (.slice none 0 0)) :=
    fun o W hm => PW.fin (x := .mk o t 0 0 []) hgl (rd_leaf _ _ _ _ _ _) (fun _ => rfl) hm
  have HF := Lib.hid hF
  have HY := Lib.hid hY
  clear hF hY
  cases hn : nameD t with
  | false =>
    rw [if_neg (by simp)]
    rw [hn] at cN
    generalize hPost : PW 77 w g (scN, failW s1) = Post at *
    clear hPost hn
    rcases waysC a with rfl | ⟨h2, rfl⟩ | ⟨h2, h3, rfl⟩ | ⟨h2, h3, h4⟩
    · obtain ⟨na3, nb3⟩ := str_neqW (show bSub ≠ bCase by decide)
      obtain ⟨na4, nb4⟩ := str_neqW (show bClass ≠ bCase by decide)
      have W2 := fun w => wword_2 w
      have W3 := fun w => wword_3 w
      have W4 := fun w => wword_4 w
      go_enter Tryd.func115, Tryd.ntmps115
      go_wp2_with (first
        | (go_at_call 96; (with_reducible refine cT.mono ?_); rintro e w1 ⟨rfl, hm1⟩)
        | (go_at_call 65; first | ((with_reducible refine (W2 _).mono ?_); rintro e w2 ⟨rfl, rfl⟩) | ((with_reducible refine (W3 _).mono ?_); rintro e w2 ⟨rfl, rfl⟩) | ((with_reducible refine (W4 _).mono ?_); rintro e w2 ⟨rfl, rfl⟩))
        | (go_at_call 54; (with_reducible refine (cN _).mono ?_); rintro e w3 ⟨rfl, hb3⟩
           have hm3 := hm1.gr hb3
           obtain ⟨LA, lc, g0, g1, gf0, gf1, -, -⟩ := hm3.1.cells
           have hB4 := (hB0.xW (hm3.2) (by omega))
           have hB5 := hB4.far (p := ⟨g, 1, none⟩) hng (.bool true)
           obtain ⟨r0, r1, r2, r3, r4, q0, q1, q2, q3, q4⟩ := five_cells5 hB5))
      refine wp_loop_rounds 4 ?_
      rw [rounds_succ]
      go_wp2_with (first
        | (go_at_call 96; (with_reducible refine cT.mono ?_); rintro e w1 ⟨rfl, hm1⟩)
        | (go_at_call 65; first | ((with_reducible refine (W2 _).mono ?_); rintro e w2 ⟨rfl, rfl⟩) | ((with_reducible refine (W3 _).mono ?_); rintro e w2 ⟨rfl, rfl⟩) | ((with_reducible refine (W4 _).mono ?_); rintro e w2 ⟨rfl, rfl⟩))
        | (go_at_call 54; (with_reducible refine (cN _).mono ?_); rintro e w3 ⟨rfl, hb3⟩
           have hm3 := hm1.gr hb3
           obtain ⟨LA, lc, g0, g1, gf0, gf1, -, -⟩ := hm3.1.cells
           have hB4 := (hB0.xW (hm3.2) (by omega))
           have hB5 := hB4.far (p := ⟨g, 1, none⟩) hng (.bool true)
           obtain ⟨r0, r1, r2, r3, r4, q0, q1, q2, q3, q4⟩ := five_cells5 hB5))
      rw [rounds_succ]
      go_wp2_with (first
        | (go_at_call 96; (with_reducible refine cT.mono ?_); rintro e w1 ⟨rfl, hm1⟩)
        | (go_at_call 65; first | ((with_reducible refine (W2 _).mono ?_); rintro e w2 ⟨rfl, rfl⟩) | ((with_reducible refine (W3 _).mono ?_); rintro e w2 ⟨rfl, rfl⟩) | ((with_reducible refine (W4 _).mono ?_); rintro e w2 ⟨rfl, rfl⟩))
        | (go_at_call 54; (with_reducible refine (cN _).mono ?_); rintro e w3 ⟨rfl, hb3⟩
           have hm3 := hm1.gr hb3
           obtain ⟨LA, lc, g0, g1, gf0, gf1, -, -⟩ := hm3.1.cells
           have hB4 := (hB0.xW (hm3.2) (by omega))
           have hB5 := hB4.far (p := ⟨g, 1, none⟩) hng (.bool true)
           obtain ⟨r0, r1, r2, r3, r4, q0, q1, q2, q3, q4⟩ := five_cells5 hB5))
      rw [rounds_succ]
      go_wp2_with (first
        | (go_at_call 96; (with_reducible refine cT.mono ?_); rintro e w1 ⟨rfl, hm1⟩)
        | (go_at_call 65; first | ((with_reducible refine (W2 _).mono ?_); rintro e w2 ⟨rfl, rfl⟩) | ((with_reducible refine (W3 _).mono ?_); rintro e w2 ⟨rfl, rfl⟩) | ((with_reducible refine (W4 _).mono ?_); rintro e w2 ⟨rfl, rfl⟩))
        | (go_at_call 54; (with_reducible refine (cN _).mono ?_); rintro e w3 ⟨rfl, hb3⟩
           have hm3 := hm1.gr hb3
           obtain ⟨LA, lc, g0, g1, gf0, gf1, -, -⟩ := hm3.1.cells
           have hB4 := (hB0.xW (hm3.2) (by omega))
           have hB5 := hB4.far (p := ⟨g, 1, none⟩) hng (.bool true)
           obtain ⟨r0, r1, r2, r3, r4, q0, q1, q2, q3, q4⟩ := five_cells5 hB5))
      rw [rounds_succ]
      go_wp2_with (first
        | (go_at_call 96; (with_reducible refine cT.mono ?_); rintro e w1 ⟨rfl, hm1⟩)
        | (go_at_call 65; first | ((with_reducible refine (W2 _).mono ?_); rintro e w2 ⟨rfl, rfl⟩) | ((with_reducible refine (W3 _).mono ?_); rintro e w2 ⟨rfl, rfl⟩) | ((with_reducible refine (W4 _).mono ?_); rintro e w2 ⟨rfl, rfl⟩))
        | (go_at_call 54; (with_reducible refine (cN _).mono ?_); rintro e w3 ⟨rfl, hb3⟩
           have hm3 := hm1.gr hb3
           obtain ⟨LA, lc, g0, g1, gf0, gf1, -, -⟩ := hm3.1.cells
           have hB4 := (hB0.xW (hm3.2) (by omega))
           have hB5 := hB4.far (p := ⟨g, 1, none⟩) hng (.bool true)
           obtain ⟨r0, r1, r2, r3, r4, q0, q1, q2, q3, q4⟩ := five_cells5 hB5))
      obtain ⟨z0, z1, z2, z3, z4, -⟩ := five_cells5 (hB5.put5 (y0 := .int .i64 0) (y1 := .string ⟨#[]⟩) (y2 := .int .i64 0) (y3 := .int .i64 0) (y4 := .slice none 0 0))
      exact bodyPost_ret (v := .agg scZ) (by simp [results, Tryd.results115, go_sem, z0, z1, z2, z3, z4]) rfl (HF.out w3 (hm3.after hGA))
    · obtain ⟨na2, nb2⟩ := str_neqW (show bCase ≠ bSub by decide)
      obtain ⟨na4, nb4⟩ := str_neqW (show bClass ≠ bSub by decide)
      clear h2
      have W2 := fun w => wword_2 w
      have W3 := fun w => wword_3 w
      have W4 := fun w => wword_4 w
      go_enter Tryd.func115, Tryd.ntmps115
      go_wp2_with (first
        | (go_at_call 96; (with_reducible refine cT.mono ?_); rintro e w1 ⟨rfl, hm1⟩)
        | (go_at_call 65; first | ((with_reducible refine (W2 _).mono ?_); rintro e w2 ⟨rfl, rfl⟩) | ((with_reducible refine (W3 _).mono ?_); rintro e w2 ⟨rfl, rfl⟩) | ((with_reducible refine (W4 _).mono ?_); rintro e w2 ⟨rfl, rfl⟩))
        | (go_at_call 54; (with_reducible refine (cN _).mono ?_); rintro e w3 ⟨rfl, hb3⟩
           have hm3 := hm1.gr hb3
           obtain ⟨LA, lc, g0, g1, gf0, gf1, -, -⟩ := hm3.1.cells
           have hB4 := (hB0.xW (hm3.2) (by omega))
           have hB5 := hB4.far (p := ⟨g, 1, none⟩) hng (.bool true)
           obtain ⟨r0, r1, r2, r3, r4, q0, q1, q2, q3, q4⟩ := five_cells5 hB5))
      refine wp_loop_rounds 4 ?_
      rw [rounds_succ]
      go_wp2_with (first
        | (go_at_call 96; (with_reducible refine cT.mono ?_); rintro e w1 ⟨rfl, hm1⟩)
        | (go_at_call 65; first | ((with_reducible refine (W2 _).mono ?_); rintro e w2 ⟨rfl, rfl⟩) | ((with_reducible refine (W3 _).mono ?_); rintro e w2 ⟨rfl, rfl⟩) | ((with_reducible refine (W4 _).mono ?_); rintro e w2 ⟨rfl, rfl⟩))
        | (go_at_call 54; (with_reducible refine (cN _).mono ?_); rintro e w3 ⟨rfl, hb3⟩
           have hm3 := hm1.gr hb3
           obtain ⟨LA, lc, g0, g1, gf0, gf1, -, -⟩ := hm3.1.cells
           have hB4 := (hB0.xW (hm3.2) (by omega))
           have hB5 := hB4.far (p := ⟨g, 1, none⟩) hng (.bool true)
           obtain ⟨r0, r1, r2, r3, r4, q0, q1, q2, q3, q4⟩ := five_cells5 hB5))
      rw [rounds_succ]
      go_wp2_with (first
        | (go_at_call 96; (with_reducible refine cT.mono ?_); rintro e w1 ⟨rfl, hm1⟩)
        | (go_at_call 65; first | ((with_reducible refine (W2 _).mono ?_); rintro e w2 ⟨rfl, rfl⟩) | ((with_reducible refine (W3 _).mono ?_); rintro e w2 ⟨rfl, rfl⟩) | ((with_reducible refine (W4 _).mono ?_); rintro e w2 ⟨rfl, rfl⟩))
        | (go_at_call 54; (with_reducible refine (cN _).mono ?_); rintro e w3 ⟨rfl, hb3⟩
           have hm3 := hm1.gr hb3
           obtain ⟨LA, lc, g0, g1, gf0, gf1, -, -⟩ := hm3.1.cells
           have hB4 := (hB0.xW (hm3.2) (by omega))
           have hB5 := hB4.far (p := ⟨g, 1, none⟩) hng (.bool true)
           obtain ⟨r0, r1, r2, r3, r4, q0, q1, q2, q3, q4⟩ := five_cells5 hB5))
      rw [rounds_succ]
      go_wp2_with (first
        | (go_at_call 96; (with_reducible refine cT.mono ?_); rintro e w1 ⟨rfl, hm1⟩)
        | (go_at_call 65; first | ((with_reducible refine (W2 _).mono ?_); rintro e w2 ⟨rfl, rfl⟩) | ((with_reducible refine (W3 _).mono ?_); rintro e w2 ⟨rfl, rfl⟩) | ((with_reducible refine (W4 _).mono ?_); rintro e w2 ⟨rfl, rfl⟩))
        | (go_at_call 54; (with_reducible refine (cN _).mono ?_); rintro e w3 ⟨rfl, hb3⟩
           have hm3 := hm1.gr hb3
           obtain ⟨LA, lc, g0, g1, gf0, gf1, -, -⟩ := hm3.1.cells
           have hB4 := (hB0.xW (hm3.2) (by omega))
           have hB5 := hB4.far (p := ⟨g, 1, none⟩) hng (.bool true)
           obtain ⟨r0, r1, r2, r3, r4, q0, q1, q2, q3, q4⟩ := five_cells5 hB5))
      rw [rounds_succ]
      go_wp2_with (first
        | (go_at_call 96; (with_reducible refine cT.mono ?_); rintro e w1 ⟨rfl, hm1⟩)
        | (go_at_call 65; first | ((with_reducible refine (W2 _).mono ?_); rintro e w2 ⟨rfl, rfl⟩) | ((with_reducible refine (W3 _).mono ?_); rintro e w2 ⟨rfl, rfl⟩) | ((with_reducible refine (W4 _).mono ?_); rintro e w2 ⟨rfl, rfl⟩))
        | (go_at_call 54; (with_reducible refine (cN _).mono ?_); rintro e w3 ⟨rfl, hb3⟩
           have hm3 := hm1.gr hb3
           obtain ⟨LA, lc, g0, g1, gf0, gf1, -, -⟩ := hm3.1.cells
           have hB4 := (hB0.xW (hm3.2) (by omega))
           have hB5 := hB4.far (p := ⟨g, 1, none⟩) hng (.bool true)
           obtain ⟨r0, r1, r2, r3, r4, q0, q1, q2, q3, q4⟩ := five_cells5 hB5))
      obtain ⟨z0, z1, z2, z3, z4, -⟩ := five_cells5 (hB5.put5 (y0 := .int .i64 0) (y1 := .string ⟨#[]⟩) (y2 := .int .i64 0) (y3 := .int .i64 0) (y4 := .slice none 0 0))
      exact bodyPost_ret (v := .agg scZ) (by simp [results, Tryd.results115, go_sem, z0, z1, z2, z3, z4]) rfl (HF.out w3 (hm3.after hGA))
    · obtain ⟨na2, nb2⟩ := str_neqW (show bCase ≠ bClass by decide)
      obtain ⟨na3, nb3⟩ := str_neqW (show bSub ≠ bClass by decide)
      clear h2 h3
      have W2 := fun w => wword_2 w
      have W3 := fun w => wword_3 w
      have W4 := fun w => wword_4 w
      go_enter Tryd.func115, Tryd.ntmps115
      go_wp2_with (first
        | (go_at_call 96; (with_reducible refine cT.mono ?_); rintro e w1 ⟨rfl, hm1⟩)
        | (go_at_call 65; first | ((with_reducible refine (W2 _).mono ?_); rintro e w2 ⟨rfl, rfl⟩) | ((with_reducible refine (W3 _).mono ?_); rintro e w2 ⟨rfl, rfl⟩) | ((with_reducible refine (W4 _).mono ?_); rintro e w2 ⟨rfl, rfl⟩))
        | (go_at_call 54; (with_reducible refine (cN _).mono ?_); rintro e w3 ⟨rfl, hb3⟩
           have hm3 := hm1.gr hb3
           obtain ⟨LA, lc, g0, g1, gf0, gf1, -, -⟩ := hm3.1.cells
           have hB4 := (hB0.xW (hm3.2) (by omega))
           have hB5 := hB4.far (p := ⟨g, 1, none⟩) hng (.bool true)
           obtain ⟨r0, r1, r2, r3, r4, q0, q1, q2, q3, q4⟩ := five_cells5 hB5))
      refine wp_loop_rounds 4 ?_
      rw [rounds_succ]
      go_wp2_with (first
        | (go_at_call 96; (with_reducible refine cT.mono ?_); rintro e w1 ⟨rfl, hm1⟩)
        | (go_at_call 65; first | ((with_reducible refine (W2 _).mono ?_); rintro e w2 ⟨rfl, rfl⟩) | ((with_reducible refine (W3 _).mono ?_); rintro e w2 ⟨rfl, rfl⟩) | ((with_reducible refine (W4 _).mono ?_); rintro e w2 ⟨rfl, rfl⟩))
        | (go_at_call 54; (with_reducible refine (cN _).mono ?_); rintro e w3 ⟨rfl, hb3⟩
           have hm3 := hm1.gr hb3
           obtain ⟨LA, lc, g0, g1, gf0, gf1, -, -⟩ := hm3.1.cells
           have hB4 := (hB0.xW (hm3.2) (by omega))
           have hB5 := hB4.far (p := ⟨g, 1, none⟩) hng (.bool true)
           obtain ⟨r0, r1, r2, r3, r4, q0, q1, q2, q3, q4⟩ := five_cells5 hB5))
      rw [rounds_succ]
      go_wp2_with (first
        | (go_at_call 96; (with_reducible refine cT.mono ?_); rintro e w1 ⟨rfl, hm1⟩)
        | (go_at_call 65; first | ((with_reducible refine (W2 _).mono ?_); rintro e w2 ⟨rfl, rfl⟩) | ((with_reducible refine (W3 _).mono ?_); rintro e w2 ⟨rfl, rfl⟩) | ((with_reducible refine (W4 _).mono ?_); rintro e w2 ⟨rfl, rfl⟩))
        | (go_at_call 54; (with_reducible refine (cN _).mono ?_); rintro e w3 ⟨rfl, hb3⟩
           have hm3 := hm1.gr hb3
           obtain ⟨LA, lc, g0, g1, gf0, gf1, -, -⟩ := hm3.1.cells
           have hB4 := (hB0.xW (hm3.2) (by omega))
           have hB5 := hB4.far (p := ⟨g, 1, none⟩) hng (.bool true)
           obtain ⟨r0, r1, r2, r3, r4, q0, q1, q2, q3, q4⟩ := five_cells5 hB5))
      rw [rounds_succ]
      go_wp2_with (first
        | (go_at_call 96; (with_reducible refine cT.mono ?_); rintro e w1 ⟨rfl, hm1⟩)
        | (go_at_call 65; first | ((with_reducible refine (W2 _).mono ?_); rintro e w2 ⟨rfl, rfl⟩) | ((with_reducible refine (W3 _).mono ?_); rintro e w2 ⟨rfl, rfl⟩) | ((with_reducible refine (W4 _).mono ?_); rintro e w2 ⟨rfl, rfl⟩))
        | (go_at_call 54; (with_reducible refine (cN _).mono ?_); rintro e w3 ⟨rfl, hb3⟩
           have hm3 := hm1.gr hb3
           obtain ⟨LA, lc, g0, g1, gf0, gf1, -, -⟩ := hm3.1.cells
           have hB4 := (hB0.xW (hm3.2) (by omega))
           have hB5 := hB4.far (p := ⟨g, 1, none⟩) hng (.bool true)
           obtain ⟨r0, r1, r2, r3, r4, q0, q1, q2, q3, q4⟩ := five_cells5 hB5))
      rw [rounds_succ]
      go_wp2_with (first
        | (go_at_call 96; (with_reducible refine cT.mono ?_); rintro e w1 ⟨rfl, hm1⟩)
        | (go_at_call 65; first | ((with_reducible refine (W2 _).mono ?_); rintro e w2 ⟨rfl, rfl⟩) | ((with_reducible refine (W3 _).mono ?_); rintro e w2 ⟨rfl, rfl⟩) | ((with_reducible refine (W4 _).mono ?_); rintro e w2 ⟨rfl, rfl⟩))
        | (go_at_call 54; (with_reducible refine (cN _).mono ?_); rintro e w3 ⟨rfl, hb3⟩
           have hm3 := hm1.gr hb3
           obtain ⟨LA, lc, g0, g1, gf0, gf1, -, -⟩ := hm3.1.cells
           have hB4 := (hB0.xW (hm3.2) (by omega))
           have hB5 := hB4.far (p := ⟨g, 1, none⟩) hng (.bool true)
           obtain ⟨r0, r1, r2, r3, r4, q0, q1, q2, q3, q4⟩ := five_cells5 hB5))
      obtain ⟨z0, z1, z2, z3, z4, -⟩ := five_cells5 (hB5.put5 (y0 := .int .i64 0) (y1 := .string ⟨#[]⟩) (y2 := .int .i64 0) (y3 := .int .i64 0) (y4 := .slice none 0 0))
      exact bodyPost_ret (v := .agg scZ) (by simp [results, Tryd.results115, go_sem, z0, z1, z2, z3, z4]) rfl (HF.out w3 (hm3.after hGA))
    · obtain ⟨na2, nb2⟩ := str_neqW (Ne.symm h2)
      obtain ⟨na3, nb3⟩ := str_neqW (Ne.symm h3)
      obtain ⟨na4, nb4⟩ := str_neqW (Ne.symm h4)
      clear h2 h3 h4
      have W2 := fun w => wword_2 w
      have W3 := fun w => wword_3 w
      have W4 := fun w => wword_4 w
      generalize bCase = B2 at *
      generalize bSub = B3 at *
      generalize bClass = B4 at *
      go_enter Tryd.func115, Tryd.ntmps115
      go_wp2_with (first
        | (go_at_call 96; (with_reducible refine cT.mono ?_); rintro e w1 ⟨rfl, hm1⟩
           obtain ⟨LA, lc, g0, g1, gf0, gf1, -, -⟩ := hm1.1.cells
           have hB4 := (hB0.xW (hm1.2) (by omega))
           have hB5 := hB4.far (p := ⟨g, 1, none⟩) hng (.bool true)
           obtain ⟨r0, r1, r2, r3, r4, q0, q1, q2, q3, q4⟩ := five_cells5 hB5)
        | (go_at_call 65; first | ((with_reducible refine (W2 _).mono ?_); rintro e w2 ⟨rfl, rfl⟩) | ((with_reducible refine (W3 _).mono ?_); rintro e w2 ⟨rfl, rfl⟩) | ((with_reducible refine (W4 _).mono ?_); rintro e w2 ⟨rfl, rfl⟩))
        | (go_at_call 54; (with_reducible refine (cN _).mono ?_); rintro e w3 ⟨rfl, hb3⟩
           have hm3 := hm1.gr hb3))
      refine wp_loop_rounds 4 ?_
      rw [rounds_succ]
      go_wp2_with (first
        | (go_at_call 96; (with_reducible refine cT.mono ?_); rintro e w1 ⟨rfl, hm1⟩
           obtain ⟨LA, lc, g0, g1, gf0, gf1, -, -⟩ := hm1.1.cells
           have hB4 := (hB0.xW (hm1.2) (by omega))
           have hB5 := hB4.far (p := ⟨g, 1, none⟩) hng (.bool true)
           obtain ⟨r0, r1, r2, r3, r4, q0, q1, q2, q3, q4⟩ := five_cells5 hB5)
        | (go_at_call 65; first | ((with_reducible refine (W2 _).mono ?_); rintro e w2 ⟨rfl, rfl⟩) | ((with_reducible refine (W3 _).mono ?_); rintro e w2 ⟨rfl, rfl⟩) | ((with_reducible refine (W4 _).mono ?_); rintro e w2 ⟨rfl, rfl⟩))
        | (go_at_call 54; (with_reducible refine (cN _).mono ?_); rintro e w3 ⟨rfl, hb3⟩
           have hm3 := hm1.gr hb3))
      rw [rounds_succ]
      go_wp2_with (first
        | (go_at_call 96; (with_reducible refine cT.mono ?_); rintro e w1 ⟨rfl, hm1⟩
           obtain ⟨LA, lc, g0, g1, gf0, gf1, -, -⟩ := hm1.1.cells
           have hB4 := (hB0.xW (hm1.2) (by omega))
           have hB5 := hB4.far (p := ⟨g, 1, none⟩) hng (.bool true)
           obtain ⟨r0, r1, r2, r3, r4, q0, q1, q2, q3, q4⟩ := five_cells5 hB5)
        | (go_at_call 65; first | ((with_reducible refine (W2 _).mono ?_); rintro e w2 ⟨rfl, rfl⟩) | ((with_reducible refine (W3 _).mono ?_); rintro e w2 ⟨rfl, rfl⟩) | ((with_reducible refine (W4 _).mono ?_); rintro e w2 ⟨rfl, rfl⟩))
        | (go_at_call 54; (with_reducible refine (cN _).mono ?_); rintro e w3 ⟨rfl, hb3⟩
           have hm3 := hm1.gr hb3))
      rw [rounds_succ]
      go_wp2_with (first
        | (go_at_call 96; (with_reducible refine cT.mono ?_); rintro e w1 ⟨rfl, hm1⟩
           obtain ⟨LA, lc, g0, g1, gf0, gf1, -, -⟩ := hm1.1.cells
           have hB4 := (hB0.xW (hm1.2) (by omega))
           have hB5 := hB4.far (p := ⟨g, 1, none⟩) hng (.bool true)
           obtain ⟨r0, r1, r2, r3, r4, q0, q1, q2, q3, q4⟩ := five_cells5 hB5)
        | (go_at_call 65; first | ((with_reducible refine (W2 _).mono ?_); rintro e w2 ⟨rfl, rfl⟩) | ((with_reducible refine (W3 _).mono ?_); rintro e w2 ⟨rfl, rfl⟩) | ((with_reducible refine (W4 _).mono ?_); rintro e w2 ⟨rfl, rfl⟩))
        | (go_at_call 54; (with_reducible refine (cN _).mono ?_); rintro e w3 ⟨rfl, hb3⟩
           have hm3 := hm1.gr hb3))
      rw [rounds_succ]
      go_wp2_with (first
        | (go_at_call 96; (with_reducible refine cT.mono ?_); rintro e w1 ⟨rfl, hm1⟩
           obtain ⟨LA, lc, g0, g1, gf0, gf1, -, -⟩ := hm1.1.cells
           have hB4 := (hB0.xW (hm1.2) (by omega))
           have hB5 := hB4.far (p := ⟨g, 1, none⟩) hng (.bool true)
           obtain ⟨r0, r1, r2, r3, r4, q0, q1, q2, q3, q4⟩ := five_cells5 hB5)
        | (go_at_call 65; first | ((with_reducible refine (W2 _).mono ?_); rintro e w2 ⟨rfl, rfl⟩) | ((with_reducible refine (W3 _).mono ?_); rintro e w2 ⟨rfl, rfl⟩) | ((with_reducible refine (W4 _).mono ?_); rintro e w2 ⟨rfl, rfl⟩))
        | (go_at_call 54; (with_reducible refine (cN _).mono ?_); rintro e w3 ⟨rfl, hb3⟩
           have hm3 := hm1.gr hb3))
      obtain ⟨z0, z1, z2, z3, z4, -⟩ := five_cells5 (hB5.put5 (y0 := .int .i64 0) (y1 := .string ⟨#[]⟩) (y2 := .int .i64 0) (y3 := .int .i64 0) (y4 := .slice none 0 0))
      exact bodyPost_ret (v := .agg scZ) (by simp [results, Tryd.results115, go_sem, z0, z1, z2, z3, z4]) rfl (HF.out w1 (hm1.after hGA))
  | true =>
    rw [hn] at cN
    clear hn
    rcases waysC a with rfl | ⟨h2, rfl⟩ | ⟨h2, h3, rfl⟩ | ⟨h2, h3, h4⟩
    · obtain ⟨na3, nb3⟩ := str_neqW (show bSub ≠ bCase by decide)
      obtain ⟨na4, nb4⟩ := str_neqW (show bClass ≠ bCase by decide)
      rw [show opW_ bCase = 2 from rfl, if_pos ⟨by decide, rfl⟩]
      have HZ := Lib.hid (HY.out 2)
      generalize hPost : PW 77 w g (Sc.mk 2 t 0 0 [], s1) = Post at *
      clear hPost
      have W2 := fun w => wword_2 w
      have W3 := fun w => wword_3 w
      have W4 := fun w => wword_4 w
      go_enter Tryd.func115, Tryd.ntmps115
      go_wp2_with (first
        | (go_at_call 96; (with_reducible refine cT.mono ?_); rintro e w1 ⟨rfl, hm1⟩)
        | (go_at_call 65; first | ((with_reducible refine (W2 _).mono ?_); rintro e w2 ⟨rfl, rfl⟩) | ((with_reducible refine (W3 _).mono ?_); rintro e w2 ⟨rfl, rfl⟩) | ((with_reducible refine (W4 _).mono ?_); rintro e w2 ⟨rfl, rfl⟩))
        | (go_at_call 54; (with_reducible refine (cN _).mono ?_); rintro e w3 ⟨rfl, hb3⟩
           have hm3 := hm1.gr hb3
           have hB5 := (hB0.xW (hm3.2) (by omega))
           obtain ⟨r0, r1, r2, r3, r4, q0, q1, q2, q3, q4⟩ := five_cells5 hB5))
      refine wp_loop_rounds 1 ?_
      rw [rounds_succ]
      go_wp2_with (first
        | (go_at_call 96; (with_reducible refine cT.mono ?_); rintro e w1 ⟨rfl, hm1⟩)
        | (go_at_call 65; first | ((with_reducible refine (W2 _).mono ?_); rintro e w2 ⟨rfl, rfl⟩) | ((with_reducible refine (W3 _).mono ?_); rintro e w2 ⟨rfl, rfl⟩) | ((with_reducible refine (W4 _).mono ?_); rintro e w2 ⟨rfl, rfl⟩))
        | (go_at_call 54; (with_reducible refine (cN _).mono ?_); rintro e w3 ⟨rfl, hb3⟩
           have hm3 := hm1.gr hb3
           have hB5 := (hB0.xW (hm3.2) (by omega))
           obtain ⟨r0, r1, r2, r3, r4, q0, q1, q2, q3, q4⟩ := five_cells5 hB5))
      obtain ⟨z0, z1, z2, z3, z4, -⟩ := five_cells5 (hB5.put5 (y0 := .int .i64 2) (y1 := .string t) (y2 := .int .i64 0) (y3 := .int .i64 0) (y4 := .slice none 0 0))
      exact bodyPost_ret (v := .agg (scC 2 t 0 0 none 0 0)) (by simp [results, Tryd.results115, go_sem, z0, z1, z2, z3, z4]) rfl (HZ.out w3 (hm3.after hGA))
    · obtain ⟨na2, nb2⟩ := str_neqW (show bCase ≠ bSub by decide)
      obtain ⟨na4, nb4⟩ := str_neqW (show bClass ≠ bSub by decide)
      rw [show opW_ bSub = 3 from rfl, if_pos ⟨by decide, rfl⟩]
      have HZ := Lib.hid (HY.out 3)
      generalize hPost : PW 77 w g (Sc.mk 3 t 0 0 [], s1) = Post at *
      clear hPost
      clear h2
      have W2 := fun w => wword_2 w
      have W3 := fun w => wword_3 w
      have W4 := fun w => wword_4 w
      go_enter Tryd.func115, Tryd.ntmps115
      go_wp2_with (first
        | (go_at_call 96; (with_reducible refine cT.mono ?_); rintro e w1 ⟨rfl, hm1⟩)
        | (go_at_call 65; first | ((with_reducible refine (W2 _).mono ?_); rintro e w2 ⟨rfl, rfl⟩) | ((with_reducible refine (W3 _).mono ?_); rintro e w2 ⟨rfl, rfl⟩) | ((with_reducible refine (W4 _).mono ?_); rintro e w2 ⟨rfl, rfl⟩))
        | (go_at_call 54; (with_reducible refine (cN _).mono ?_); rintro e w3 ⟨rfl, hb3⟩
           have hm3 := hm1.gr hb3
           have hB5 := (hB0.xW (hm3.2) (by omega))
           obtain ⟨r0, r1, r2, r3, r4, q0, q1, q2, q3, q4⟩ := five_cells5 hB5))
      refine wp_loop_rounds 2 ?_
      rw [rounds_succ]
      go_wp2_with (first
        | (go_at_call 96; (with_reducible refine cT.mono ?_); rintro e w1 ⟨rfl, hm1⟩)
        | (go_at_call 65; first | ((with_reducible refine (W2 _).mono ?_); rintro e w2 ⟨rfl, rfl⟩) | ((with_reducible refine (W3 _).mono ?_); rintro e w2 ⟨rfl, rfl⟩) | ((with_reducible refine (W4 _).mono ?_); rintro e w2 ⟨rfl, rfl⟩))
        | (go_at_call 54; (with_reducible refine (cN _).mono ?_); rintro e w3 ⟨rfl, hb3⟩
           have hm3 := hm1.gr hb3
           have hB5 := (hB0.xW (hm3.2) (by omega))
           obtain ⟨r0, r1, r2, r3, r4, q0, q1, q2, q3, q4⟩ := five_cells5 hB5))
      rw [rounds_succ]
      go_wp2_with (first
        | (go_at_call 96; (with_reducible refine cT.mono ?_); rintro e w1 ⟨rfl, hm1⟩)
        | (go_at_call 65; first | ((with_reducible refine (W2 _).mono ?_); rintro e w2 ⟨rfl, rfl⟩) | ((with_reducible refine (W3 _).mono ?_); rintro e w2 ⟨rfl, rfl⟩) | ((with_reducible refine (W4 _).mono ?_); rintro e w2 ⟨rfl, rfl⟩))
        | (go_at_call 54; (with_reducible refine (cN _).mono ?_); rintro e w3 ⟨rfl, hb3⟩
           have hm3 := hm1.gr hb3
           have hB5 := (hB0.xW (hm3.2) (by omega))
           obtain ⟨r0, r1, r2, r3, r4, q0, q1, q2, q3, q4⟩ := five_cells5 hB5))
      obtain ⟨z0, z1, z2, z3, z4, -⟩ := five_cells5 (hB5.put5 (y0 := .int .i64 3) (y1 := .string t) (y2 := .int .i64 0) (y3 := .int .i64 0) (y4 := .slice none 0 0))
      exact bodyPost_ret (v := .agg (scC 3 t 0 0 none 0 0)) (by simp [results, Tryd.results115, go_sem, z0, z1, z2, z3, z4]) rfl (HZ.out w3 (hm3.after hGA))
    · obtain ⟨na2, nb2⟩ := str_neqW (show bCase ≠ bClass by decide)
      obtain ⟨na3, nb3⟩ := str_neqW (show bSub ≠ bClass by decide)
      rw [show opW_ bClass = 4 from rfl, if_pos ⟨by decide, rfl⟩]
      have HZ := Lib.hid (HY.out 4)
      generalize hPost : PW 77 w g (Sc.mk 4 t 0 0 [], s1) = Post at *
      clear hPost
      clear h2 h3
      have W2 := fun w => wword_2 w
      have W3 := fun w => wword_3 w
      have W4 := fun w => wword_4 w
      go_enter Tryd.func115, Tryd.ntmps115
      go_wp2_with (first
        | (go_at_call 96; (with_reducible refine cT.mono ?_); rintro e w1 ⟨rfl, hm1⟩)
        | (go_at_call 65; first | ((with_reducible refine (W2 _).mono ?_); rintro e w2 ⟨rfl, rfl⟩) | ((with_reducible refine (W3 _).mono ?_); rintro e w2 ⟨rfl, rfl⟩) | ((with_reducible refine (W4 _).mono ?_); rintro e w2 ⟨rfl, rfl⟩))
        | (go_at_call 54; (with_reducible refine (cN _).mono ?_); rintro e w3 ⟨rfl, hb3⟩
           have hm3 := hm1.gr hb3
           have hB5 := (hB0.xW (hm3.2) (by omega))
           obtain ⟨r0, r1, r2, r3, r4, q0, q1, q2, q3, q4⟩ := five_cells5 hB5))
      refine wp_loop_rounds 3 ?_
      rw [rounds_succ]
      go_wp2_with (first
        | (go_at_call 96; (with_reducible refine cT.mono ?_); rintro e w1 ⟨rfl, hm1⟩)
        | (go_at_call 65; first | ((with_reducible refine (W2 _).mono ?_); rintro e w2 ⟨rfl, rfl⟩) | ((with_reducible refine (W3 _).mono ?_); rintro e w2 ⟨rfl, rfl⟩) | ((with_reducible refine (W4 _).mono ?_); rintro e w2 ⟨rfl, rfl⟩))
        | (go_at_call 54; (with_reducible refine (cN _).mono ?_); rintro e w3 ⟨rfl, hb3⟩
           have hm3 := hm1.gr hb3
           have hB5 := (hB0.xW (hm3.2) (by omega))
           obtain ⟨r0, r1, r2, r3, r4, q0, q1, q2, q3, q4⟩ := five_cells5 hB5))
      rw [rounds_succ]
      go_wp2_with (first
        | (go_at_call 96; (with_reducible refine cT.mono ?_); rintro e w1 ⟨rfl, hm1⟩)
        | (go_at_call 65; first | ((with_reducible refine (W2 _).mono ?_); rintro e w2 ⟨rfl, rfl⟩) | ((with_reducible refine (W3 _).mono ?_); rintro e w2 ⟨rfl, rfl⟩) | ((with_reducible refine (W4 _).mono ?_); rintro e w2 ⟨rfl, rfl⟩))
        | (go_at_call 54; (with_reducible refine (cN _).mono ?_); rintro e w3 ⟨rfl, hb3⟩
           have hm3 := hm1.gr hb3
           have hB5 := (hB0.xW (hm3.2) (by omega))
           obtain ⟨r0, r1, r2, r3, r4, q0, q1, q2, q3, q4⟩ := five_cells5 hB5))
      rw [rounds_succ]
      go_wp2_with (first
        | (go_at_call 96; (with_reducible refine cT.mono ?_); rintro e w1 ⟨rfl, hm1⟩)
        | (go_at_call 65; first | ((with_reducible refine (W2 _).mono ?_); rintro e w2 ⟨rfl, rfl⟩) | ((with_reducible refine (W3 _).mono ?_); rintro e w2 ⟨rfl, rfl⟩) | ((with_reducible refine (W4 _).mono ?_); rintro e w2 ⟨rfl, rfl⟩))
        | (go_at_call 54; (with_reducible refine (cN _).mono ?_); rintro e w3 ⟨rfl, hb3⟩
           have hm3 := hm1.gr hb3
           have hB5 := (hB0.xW (hm3.2) (by omega))
           obtain ⟨r0, r1, r2, r3, r4, q0, q1, q2, q3, q4⟩ := five_cells5 hB5))
      obtain ⟨z0, z1, z2, z3, z4, -⟩ := five_cells5 (hB5.put5 (y0 := .int .i64 4) (y1 := .string t) (y2 := .int .i64 0) (y3 := .int .i64 0) (y4 := .slice none 0 0))
      exact bodyPost_ret (v := .agg (scC 4 t 0 0 none 0 0)) (by simp [results, Tryd.results115, go_sem, z0, z1, z2, z3, z4]) rfl (HZ.out w3 (hm3.after hGA))
    · obtain ⟨na2, nb2⟩ := str_neqW (Ne.symm h2)
      obtain ⟨na3, nb3⟩ := str_neqW (Ne.symm h3)
      obtain ⟨na4, nb4⟩ := str_neqW (Ne.symm h4)
      rw [show opW_ a = 0 by unfold opW_; rw [if_neg h2, if_neg h3, if_neg h4], if_neg (by simp)]
      generalize hPost : PW 77 w g (scN, failW s1) = Post at *
      clear hPost
      clear h2 h3 h4
      have W2 := fun w => wword_2 w
      have W3 := fun w => wword_3 w
      have W4 := fun w => wword_4 w
      generalize bCase = B2 at *
      generalize bSub = B3 at *
      generalize bClass = B4 at *
      go_enter Tryd.func115, Tryd.ntmps115
      go_wp2_with (first
        | (go_at_call 96; (with_reducible refine cT.mono ?_); rintro e w1 ⟨rfl, hm1⟩
           obtain ⟨LA, lc, g0, g1, gf0, gf1, -, -⟩ := hm1.1.cells
           have hB4 := (hB0.xW (hm1.2) (by omega))
           have hB5 := hB4.far (p := ⟨g, 1, none⟩) hng (.bool true)
           obtain ⟨r0, r1, r2, r3, r4, q0, q1, q2, q3, q4⟩ := five_cells5 hB5)
        | (go_at_call 65; first | ((with_reducible refine (W2 _).mono ?_); rintro e w2 ⟨rfl, rfl⟩) | ((with_reducible refine (W3 _).mono ?_); rintro e w2 ⟨rfl, rfl⟩) | ((with_reducible refine (W4 _).mono ?_); rintro e w2 ⟨rfl, rfl⟩))
        | (go_at_call 54; (with_reducible refine (cN _).mono ?_); rintro e w3 ⟨rfl, hb3⟩
           have hm3 := hm1.gr hb3))
      refine wp_loop_rounds 4 ?_
      rw [rounds_succ]
      go_wp2_with (first
        | (go_at_call 96; (with_reducible refine cT.mono ?_); rintro e w1 ⟨rfl, hm1⟩
           obtain ⟨LA, lc, g0, g1, gf0, gf1, -, -⟩ := hm1.1.cells
           have hB4 := (hB0.xW (hm1.2) (by omega))
           have hB5 := hB4.far (p := ⟨g, 1, none⟩) hng (.bool true)
           obtain ⟨r0, r1, r2, r3, r4, q0, q1, q2, q3, q4⟩ := five_cells5 hB5)
        | (go_at_call 65; first | ((with_reducible refine (W2 _).mono ?_); rintro e w2 ⟨rfl, rfl⟩) | ((with_reducible refine (W3 _).mono ?_); rintro e w2 ⟨rfl, rfl⟩) | ((with_reducible refine (W4 _).mono ?_); rintro e w2 ⟨rfl, rfl⟩))
        | (go_at_call 54; (with_reducible refine (cN _).mono ?_); rintro e w3 ⟨rfl, hb3⟩
           have hm3 := hm1.gr hb3))
      rw [rounds_succ]
      go_wp2_with (first
        | (go_at_call 96; (with_reducible refine cT.mono ?_); rintro e w1 ⟨rfl, hm1⟩
           obtain ⟨LA, lc, g0, g1, gf0, gf1, -, -⟩ := hm1.1.cells
           have hB4 := (hB0.xW (hm1.2) (by omega))
           have hB5 := hB4.far (p := ⟨g, 1, none⟩) hng (.bool true)
           obtain ⟨r0, r1, r2, r3, r4, q0, q1, q2, q3, q4⟩ := five_cells5 hB5)
        | (go_at_call 65; first | ((with_reducible refine (W2 _).mono ?_); rintro e w2 ⟨rfl, rfl⟩) | ((with_reducible refine (W3 _).mono ?_); rintro e w2 ⟨rfl, rfl⟩) | ((with_reducible refine (W4 _).mono ?_); rintro e w2 ⟨rfl, rfl⟩))
        | (go_at_call 54; (with_reducible refine (cN _).mono ?_); rintro e w3 ⟨rfl, hb3⟩
           have hm3 := hm1.gr hb3))
      rw [rounds_succ]
      go_wp2_with (first
        | (go_at_call 96; (with_reducible refine cT.mono ?_); rintro e w1 ⟨rfl, hm1⟩
           obtain ⟨LA, lc, g0, g1, gf0, gf1, -, -⟩ := hm1.1.cells
           have hB4 := (hB0.xW (hm1.2) (by omega))
           have hB5 := hB4.far (p := ⟨g, 1, none⟩) hng (.bool true)
           obtain ⟨r0, r1, r2, r3, r4, q0, q1, q2, q3, q4⟩ := five_cells5 hB5)
        | (go_at_call 65; first | ((with_reducible refine (W2 _).mono ?_); rintro e w2 ⟨rfl, rfl⟩) | ((with_reducible refine (W3 _).mono ?_); rintro e w2 ⟨rfl, rfl⟩) | ((with_reducible refine (W4 _).mono ?_); rintro e w2 ⟨rfl, rfl⟩))
        | (go_at_call 54; (with_reducible refine (cN _).mono ?_); rintro e w3 ⟨rfl, hb3⟩
           have hm3 := hm1.gr hb3))
      rw [rounds_succ]
      go_wp2_with (first
        | (go_at_call 96; (with_reducible refine cT.mono ?_); rintro e w1 ⟨rfl, hm1⟩
           obtain ⟨LA, lc, g0, g1, gf0, gf1, -, -⟩ := hm1.1.cells
           have hB4 := (hB0.xW (hm1.2) (by omega))
           have hB5 := hB4.far (p := ⟨g, 1, none⟩) hng (.bool true)
           obtain ⟨r0, r1, r2, r3, r4, q0, q1, q2, q3, q4⟩ := five_cells5 hB5)
        | (go_at_call 65; first | ((with_reducible refine (W2 _).mono ?_); rintro e w2 ⟨rfl, rfl⟩) | ((with_reducible refine (W3 _).mono ?_); rintro e w2 ⟨rfl, rfl⟩) | ((with_reducible refine (W4 _).mono ?_); rintro e w2 ⟨rfl, rfl⟩))
        | (go_at_call 54; (with_reducible refine (cN _).mono ?_); rintro e w3 ⟨rfl, hb3⟩
           have hm3 := hm1.gr hb3))
      obtain ⟨z0, z1, z2, z3, z4, -⟩ := five_cells5 (hB5.put5 (y0 := .int .i64 0) (y1 := .string ⟨#[]⟩) (y2 := .int .i64 0) (y3 := .int .i64 0) (y4 := .slice none 0 0))
      exact bodyPost_ret (v := .agg scZ) (by simp [results, Tryd.results115, go_sem, z0, z1, z2, z3, z4]) rfl (HF.out w1 (hm1.after hGA))
end
end Go.Proofs.YtppnlijeonneeaaDoor

namespace Go.Proofs.YtppnlijeonneeaaDoor
open Go Go.RowKit Go.Sort

theorem str_nlW {s : ByteArray} {l : List UInt8} (h : s ≠ wa l) : ¬ s.toList = l ∧ (s.toList == l) = false := by
  have h1 : ¬ s.toList = l := by
    rw [ByteArray.toList_eq]
    intro e
    exact h (by rw [← e]; rfl)
  exact ⟨h1, by rw [beq_eq_false_iff_ne]; exact h1⟩
section
variable {w w' : World} {g : Nat} {s : Wst}
set_option maxRecDepth 100000 in
set_option maxHeartbeats 2000000 in
theorem wterm_any (d : Nat) (ih : ∀ (W : World) (s : Wst), EnvW 77 W g s → Calls Tryd.prog 97 #[.pointer (some ⟨g, 0, none⟩), .int .i64 (d : Int)] W (PW 77 W g (factW d s))) (h : EnvW 77 w g s) :
    Calls Tryd.prog 70 #[.pointer (some ⟨g, 0, none⟩), .int .i64 (d : Int)] w (PW 77 w g (termW d s)) := by
  have hgl := h.lt
  have hGA := Gr.alloc w (.cells scZ 39)
  have hB0 := Blk.new w 39 scZ
  have hs1 : (w.alloc (.cells scZ 39)).heap.size = w.heap.size + 1 := by simp
  have cS : Calls Tryd.prog 69 #[.pointer (some ⟨g, 0, none⟩), .int .i64 6, .string bAnd, .func (.func 97) #[.pointer (some ⟨g, 0, none⟩)] #[], .int .i64 (d : Int)] (w.alloc (.cells scZ 39)) (PW 77 (w.alloc (.cells scZ 39)) g (termW d s)) := wsev_fact 6 bAnd d (factW d) (fact_goes d) ih (h.gr hGA)
  have hF : ∀ (W : World) (o_ : Int) (m_ : ByteArray) (f_ t_ : Int) (A_ : Option Addr) (n_ c_ : Nat) (x : Sc), RdSc W (fun b => (w.alloc (.cells scZ 39)).heap.size ≤ b ∧ b < W.heap.size) x (.agg (scC o_ m_ f_ t_ A_ n_ c_)) → ((termW d s).2.fail = false → x = (termW d s).1) → MadeW 77 (w.alloc (.cells scZ 39)) g (termW d s).2 W →
      PW 77 w g (termW d s) (.returned (.agg (scC o_ m_ f_ t_ A_ n_ c_))) (set5v W w.heap.size (.int .i64 o_) (.string m_) (.int .i64 f_) (.int .i64 t_) (.slice A_ n_ c_)) :=
    fun W o_ m_ f_ t_ A_ n_ c_ x hr he hm => PW.fin hgl (RdSc.mono (fun b hb => ⟨by rw [← hs1]; exact hb.1, hb.2⟩) _ _ hr) he (hm.after hGA)
  have HF := Lib.hid hF
  unfold PW at cS
  clear hF h ih
  generalize hPost : PW 77 w g (termW d s) = Post at *
  clear hPost
  generalize termW d s = o2 at *
  generalize (d : Int) = D at *
  go_enter Tryd.func70, Tryd.ntmps70
  go_wp2_with (go_at_call 69; (with_reducible refine cS.mono ?_); rintro e w1 ⟨o_, m_, f_, t_, A_, n_, c_, x, rfl, hr1, he1, hm1⟩
               have hB5 := (hB0.xW (hm1.2) (by omega))
               obtain ⟨r0, r1, r2, r3, r4, q0, q1, q2, q3, q4⟩ := five_cells5 hB5)
  obtain ⟨z0, z1, z2, z3, z4, -⟩ := five_cells5 (hB5.put5 (y0 := .int .i64 o_) (y1 := .string m_) (y2 := .int .i64 f_) (y3 := .int .i64 t_) (y4 := .slice A_ n_ c_))
  exact bodyPost_ret (v := .agg (scC o_ m_ f_ t_ A_ n_ c_)) (by simp [results, Tryd.results70, go_sem, z0, z1, z2, z3, z4]) rfl (HF.out w1 o_ m_ f_ t_ A_ n_ c_ x hr1 he1 hm1)
set_option maxRecDepth 100000 in
set_option maxHeartbeats 2000000 in
theorem wwhole_any (d : Nat) (ih : ∀ (W : World) (s : Wst), EnvW 77 W g s → Calls Tryd.prog 70 #[.pointer (some ⟨g, 0, none⟩), .int .i64 (d : Int)] W (PW 77 W g (termW d s))) (h : EnvW 77 w g s) :
    Calls Tryd.prog 48 #[.pointer (some ⟨g, 0, none⟩), .int .i64 (d : Int)] w (PW 77 w g (wholeW d s)) := by
  have hgl := h.lt
  have hGA := Gr.alloc w (.cells scZ 39)
  have hB0 := Blk.new w 39 scZ
  have hs1 : (w.alloc (.cells scZ 39)).heap.size = w.heap.size + 1 := by simp
  have cS : Calls Tryd.prog 69 #[.pointer (some ⟨g, 0, none⟩), .int .i64 7, .string bOr, .func (.func 70) #[.pointer (some ⟨g, 0, none⟩)] #[], .int .i64 (d : Int)] (w.alloc (.cells scZ 39)) (PW 77 (w.alloc (.cells scZ 39)) g (wholeW d s)) := wsev_term 7 bOr d (termW d) (term_goes d) ih (h.gr hGA)
  have hF : ∀ (W : World) (o_ : Int) (m_ : ByteArray) (f_ t_ : Int) (A_ : Option Addr) (n_ c_ : Nat) (x : Sc), RdSc W (fun b => (w.alloc (.cells scZ 39)).heap.size ≤ b ∧ b < W.heap.size) x (.agg (scC o_ m_ f_ t_ A_ n_ c_)) → ((wholeW d s).2.fail = false → x = (wholeW d s).1) → MadeW 77 (w.alloc (.cells scZ 39)) g (wholeW d s).2 W →
      PW 77 w g (wholeW d s) (.returned (.agg (scC o_ m_ f_ t_ A_ n_ c_))) (set5v W w.heap.size (.int .i64 o_) (.string m_) (.int .i64 f_) (.int .i64 t_) (.slice A_ n_ c_)) :=
    fun W o_ m_ f_ t_ A_ n_ c_ x hr he hm => PW.fin hgl (RdSc.mono (fun b hb => ⟨by rw [← hs1]; exact hb.1, hb.2⟩) _ _ hr) he (hm.after hGA)
  have HF := Lib.hid hF
  unfold PW at cS
  clear hF h ih
  generalize hPost : PW 77 w g (wholeW d s) = Post at *
  clear hPost
  generalize wholeW d s = o2 at *
  generalize (d : Int) = D at *
  go_enter Tryd.func48, Tryd.ntmps48
  go_wp2_with (go_at_call 69; (with_reducible refine cS.mono ?_); rintro e w1 ⟨o_, m_, f_, t_, A_, n_, c_, x, rfl, hr1, he1, hm1⟩
               have hB5 := (hB0.xW (hm1.2) (by omega))
               obtain ⟨r0, r1, r2, r3, r4, q0, q1, q2, q3, q4⟩ := five_cells5 hB5)
  obtain ⟨z0, z1, z2, z3, z4, -⟩ := five_cells5 (hB5.put5 (y0 := .int .i64 o_) (y1 := .string m_) (y2 := .int .i64 f_) (y3 := .int .i64 t_) (y4 := .slice A_ n_ c_))
  exact bodyPost_ret (v := .agg (scC o_ m_ f_ t_ A_ n_ c_)) (by simp [results, Tryd.results48, go_sem, z0, z1, z2, z3, z4]) rfl (HF.out w1 o_ m_ f_ t_ A_ n_ c_ x hr1 he1 hm1)
end
end Go.Proofs.YtppnlijeonneeaaDoor

namespace Go.Proofs.YtppnlijeonneeaaDoor
open Go Go.RowKit Go.Sort

def IHF (d : Nat) : Prop := ∀ (g : Nat) (W : World) (s : Wst), EnvW 77 W g s → Calls Tryd.prog 97 #[.pointer (some ⟨g, 0, none⟩), .int .i64 (d : Int)] W (PW 77 W g (factW d s))
theorem factW_0 (s : Wst) : factW 0 s = (scN, failW s) := rfl
theorem factW_not {d : Nat} {s : Wst} (h : (takeW s).1 = bNot) : factW (d + 1) s = (.mk 8 ⟨#[]⟩ 0 0 [(factW d (takeW s).2).1], (factW d (takeW s).2).2) := by rw [factW, if_pos h]
theorem factW_open {d : Nat} {s : Wst} (h : (takeW s).1 = bOpen) : factW (d + 1) s = ((wholeW d (takeW s).2).1, if (takeW (wholeW d (takeW s).2).2).1 = bShut then (takeW (wholeW d (takeW s).2).2).2 else failW (takeW (wholeW d (takeW s).2).2).2) := by
  rw [factW, if_neg (by rw [h]; decide), if_pos h]; rfl
theorem factW_all {d : Nat} {s : Wst} (h : (takeW s).1 = bAll) : factW (d + 1) s = (.mk 1 ⟨#[]⟩ 0 0 [], (takeW s).2) := by
  rw [factW, if_neg (by rw [h]; decide), if_neg (by rw [h]; decide), if_pos h]
theorem factW_time {d : Nat} {s : Wst} (h : (takeW s).1 = bTime) : factW (d + 1) s = timeW (takeW s).2 := by
  rw [factW, if_neg (by rw [h]; decide), if_neg (by rw [h]; decide), if_neg (by rw [h]; decide), if_pos h]
theorem factW_else {d : Nat} {s : Wst} (h1 : (takeW s).1 ≠ bNot) (h2 : (takeW s).1 ≠ bOpen) (h3 : (takeW s).1 ≠ bAll) (h4 : (takeW s).1 ≠ bTime) : factW (d + 1) s = namedW (takeW s).1 (takeW s).2 := by
  rw [factW, if_neg h1, if_neg h2, if_neg h3, if_neg h4]
set_option maxRecDepth 100000 in
set_option maxHeartbeats 2000000 in
theorem wfact_00 {g : Nat} {w : World} {s : Wst} (h : EnvW 77 w g s) : Calls Tryd.prog 97 #[.pointer (some ⟨g, 0, none⟩), .int .i64 0] w (PW 77 w g (scN, failW s)) := by
  have hgl := h.lt
  obtain ⟨LA, lc, g0, g1, gf0, gf1, -, -⟩ := h.cells
  have hs : (w.setCell ⟨g, 1, none⟩ (.bool true)).heap.size = w.heap.size := by simp [World.setCell]
  have hB5 := Blk.new (w.setCell ⟨g, 1, none⟩ (.bool true)) 39 scZ
  rw [hs] at hB5
  have hF : PW 77 w g (scN, failW s) (.returned (.agg scZ)) ((w.setCell ⟨g, 1, none⟩ (.bool true)).alloc (.cells scZ 39)) :=
    ⟨_, _, _, _, _, _, _, scN, rfl, rd_leaf _ _ _ _ _ _, fun _ => rfl, h.setF.gr (Gr.alloc _ _)⟩
  clear h
  generalize hPost : PW 77 w g (scN, failW s) = Post at *
  clear hPost
  go_enter Tryd.func97, Tryd.ntmps97
  go_wp2
  obtain ⟨z0, z1, z2, z3, z4, -⟩ := five_cells5 hB5
  exact bodyPost_ret (v := .agg scZ) (by simp [results, Tryd.results97, go_sem, z0, z1, z2, z3, z4]) rfl hF
theorem wfact_0 : IHF 0 := fun _ _ _ h => wfact_00 h
theorem ways4 (a : ByteArray) : a = bNot ∨ a = bOpen ∨ a = bAll ∨ a = bTime ∨ (a ≠ bNot ∧ a ≠ bOpen ∧ a ≠ bAll ∧ a ≠ bTime) := by
  by_cases h1 : a = bNot
  · exact .inl h1
  · by_cases h2 : a = bOpen
    · exact .inr (.inl h2)
    · by_cases h3 : a = bAll
      · exact .inr (.inr (.inl h3))
      · by_cases h4 : a = bTime
        · exact .inr (.inr (.inr (.inl h4)))
        · exact .inr (.inr (.inr (.inr ⟨h1, h2, h3, h4⟩)))
set_option maxRecDepth 100000 in
set_option maxHeartbeats 8000000 in
theorem wfact_s (d : Nat) (hd : d ≤ 41) (ih : IHF d) : IHF (d + 1) := by
  intro g w s h
  have hgl := h.lt
  have hng : w.heap.size ≠ g := by omega
  have hGA := Gr.alloc w (.cells scZ 39)
  have hA := h.gr hGA
  have hB0 := Blk.new w 39 scZ
  have hs1 : (w.alloc (.cells scZ 39)).heap.size = w.heap.size + 1 := by simp
  have cT := wtake_any hA
  have hD0 : (((d + 1 : Nat) : Int) == 0) = false := by simp; omega
  have hD1 : ((d + 1 : Nat) : Int) - 1 = (d : Int) := by omega
  have hD2 : (1 : Int) ≤ ((d + 1 : Nat) : Int) := by omega
  have hD3 : ((d + 1 : Nat) : Int) ≤ 42 := by omega
  have hD4 : (d : Int) ≤ 41 := by omega
  have hD5 : 0 ≤ (d : Int) := by omega
  generalize ((d + 1 : Nat) : Int) = D at *
  have n0 := factW_not (d := d) (s := s)
  have o0 := factW_open (d := d) (s := s)
  have a0 := factW_all (d := d) (s := s)
  have t0 := factW_time (d := d) (s := s)
  have e0 := factW_else (d := d) (s := s)
  generalize factW (d + 1) s = R at *
  generalize takeW s = o2 at *
  obtain ⟨a, s1⟩ := o2
  dsimp only at *
  rcases ways4 a with rfl | rfl | rfl | rfl | ⟨h1, h2, h3, h4⟩
  · have hR := n0 rfl
    clear n0 o0 a0 t0 e0
    have cF : ∀ W, EnvW 77 W g s1 → Calls Tryd.prog 97 #[.pointer (some ⟨g, 0, none⟩), .int .i64 (d : Int)] W (PW 77 W g (factW d s1)) := fun W hW => ih g W s1 hW
    have hF : ∀ (W : World) (A : Option Addr) (n c : Nat) (x : Sc), RdSc W (fun b => w.heap.size + 1 ≤ b ∧ b < W.heap.size) (.mk 8 ⟨#[]⟩ 0 0 [x]) (.agg (scC 8 ⟨#[]⟩ 0 0 A n c)) → ((factW d s1).2.fail = false → x = (factW d s1).1) → MadeW 77 w g (factW d s1).2 W →
        PW 77 w g R (.returned (.agg (scC 8 ⟨#[]⟩ 0 0 A n c))) (set5v W w.heap.size (.int .i64 8) (.string ⟨#[]⟩) (.int .i64 0) (.int .i64 0) (.slice A n c)) := by
      intro W A n c x hr he hm
      rw [hR]
      exact PW.fin hgl hr (fun h0 => by rw [he h0]) hm
    have HF := Lib.hid hF
    clear hF hR h hA ih
    unfold PW at cF
    generalize hPost : PW 77 w g R = Post at *
    clear hPost
    generalize factW d s1 = r2 at *
    obtain ⟨x2, s2⟩ := r2
    dsimp only at *
    generalize (d : Int) = E at *
    go_enter Tryd.func97, Tryd.ntmps97
    go_wp2_with (first
      | (go_at_call 96; (with_reducible refine cT.mono ?_); rintro e w1 ⟨rfl, hm1⟩)
      | (go_at_call 97; (with_reducible refine (cF _ hm1.1).mono ?_); rintro e w2 ⟨o_, m_, f_, t_, A_, n_, c_, x, rfl, hr2, he2, hm2⟩
         have hm3 := hm1.tr hm2
         have hGn := Gr.alloc w2 (.cells (scC o_ m_ f_ t_ A_ n_ c_) 39)
         have hm4 := hm3.gr hGn
         have hB5 := hB0.xW hm4.2 (by omega)
         obtain ⟨r0, r1, r2, r3, r4, q0, q1, q2, q3, q4⟩ := five_cells5 hB5))
    obtain ⟨z0, z1, z2, z3, z4, -⟩ := five_cells5 (hB5.put5 (y0 := .int .i64 8) (y1 := .string ⟨#[]⟩) (y2 := .int .i64 0) (y3 := .int .i64 0) (y4 := .slice (some ⟨w2.heap.size, 0, none⟩) 1 1))
    have hw1 : w.heap.size + 1 ≤ w1.heap.size := by have := hm1.2.size; omega
    have hw2 : w.heap.size + 1 ≤ w2.heap.size := by have := hm2.2.size; omega
    have hX := ScOwn.one (base := w.heap.size + 1) (Blk.new w2 39 (scC o_ m_ f_ t_ A_ n_ c_)) hw2 (RdSc.mono (fun b hb => ⟨by omega, Nat.lt_of_lt_of_le hb.2 hGn.size, by omega⟩) _ _ (RdSc.keep (fun p hp => hGn.cell hp.2) _ _ hr2))
    obtain ⟨A9, c9, e9, hN⟩ := hX.node 8
    exact bodyPost_ret (v := .agg (scC 8 ⟨#[]⟩ 0 0 (some ⟨w2.heap.size, 0, none⟩) 1 1)) (by simp [results, Tryd.results97, go_sem, z0, z1, z2, z3, z4]) rfl (HF.out _ _ _ _ x hN he2 (hm4.after hGA))
  · have hR := o0 rfl
    clear n0 o0 a0 t0 e0
    obtain ⟨n1, n2⟩ := str_neqW (show bOpen ≠ bNot by decide)
    have cW : ∀ W, EnvW 77 W g s1 → Calls Tryd.prog 48 #[.pointer (some ⟨g, 0, none⟩), .int .i64 (d : Int)] W (PW 77 W g (wholeW d s1)) := fun W hW => wwhole_any d (fun W s hW => wterm_any d (fun W s hW => ih g W s hW) hW) hW
    have cT2 : ∀ W, EnvW 77 W g (wholeW d s1).2 → Calls Tryd.prog 96 #[.pointer (some ⟨g, 0, none⟩)] W fun e w' => e = .returned (.string (takeW (wholeW d s1).2).1) ∧ MadeW 77 W g (takeW (wholeW d s1).2).2 w' := fun W hW => wtake_any hW
    have hgo := takeW_goes (wholeW d s1).2
    unfold PW at cW
    clear h hA ih
    generalize wholeW d s1 = r2 at *
    obtain ⟨x2, s2⟩ := r2
    dsimp only at *
    generalize takeW s2 = o3 at *
    obtain ⟨b, s3⟩ := o3
    dsimp only at *
    by_cases hb : b = bShut
    · subst hb
      rw [if_pos rfl] at hR
      have hF : ∀ (W : World) (o_ : Int) (m_ : ByteArray) (f_ t_ : Int) (A_ : Option Addr) (n_ c_ : Nat) (x : Sc), RdSc W (fun b => w.heap.size + 1 ≤ b ∧ b < W.heap.size) x (.agg (scC o_ m_ f_ t_ A_ n_ c_)) → (s2.fail = false → x = x2) → MadeW 77 w g s3 W →
          PW 77 w g R (.returned (.agg (scC o_ m_ f_ t_ A_ n_ c_))) (set5v W w.heap.size (.int .i64 o_) (.string m_) (.int .i64 f_) (.int .i64 t_) (.slice A_ n_ c_)) := by
        intro W o_ m_ f_ t_ A_ n_ c_ x hr he hm
        rw [hR]
        exact PW.fin hgl hr (fun h0 => he (hgo.ok h0)) hm
      have HF := Lib.hid hF
      clear hF hR hgo
      generalize hPost : PW 77 w g R = Post at *
      clear hPost
      generalize (d : Int) = E at *
      go_enter Tryd.func97, Tryd.ntmps97
      go_wp2_with (first
        | (go_at_call 96; (with_reducible refine cT.mono ?_); rintro e w1 ⟨rfl, hm1⟩)
        | (go_at_call 48; (with_reducible refine (cW _ hm1.1).mono ?_); rintro e w2 ⟨o_, m_, f_, t_, A_, n_, c_, x, rfl, hr2, he2, hm2⟩
           have hm3 := hm1.tr hm2
           have hGn := Gr.alloc w2 (.cells (scC o_ m_ f_ t_ A_ n_ c_) 39)
           have hm4 := hm3.gr hGn
           have hBx := Blk.new w2 39 (scC o_ m_ f_ t_ A_ n_ c_))
        | (go_at_call 96; (with_reducible refine (cT2 _ hm4.1).mono ?_); rintro e w5 ⟨rfl, hm5⟩
           have hm6 := hm4.tr hm5
           have hw2 : g < w2.heap.size := hm3.1.lt
           obtain ⟨k0, k1, k2, k3, k4, -⟩ := five_cells5 (hBx.xW hm5.2 (by omega))
           have hB5 := hB0.xW hm6.2 (by omega)
           obtain ⟨r0, r1, r2, r3, r4, q0, q1, q2, q3, q4⟩ := five_cells5 hB5))
      obtain ⟨z0, z1, z2, z3, z4, -⟩ := five_cells5 (hB5.put5 (y0 := .int .i64 o_) (y1 := .string m_) (y2 := .int .i64 f_) (y3 := .int .i64 t_) (y4 := .slice A_ n_ c_))
      have hw1 : w.heap.size + 1 ≤ w1.heap.size := by have := hm1.2.size; omega
      have hgw1 : g < w1.heap.size := hm1.1.lt
      have hr3 : RdSc w5 (fun b => w.heap.size + 1 ≤ b ∧ b < w5.heap.size) x (.agg (scC o_ m_ f_ t_ A_ n_ c_)) := RdSc.mono (fun b hb => ⟨by omega, by have h1 := hGn.size; have h2 := hm5.2.size; have := hb.2; omega⟩) _ _ (RdSc.keep (fun p hp => (grx_cell hm5.2 (by have h1 := hGn.size; have := hp.2; omega) (by have := hp.1; omega)).trans (hGn.cell hp.2)) _ _ hr2)
      exact bodyPost_ret (v := .agg (scC o_ m_ f_ t_ A_ n_ c_)) (by simp [results, Tryd.results97, go_sem, z0, z1, z2, z3, z4]) rfl (HF.out w5 o_ m_ f_ t_ A_ n_ c_ x hr3 he2 (hm6.after hGA))
    · rw [if_neg hb] at hR
      have hF : ∀ (W : World) (o_ : Int) (m_ : ByteArray) (f_ t_ : Int) (A_ : Option Addr) (n_ c_ : Nat) (x : Sc), RdSc W (fun b => w.heap.size + 1 ≤ b ∧ b < W.heap.size) x (.agg (scC o_ m_ f_ t_ A_ n_ c_)) → MadeW 77 w g (failW s3) W →
          PW 77 w g R (.returned (.agg (scC o_ m_ f_ t_ A_ n_ c_))) (set5v W w.heap.size (.int .i64 o_) (.string m_) (.int .i64 f_) (.int .i64 t_) (.slice A_ n_ c_)) := by
        intro W o_ m_ f_ t_ A_ n_ c_ x hr hm
        rw [hR]
        exact PW.fin hgl hr (fun h0 => by cases h0) hm
      have HF := Lib.hid hF
      obtain ⟨b1, b2⟩ := str_neqW hb
      obtain ⟨b3, b4⟩ := str_nlW (s := b) (l := [41]) hb
      clear hF hR hgo hb
      generalize hPost : PW 77 w g R = Post at *
      clear hPost
      generalize (d : Int) = E at *
      go_enter Tryd.func97, Tryd.ntmps97
      go_wp2_with (first
        | (go_at_call 96; (with_reducible refine cT.mono ?_); rintro e w1 ⟨rfl, hm1⟩)
        | (go_at_call 48; (with_reducible refine (cW _ hm1.1).mono ?_); rintro e w2 ⟨o_, m_, f_, t_, A_, n_, c_, x, rfl, hr2, he2, hm2⟩
           have hm3 := hm1.tr hm2
           have hGn := Gr.alloc w2 (.cells (scC o_ m_ f_ t_ A_ n_ c_) 39)
           have hm4 := hm3.gr hGn
           have hBx := Blk.new w2 39 (scC o_ m_ f_ t_ A_ n_ c_))
        | (go_at_call 96; (with_reducible refine (cT2 _ hm4.1).mono ?_); rintro e w5 ⟨rfl, hm5⟩
           have hm6 := hm4.tr hm5
           have hw2 : g < w2.heap.size := hm3.1.lt
           have hw2n : w2.heap.size ≠ g := by omega
           obtain ⟨LA, lc, g0, g1, gf0, gf1, -, -⟩ := hm6.1.cells
           obtain ⟨k0, k1, k2, k3, k4, -⟩ := five_cells5 ((hBx.xW hm5.2 (by omega)).far (p := ⟨g, 1, none⟩) hw2n (.bool true))
           have hB5 := (hB0.xW hm6.2 (by omega)).far (p := ⟨g, 1, none⟩) hng (.bool true)
           obtain ⟨r0, r1, r2, r3, r4, q0, q1, q2, q3, q4⟩ := five_cells5 hB5))
      obtain ⟨z0, z1, z2, z3, z4, -⟩ := five_cells5 (hB5.put5 (y0 := .int .i64 o_) (y1 := .string m_) (y2 := .int .i64 f_) (y3 := .int .i64 t_) (y4 := .slice A_ n_ c_))
      have hw1 : w.heap.size + 1 ≤ w1.heap.size := by have := hm1.2.size; omega
      have hgw1 : g < w1.heap.size := hm1.1.lt
      have hm7 := hm6.tr hm6.1.setF
      have hxx : GrX (w2.alloc (.cells (scC o_ m_ f_ t_ A_ n_ c_) 39)) (w5.setCell ⟨g, 1, none⟩ (.bool true)) g := GrX.tr hm5.2 (GrX.set_ (World.grownBy.refl _ _) 1 _)
      have hr3 : RdSc (w5.setCell ⟨g, 1, none⟩ (.bool true)) (fun b => w.heap.size + 1 ≤ b ∧ b < (w5.setCell ⟨g, 1, none⟩ (.bool true)).heap.size) x (.agg (scC o_ m_ f_ t_ A_ n_ c_)) := RdSc.mono (fun b hb => ⟨by omega, by have h1 := hGn.size; have h2 := hxx.size; have := hb.2; omega⟩) _ _ (RdSc.keep (fun p hp => (grx_cell hxx (by have h1 := hGn.size; have := hp.2; omega) (by have := hp.1; omega)).trans (hGn.cell hp.2)) _ _ hr2)
      exact bodyPost_ret (v := .agg (scC o_ m_ f_ t_ A_ n_ c_)) (by simp [results, Tryd.results97, go_sem, z0, z1, z2, z3, z4]) rfl (HF.out _ o_ m_ f_ t_ A_ n_ c_ x hr3 (hm7.after hGA))
  · have hR := a0 rfl
    clear n0 o0 a0 t0 e0
    have hF : ∀ (W : World), MadeW 77 w g s1 W → PW 77 w g R (.returned (.agg (scC 1 ⟨#[]⟩ 0 0 none 0 0))) (set5v W w.heap.size (.int .i64 1) (.string ⟨#[]⟩) (.int .i64 0) (.int .i64 0) (.slice none 0 0)) := by
      intro W hm
      rw [hR]
      exact PW.fin hgl (rd_leaf _ _ _ _ _ _) (fun _ => rfl) hm
    have HF := Lib.hid hF
    clear hF hR h hA ih
    generalize hPost : PW 77 w g R = Post at *
    clear hPost
    go_enter Tryd.func97, Tryd.ntmps97
    go_wp2_with (first
      | (go_at_call 96; (with_reducible refine cT.mono ?_); rintro e w1 ⟨rfl, hm1⟩
         have hB5 := hB0.xW hm1.2 (by omega)
         obtain ⟨r0, r1, r2, r3, r4, q0, q1, q2, q3, q4⟩ := five_cells5 hB5))
    obtain ⟨z0, z1, z2, z3, z4, -⟩ := five_cells5 (hB5.put5 (y0 := .int .i64 1) (y1 := .string ⟨#[]⟩) (y2 := .int .i64 0) (y3 := .int .i64 0) (y4 := .slice none 0 0))
    exact bodyPost_ret (v := .agg (scC 1 ⟨#[]⟩ 0 0 none 0 0)) (by simp [results, Tryd.results97, go_sem, z0, z1, z2, z3, z4]) rfl (HF.out w1 (hm1.after hGA))
  · have hR := t0 rfl
    clear n0 o0 a0 t0 e0
    have cM : ∀ W, EnvW 77 W g s1 → Calls Tryd.prog 114 #[.pointer (some ⟨g, 0, none⟩)] W (PW 77 W g (timeW s1)) := fun W hW => wtime_any hW
    rw [← hR] at cM
    have hF := fun (W : World) (o_ : Int) (m_ : ByteArray) (f_ t_ : Int) (A_ : Option Addr) (n_ c_ : Nat) (x : Sc) hr he hm => @PW.fin w g 77 W R o_ m_ f_ t_ A_ n_ c_ x hgl hr he hm
    have HF := Lib.hid hF
    unfold PW at cM
    clear hF hR h hA ih
    generalize hPost : PW 77 w g R = Post at *
    clear hPost
    go_enter Tryd.func97, Tryd.ntmps97
    go_wp2_with (first
      | (go_at_call 96; (with_reducible refine cT.mono ?_); rintro e w1 ⟨rfl, hm1⟩)
      | (go_at_call 114; (with_reducible refine (cM _ hm1.1).mono ?_); rintro e w2 ⟨o_, m_, f_, t_, A_, n_, c_, x, rfl, hr2, he2, hm2⟩
         have hm3 := hm1.tr hm2
         have hB5 := hB0.xW hm3.2 (by omega)
         obtain ⟨r0, r1, r2, r3, r4, q0, q1, q2, q3, q4⟩ := five_cells5 hB5))
    obtain ⟨z0, z1, z2, z3, z4, -⟩ := five_cells5 (hB5.put5 (y0 := .int .i64 o_) (y1 := .string m_) (y2 := .int .i64 f_) (y3 := .int .i64 t_) (y4 := .slice A_ n_ c_))
    have hw1 : w.heap.size + 1 ≤ w1.heap.size := by have := hm1.2.size; omega
    exact bodyPost_ret (v := .agg (scC o_ m_ f_ t_ A_ n_ c_)) (by simp [results, Tryd.results97, go_sem, z0, z1, z2, z3, z4]) rfl (HF.out w2 o_ m_ f_ t_ A_ n_ c_ x (RdSc.mono (fun b hb => ⟨by omega, hb.2⟩) _ _ hr2) he2 (hm3.after hGA))
  · have hR := e0 h1 h2 h3 h4
    clear n0 o0 a0 t0 e0
    have cM : ∀ W, EnvW 77 W g s1 → Calls Tryd.prog 115 #[.pointer (some ⟨g, 0, none⟩), .string a] W (PW 77 W g (namedW a s1)) := fun W hW => wnamed_any a hW
    rw [← hR] at cM
    have hF := fun (W : World) (o_ : Int) (m_ : ByteArray) (f_ t_ : Int) (A_ : Option Addr) (n_ c_ : Nat) (x : Sc) hr he hm => @PW.fin w g 77 W R o_ m_ f_ t_ A_ n_ c_ x hgl hr he hm
    have HF := Lib.hid hF
    unfold PW at cM
    obtain ⟨u1, v1⟩ := str_nlW (s := a) (l := [110, 111, 116]) h1
    obtain ⟨u2, v2⟩ := str_nlW (s := a) (l := [40]) h2
    obtain ⟨u3, v3⟩ := str_nlW (s := a) (l := [97, 108, 108]) h3
    obtain ⟨u4, v4⟩ := str_nlW (s := a) (l := [116, 105, 109, 101]) h4
    clear hF hR h hA ih h1 h2 h3 h4
    generalize hPost : PW 77 w g R = Post at *
    clear hPost
    go_enter Tryd.func97, Tryd.ntmps97
    go_wp2_with (first
      | (go_at_call 96; (with_reducible refine cT.mono ?_); rintro e w1 ⟨rfl, hm1⟩)
      | (go_at_call 115; (with_reducible refine (cM _ hm1.1).mono ?_); rintro e w2 ⟨o_, m_, f_, t_, A_, n_, c_, x, rfl, hr2, he2, hm2⟩
         have hm3 := hm1.tr hm2
         have hB5 := hB0.xW hm3.2 (by omega)
         obtain ⟨r0, r1, r2, r3, r4, q0, q1, q2, q3, q4⟩ := five_cells5 hB5))
    obtain ⟨z0, z1, z2, z3, z4, -⟩ := five_cells5 (hB5.put5 (y0 := .int .i64 o_) (y1 := .string m_) (y2 := .int .i64 f_) (y3 := .int .i64 t_) (y4 := .slice A_ n_ c_))
    have hw1 : w.heap.size + 1 ≤ w1.heap.size := by have := hm1.2.size; omega
    exact bodyPost_ret (v := .agg (scC o_ m_ f_ t_ A_ n_ c_)) (by simp [results, Tryd.results97, go_sem, z0, z1, z2, z3, z4]) rfl (HF.out w2 o_ m_ f_ t_ A_ n_ c_ x (RdSc.mono (fun b hb => ⟨by omega, hb.2⟩) _ _ hr2) he2 (hm3.after hGA))
theorem wfact_any : ∀ d : Nat, d ≤ 42 → IHF d
  | 0, _ => wfact_0
  | d + 1, h => wfact_s d (by omega) (wfact_any d (by omega))
theorem wwhole_41 {w : World} {g : Nat} {s : Wst} (h : EnvW 77 w g s) : Calls Tryd.prog 48 #[.pointer (some ⟨g, 0, none⟩), .int .i64 41] w (PW 77 w g (wholeW 41 s)) :=
  wwhole_any 41 (fun W s hW => wterm_any 41 (fun W s hW => wfact_any 41 (by omega) g W s hW) hW) h
end Go.Proofs.YtppnlijeonneeaaDoor

namespace Go.Proofs.YtppnlijeonneeaaDoor
open Go Go.RowKit Go.Sort

set_option maxRecDepth 100000 in
set_option maxHeartbeats 4000000 in
theorem rtext_not (nm : ByteArray) (fr to_ : Int) (x : Sc) (A : Option Addr) (c : Nat) (vs : List Value) (w : World) (hc : 1 ≤ c) (hcm : c ≤ maxLen) (hr : Rk w (· < w.heap.size) 5 A 1 vs) (hl : RdScL w (· < w.heap.size) [x] vs) (hT : (textS x).length ≤ 1000)
    (cK : ∀ v W, Gr w W → RdSc W (· < W.heap.size) x v → Calls Tryd.prog 68 #[v, .int .i64 8] W fun e w' => e = .returned (.string (wa (parW 8 x (textS x)))) ∧ Gr W w') :
    Calls Tryd.prog 47 #[.agg #[.int .i64 8, .string nm, .int .i64 fr, .int .i64 to_, .slice A 1 c]] w fun e w' => e = .returned (.string (wa (textS (.mk 8 nm fr to_ [x])))) ∧ Gr w w' := by
  rw [textS_8, ← wa_append]
  unfold maxLen at hcm
  have := And.intro hc hcm
  have hp := parW_len 8 x (textS x)
  have hs : (wa (parW 8 x (textS x))).size ≤ 1004 := by rw [wa_size]; omega
  obtain ⟨W1, hW1⟩ : ∃ W1, w.alloc (.cells #[.int .i64 8, .string nm, .int .i64 fr, .int .i64 to_, .slice A 1 c] 39) = W1 := ⟨_, rfl⟩
  have hG : Gr w W1 := by rw [← hW1]; exact Gr.alloc _ _
  have hB : Blk W1 w.heap.size 39 #[.int .i64 8, .string nm, .int .i64 fr, .int .i64 to_, .slice A 1 c] := by rw [← hW1]; exact Blk.new _ _ _
  obtain ⟨ad, P, v0, v1, v2, v3, v4, rfl, eP, hP, c0, c1, c2, c3, c4, hsx⟩ := kid_cells (hr.gr hG) (hl.gr hG) rfl 0 x rfl
  have eP0 : ad = P := by rw [← eP]; simp [Addr.add]
  subst eP0
  have k1 : ∀ d os, Calls Tryd.prog 68 #[.agg #[v0, v1, v2, v3, v4], .int .i64 8] (grow (redrawn W1 d) os) fun e w'' => e = .returned (.string (wa (parW 8 x (textS x)))) ∧ ∃ p : Regrown, w'' = grow (redrawn W1 p.d) p.os :=
    fun d os => Calls.regrown_of (cK _ _ (Gr.trans hG (below_regrown W1 d os)) (hsx.gr (below_regrown W1 d os)))
  generalize wa (parW 8 x (textS x)) = t at *
  have qb0 := cell_regrown (hB.cell 0)
  have qb4 := cell_regrown (hB.cell 4)
  have qc0 := cell_regrown c0
  have qc1 := cell_regrown c1
  have qc2 := cell_regrown c2
  have qc3 := cell_regrown c3
  have qc4 := cell_regrown c4
  have z1 : ¬ 9223372036854775807 < 4 + t.size := by omega
  have HW1 := Lib.hid hW1
  clear cK hT hp hsx hW1 hr hl hP eP
  go_enter Tryd.func47, Tryd.ntmps47
  go_wp2
  rw [HW1.out]
  refine wp_region_quiet_below (by kernel_rfl) (by kernel_rfl) ?_
  repeat (go_big_quiet_step (with_reducible exact k1 _ _))
  refine wpQuiet_nil ?_
  intro _ hw'
  obtain ⟨⟨dq, osq⟩, hw''⟩ := hw'
  subst hw''
  go_wp2
  go_ret
  exact ⟨rfl, Gr.trans hG (below_regrown W1 dq osq)⟩
theorem join_firstW {S X : ByteArray} {p : List UInt8} (hS : S = wa []) (hX : X = wa p) : S ++ X = wa p := by
  rw [hS, hX, wa_append, List.nil_append]
theorem join_nextW {S B X : ByteArray} {j sep p : List UInt8} (hS : S = wa j) (hB : B = wa sep) (hX : X = wa p) : S ++ B ++ X = wa (j ++ (sep ++ p)) := by
  rw [hS, hB, hX, wa_append, wa_append, List.append_assoc]
set_option maxRecDepth 100000 in
set_option maxHeartbeats 8000000 in
theorem rtext_list (op : Int) (ho : op = 6 ∨ op = 7) (nm : ByteArray) (fr to_ : Int) (ks : List Sc) (A : Option Addr) (c : Nat) (vs : List Value) (w : World) (hc : ks.length ≤ c) (hcm : c ≤ maxLen) (hr : Rk w (· < w.heap.size) 5 A ks.length vs) (hl : RdScL w (· < w.heap.size) ks vs)
    (hJl : ∀ k, (joinTo op ks k).length ≤ 1000) (hT : ∀ (k : Nat) (x : Sc), ks[k]? = some x → (textS x).length ≤ 1000)
    (cK : ∀ (k : Nat) (x : Sc) v W, ks[k]? = some x → Gr w W → RdSc W (· < W.heap.size) x v → Calls Tryd.prog 68 #[v, .int .i64 op] W fun e w' => e = .returned (.string (wa (parW op x (textS x)))) ∧ Gr W w') :
    Calls Tryd.prog 47 #[.agg #[.int .i64 op, .string nm, .int .i64 fr, .int .i64 to_, .slice A ks.length c]] w fun e w' => e = .returned (.string (wa (textS (.mk op nm fr to_ ks)))) ∧ Gr w w' := by
  rw [textS_list ho]
  unfold maxLen at hcm
  have h0J := Lib.hid (joinTo_0 op ks)
  have h1J := Lib.hid (fun x h => @joinTo_1 op ks x h)
  have hsJ := Lib.hid (fun k x h h0 => @joinTo_s op ks k x h h0)
  have HB := Lib.hid (fun k => (by rw [wa_size]; exact hJl k : (wa (joinTo op ks k)).size ≤ 1000))
  have HT := Lib.hid hT
  have HK := Lib.hid cK
  have hks : ks.length ≤ 9223372036854775807 := by omega
  generalize hJ : joinTo op ks = J at *
  clear hJ hJl hT cK
  rcases ho with rfl | rfl
  · go_enter Tryd.func47, Tryd.ntmps47
    go_wp2
    go_loopw [3, 4] (fun v3 v4 wr => ∃ k : Nat, v4 = .int .i64 (k : Int) ∧ v3 = .string (wa (J k)) ∧ k ≤ ks.length ∧ Gr w wr ∧ Blk wr w.heap.size 39 #[.int .i64 6, .string nm, .int .i64 fr, .int .i64 to_, .slice A ks.length c]) (fun _ v4 _ => ks.length - (intOf v4).toNat)
    case atStart => exact ⟨0, rfl, by rw [h0J.out]; rfl, Nat.zero_le _, Gr.alloc _ _, Blk.new w _ _⟩
    case round =>
      obtain ⟨k, rfl, rfl, hk, hgw, hB⟩ := hrel
      have b0 := hB.cell 0
      have b4 := hB.cell 4
      have hBl := hB.lt
      by_cases hlt : k < ks.length
      · obtain ⟨x, hxk⟩ : ∃ x, ks[k]? = some x := ⟨_, List.getElem?_eq_getElem hlt⟩
        obtain ⟨ad, P, v0, v1, v2, v3, v4, rfl, eP, hP, c0, c1, c2, c3, c4, hsx⟩ := kid_cells (hr.gr hgw) (hl.gr hgw) rfl k x hxk
        have k1 : ∀ d os, Calls Tryd.prog 68 #[.agg #[v0, v1, v2, v3, v4], .int .i64 _] (grow (redrawn wr d) os) fun e w'' => e = .returned (.string (wa (parW _ x (textS x)))) ∧ ∃ p : Regrown, w'' = grow (redrawn wr p.d) p.os :=
          fun d os => Calls.regrown_of (HK.out k x _ _ hxk (Gr.trans hgw (below_regrown wr d os)) (hsx.gr (below_regrown wr d os)))
        have hts : (wa (parW 6 x (textS x))).size ≤ 1004 := by
          rw [wa_size]
          have h1 := parW_len 6 x (textS x)
          have h2 := HT.out k x hxk
          omega
        have hSs := HB.out k
        generalize hp : parW 6 x (textS x) = p at *
        generalize ht : wa p = t at *
        generalize hS : wa (J k) = S at *
        have HP := Lib.hid hp
        have HTt := Lib.hid ht
        have HS := Lib.hid hS
        have HX := Lib.hid hxk
        have qb0 := cell_regrown b0
        have qb4 := cell_regrown b4
        have qc0 := cell_regrown c0
        have qc1 := cell_regrown c1
        have qc2 := cell_regrown c2
        have qc3 := cell_regrown c3
        have qc4 := cell_regrown c4
        have z1 : ¬ 9223372036854775807 < S.size + 4 := by omega
        have z2 : ¬ 9223372036854775807 < S.size + t.size := by omega
        have z3 : ¬ 9223372036854775807 < S.size + 4 + t.size := by omega
        have z4 : ¬ 9223372036854775807 < S.size + 5 := by omega
        have z5 : ¬ 9223372036854775807 < S.size + 5 + t.size := by omega
        clear hp ht hS hxk hsx
        by_cases hk0 : k = 0
        · have g0 : decide (0 < k) = false := decide_eq_false (by omega)
          have g1 : decide ((0 : Int) < (k : Int)) = false := decide_eq_false (by omega)
          have HK0 := Lib.hid hk0
          clear hk0
          go_wp2
          refine wp_region_quiet_below (by kernel_rfl) (by kernel_rfl) ?_
          repeat (go_big_quiet_step (with_reducible exact k1 _ _))
          refine wpQuiet_nil ?_
          intro _ hw'
          obtain ⟨⟨dq, osq⟩, hw''⟩ := hw'
          subst hw''
          go_wp2
          go_roundw
          case rel => exact ⟨k + 1, by go_num, congrArg Value.string (by have h := HX.out; rw [HK0.out] at h ⊢; rw [h1J.out x h, HP.out]; exact join_firstW (by rw [← HS.out, HK0.out, h0J.out]) HTt.out.symm), by omega, Gr.trans hgw (below_regrown wr dq osq), hB.below (below_regrown wr dq osq) hBl⟩
          case measure => simp [intOf]; omega
        · have g0 : decide (0 < k) = true := decide_eq_true (by omega)
          have g1 : decide ((0 : Int) < (k : Int)) = true := decide_eq_true (by omega)
          have g2 : 0 < k := by omega
          clear hk0
          go_wp2
          refine wp_region_quiet_below (by kernel_rfl) (by kernel_rfl) ?_
          repeat (go_big_quiet_step (with_reducible exact k1 _ _))
          refine wpQuiet_nil ?_
          intro _ hw'
          obtain ⟨⟨dq, osq⟩, hw''⟩ := hw'
          subst hw''
          go_wp2
          go_roundw
          case rel => exact ⟨k + 1, by go_num, congrArg Value.string (by rw [hsJ.out k x HX.out g2, HP.out]; exact join_nextW HS.out.symm rfl HTt.out.symm), by omega, Gr.trans hgw (below_regrown wr dq osq), hB.below (below_regrown wr dq osq) hBl⟩
          case measure => simp [intOf]; omega
      · obtain rfl : k = ks.length := by omega
        go_wp2
        go_ret
        exact ⟨rfl, hgw⟩
  · go_enter Tryd.func47, Tryd.ntmps47
    go_wp2
    go_loopw [3, 4] (fun v3 v4 wr => ∃ k : Nat, v4 = .int .i64 (k : Int) ∧ v3 = .string (wa (J k)) ∧ k ≤ ks.length ∧ Gr w wr ∧ Blk wr w.heap.size 39 #[.int .i64 7, .string nm, .int .i64 fr, .int .i64 to_, .slice A ks.length c]) (fun _ v4 _ => ks.length - (intOf v4).toNat)
    case atStart => exact ⟨0, rfl, by rw [h0J.out]; rfl, Nat.zero_le _, Gr.alloc _ _, Blk.new w _ _⟩
    case round =>
      obtain ⟨k, rfl, rfl, hk, hgw, hB⟩ := hrel
      have b0 := hB.cell 0
      have b4 := hB.cell 4
      have hBl := hB.lt
      by_cases hlt : k < ks.length
      · obtain ⟨x, hxk⟩ : ∃ x, ks[k]? = some x := ⟨_, List.getElem?_eq_getElem hlt⟩
        obtain ⟨ad, P, v0, v1, v2, v3, v4, rfl, eP, hP, c0, c1, c2, c3, c4, hsx⟩ := kid_cells (hr.gr hgw) (hl.gr hgw) rfl k x hxk
        have k1 : ∀ d os, Calls Tryd.prog 68 #[.agg #[v0, v1, v2, v3, v4], .int .i64 _] (grow (redrawn wr d) os) fun e w'' => e = .returned (.string (wa (parW _ x (textS x)))) ∧ ∃ p : Regrown, w'' = grow (redrawn wr p.d) p.os :=
          fun d os => Calls.regrown_of (HK.out k x _ _ hxk (Gr.trans hgw (below_regrown wr d os)) (hsx.gr (below_regrown wr d os)))
        have hts : (wa (parW 7 x (textS x))).size ≤ 1004 := by
          rw [wa_size]
          have h1 := parW_len 7 x (textS x)
          have h2 := HT.out k x hxk
          omega
        have hSs := HB.out k
        generalize hp : parW 7 x (textS x) = p at *
        generalize ht : wa p = t at *
        generalize hS : wa (J k) = S at *
        have HP := Lib.hid hp
        have HTt := Lib.hid ht
        have HS := Lib.hid hS
        have HX := Lib.hid hxk
        have qb0 := cell_regrown b0
        have qb4 := cell_regrown b4
        have qc0 := cell_regrown c0
        have qc1 := cell_regrown c1
        have qc2 := cell_regrown c2
        have qc3 := cell_regrown c3
        have qc4 := cell_regrown c4
        have z1 : ¬ 9223372036854775807 < S.size + 4 := by omega
        have z2 : ¬ 9223372036854775807 < S.size + t.size := by omega
        have z3 : ¬ 9223372036854775807 < S.size + 4 + t.size := by omega
        have z4 : ¬ 9223372036854775807 < S.size + 5 := by omega
        have z5 : ¬ 9223372036854775807 < S.size + 5 + t.size := by omega
        clear hp ht hS hxk hsx
        by_cases hk0 : k = 0
        · have g0 : decide (0 < k) = false := decide_eq_false (by omega)
          have g1 : decide ((0 : Int) < (k : Int)) = false := decide_eq_false (by omega)
          have HK0 := Lib.hid hk0
          clear hk0
          go_wp2
          refine wp_region_quiet_below (by kernel_rfl) (by kernel_rfl) ?_
          repeat (go_big_quiet_step (with_reducible exact k1 _ _))
          refine wpQuiet_nil ?_
          intro _ hw'
          obtain ⟨⟨dq, osq⟩, hw''⟩ := hw'
          subst hw''
          go_wp2
          go_roundw
          case rel => exact ⟨k + 1, by go_num, congrArg Value.string (by have h := HX.out; rw [HK0.out] at h ⊢; rw [h1J.out x h, HP.out]; exact join_firstW (by rw [← HS.out, HK0.out, h0J.out]) HTt.out.symm), by omega, Gr.trans hgw (below_regrown wr dq osq), hB.below (below_regrown wr dq osq) hBl⟩
          case measure => simp [intOf]; omega
        · have g0 : decide (0 < k) = true := decide_eq_true (by omega)
          have g1 : decide ((0 : Int) < (k : Int)) = true := decide_eq_true (by omega)
          have g2 : 0 < k := by omega
          clear hk0
          go_wp2
          refine wp_region_quiet_below (by kernel_rfl) (by kernel_rfl) ?_
          repeat (go_big_quiet_step (with_reducible exact k1 _ _))
          refine wpQuiet_nil ?_
          intro _ hw'
          obtain ⟨⟨dq, osq⟩, hw''⟩ := hw'
          subst hw''
          go_wp2
          go_roundw
          case rel => exact ⟨k + 1, by go_num, congrArg Value.string (by rw [hsJ.out k x HX.out g2, HP.out]; exact join_nextW HS.out.symm rfl HTt.out.symm), by omega, Gr.trans hgw (below_regrown wr dq osq), hB.below (below_regrown wr dq osq) hBl⟩
          case measure => simp [intOf]; omega
      · obtain rfl : k = ks.length := by omega
        go_wp2
        go_ret
        exact ⟨rfl, hgw⟩
def IHT (N : Nat) : Prop := ∀ (x : Sc) (v : Value) (w : World) (n d m : Nat), SizeOf.sizeOf x ≤ N → RdSc w (· < w.heap.size) x v → mayS x n d = some m → n ≤ 24 →
    Calls Tryd.prog 47 #[v] w fun e w' => e = .returned (.string (wa (textS x))) ∧ Gr w w'
theorem rtext_n : ∀ N : Nat, IHT N
  | 0 => by
    intro x v w n d m hN _ _ _
    obtain ⟨op, nm, fr, to_, ks⟩ := x
    have : 0 < SizeOf.sizeOf (Sc.mk op nm fr to_ ks) := by rw [Sc.mk.sizeOf_spec]; omega
    omega
  | N + 1 => by
    intro x v w n d m hN hx hm hn
    have ih := rtext_n N
    obtain ⟨op, nm, fr, to_, ks⟩ := x
    obtain ⟨A, c, vs, rfl, ⟨hc, hcm⟩, hr, hl⟩ := hx.form
    obtain ⟨h1, hd, ho, hnm, hft, hk, hmL⟩ := mayS_parts hm
    have hsz : ∀ (k : Nat) (x : Sc), ks[k]? = some x → SizeOf.sizeOf x ≤ N := by
      intro k x hx
      have h1 := List.sizeOf_lt_of_mem (List.mem_of_getElem? hx)
      have h2 : SizeOf.sizeOf (Sc.mk op nm fr to_ ks) = 1 + SizeOf.sizeOf op + SizeOf.sizeOf nm + SizeOf.sizeOf fr + SizeOf.sizeOf to_ + SizeOf.sizeOf ks := Sc.mk.sizeOf_spec op nm fr to_ ks
      omega
    have hT : ∀ (k : Nat) (x : Sc), ks[k]? = some x → (textS x).length ≤ 1000 := fun k x hx => by
      obtain ⟨n', m', h2, h3⟩ := mayL_kid ks _ _ _ k x hmL hx
      exact textS_1000 h3 (by omega)
    have cK : ∀ (k : Nat) (x : Sc) v W, ks[k]? = some x → RdSc W (· < W.heap.size) x v → Calls Tryd.prog 68 #[v, .int .i64 op] W fun e w' => e = .returned (.string (wa (parW op x (textS x)))) ∧ Gr W w' := by
      intro k x v W hx hr
      obtain ⟨n', m', h2, h3⟩ := mayL_kid ks _ _ _ k x hmL hx
      exact rkid_any x v op W hr (textS_1000 h3 (by omega)) (fun W' hg => ih x v W' n' _ m' (hsz k x hx) (hr.gr hg) h3 (by omega))
    by_cases h4 : op = 1 ∨ op = 2 ∨ op = 3 ∨ op = 4
    · refine rtext_name op nm fr to_ A ks.length c w ?_ h4 ks
      by_cases h2 : op = 2 ∨ op = 3 ∨ op = 4
      · rw [if_pos h2] at hnm
        unfold nameD at hnm
        simp only [Bool.and_eq_true, decide_eq_true_eq] at hnm
        omega
      · rw [if_neg h2] at hnm
        omega
    · by_cases h5 : op = 5
      · subst h5
        rw [if_pos rfl] at hft
        exact rtext_time nm fr to_ A ks.length c w hft.1 hft.2.1 hft.2.2 ks
      · by_cases h8 : op = 8
        · subst h8
          have h9 : ks.length = 1 := by simpa [kidsW] using hk
          obtain ⟨x, rfl⟩ := List.length_eq_one_iff.1 h9
          exact rtext_not nm fr to_ x A c vs w hc hcm hr hl (hT 0 x rfl) (fun v W _ hr => cK 0 x v W rfl hr)
        · exact rtext_list op (by omega) nm fr to_ ks A c vs w hc hcm hr hl (joinTo_len hmL (by omega)) hT (fun k x v W hx _ hr => cK k x v W hx hr)
end Go.Proofs.YtppnlijeonneeaaDoor

namespace Go.Proofs.YtppnlijeonneeaaDoor
open Go Go.RowKit Go.Sort

set_option maxRecDepth 100000 in
theorem wlist_any (o : Int) (m : ByteArray) (f t : Int) (A : Option Addr) (n c : Nat) (b : Bool) (w : World) (hb : decide (o = 6 ∨ o = 7) = b) : Calls Tryd.prog 64 #[.agg #[.int .i64 o, .string m, .int .i64 f, .int .i64 t, .slice A n c]] w fun e w' => e = .returned (.bool b) ∧ Gr w w' := by
  rcases (by omega : o = 6 ∨ o = 7 ∨ (o ≠ 6 ∧ o ≠ 7)) with rfl | rfl | ⟨h6, h7⟩
  · obtain rfl : b = true := by rw [← hb]; simp
    go_enter Tryd.func64, Tryd.ntmps64
    go_wp2
    go_ret
    exact ⟨rfl, Gr.alloc _ _⟩
  · obtain rfl : b = true := by rw [← hb]; simp
    go_enter Tryd.func64, Tryd.ntmps64
    go_wp2
    go_ret
    exact ⟨rfl, Gr.alloc _ _⟩
  · obtain rfl : b = false := by rw [← hb]; simp [h6, h7]
    have y6 : (o == 6) = false := beq_eq_false_iff_ne.2 h6
    have y7 : (o == 7) = false := beq_eq_false_iff_ne.2 h7
    go_enter Tryd.func64, Tryd.ntmps64
    go_wp2
    go_ret
    exact ⟨rfl, Gr.alloc _ _⟩
set_option maxRecDepth 100000 in
set_option maxHeartbeats 4000000 in
theorem wwithin_any (k : Sc) (v : Value) (op : Int) (w : World) (hx : RdSc w (· < w.heap.size) k v) (hlen : (textS k).length ≤ 1000)
    (cT : ∀ W, Gr w W → Calls Tryd.prog 45 #[v] W fun e w' => e = .returned (.string (wa (textS k))) ∧ Gr W w') :
    Calls Tryd.prog 63 #[v, .int .i64 op] w fun e w' => e = .returned (.string (wa (parW op k (textS k)))) ∧ Gr w w' := by
  obtain ⟨o, nm, fr, to_, ks⟩ := k
  obtain ⟨A, c, vs, rfl, _⟩ := hx.form
  have g1 := Gr.alloc w (.cells #[.int .i64 o, .string nm, .int .i64 fr, .int .i64 to_, .slice A ks.length c] 39)
  have hB := Blk.new w 39 #[.int .i64 o, .string nm, .int .i64 fr, .int .i64 to_, .slice A ks.length c]
  have hp : ∀ b : Bool, decide (o = 7 ∨ (o = 6 ∧ op ≠ 7)) = b → wa (parW op (.mk o nm fr to_ ks) (textS (.mk o nm fr to_ ks))) = if b = true then ⟨#[40, 32]⟩ ++ wa (textS (.mk o nm fr to_ ks)) ++ ⟨#[32, 41]⟩ else wa (textS (.mk o nm fr to_ ks)) := by
    intro b hb
    unfold parW
    show wa (if o = 7 ∨ (o = 6 ∧ op ≠ 7) then _ else _) = _
    cases b with
    | true =>
      rw [if_pos (of_decide_eq_true hb), if_pos rfl, show (⟨#[40, 32]⟩ : ByteArray) = wa [40, 32] from rfl, show (⟨#[32, 41]⟩ : ByteArray) = wa [32, 41] from rfl, wa_append, wa_append]
    | false => rw [if_neg (of_decide_eq_false hb), if_neg (by simp)]
  have hsz : (wa (textS (.mk o nm fr to_ ks))).size ≤ 1000 := by rw [wa_size]; exact hlen
  have cT2 := cT _ g1
  have cL := fun b W hb => wlist_any o nm fr to_ A ks.length c b W hb
  have h5 : (⟨#[40, 32]⟩ ++ wa (textS (.mk o nm fr to_ ks)) : ByteArray).size ≤ 1002 := by rw [ByteArray.size_append]; show 2 + _ ≤ _; omega
  generalize textS (.mk o nm fr to_ ks) = t at *
  have HP := Lib.hid hp
  clear hp hlen cT hx
  rcases (by omega : o = 7 ∨ (o = 6 ∧ op ≠ 7) ∨ (o = 6 ∧ op = 7) ∨ (o ≠ 6 ∧ o ≠ 7)) with rfl | ⟨rfl, h⟩ | ⟨rfl, rfl⟩ | ⟨h6, h7⟩
  · rw [HP.out true (by simp)]
    have cL2 := fun W => cL true W (by simp)
    clear cL
    go_enter Tryd.func63, Tryd.ntmps63
    go_wp2_with (first
      | (go_at_call 45; (with_reducible refine cT2.mono ?_); rintro e w1 ⟨rfl, hb1⟩; obtain ⟨r0, r1, r2, r3, r4⟩ := five_cells (hB.below hb1 hB.lt))
      | (go_at_call 64; (with_reducible refine (cL2 _).mono ?_); rintro e w2 ⟨rfl, hb2⟩; obtain ⟨s0, s1, s2, s3, s4⟩ := five_cells ((hB.below hb1 hB.lt).below hb2 (hB.below hb1 hB.lt).lt)))
    all_goals (try (exfalso; omega))
    go_ret
    exact ⟨rfl, Gr.trans (Gr.trans g1 hb1) hb2⟩
  · rw [HP.out true (by simp [h])]
    have y : (op == 7) = false := beq_eq_false_iff_ne.2 h
    have cL2 := fun W => cL true W (by simp)
    clear cL
    go_enter Tryd.func63, Tryd.ntmps63
    go_wp2_with (first
      | (go_at_call 45; (with_reducible refine cT2.mono ?_); rintro e w1 ⟨rfl, hb1⟩; obtain ⟨r0, r1, r2, r3, r4⟩ := five_cells (hB.below hb1 hB.lt))
      | (go_at_call 64; (with_reducible refine (cL2 _).mono ?_); rintro e w2 ⟨rfl, hb2⟩; obtain ⟨s0, s1, s2, s3, s4⟩ := five_cells ((hB.below hb1 hB.lt).below hb2 (hB.below hb1 hB.lt).lt)))
    all_goals (try (exfalso; omega))
    go_ret
    exact ⟨rfl, Gr.trans (Gr.trans g1 hb1) hb2⟩
  · rw [HP.out false (by simp)]
    have cL2 := fun W => cL true W (by simp)
    clear cL
    go_enter Tryd.func63, Tryd.ntmps63
    go_wp2_with (first
      | (go_at_call 45; (with_reducible refine cT2.mono ?_); rintro e w1 ⟨rfl, hb1⟩; obtain ⟨r0, r1, r2, r3, r4⟩ := five_cells (hB.below hb1 hB.lt))
      | (go_at_call 64; (with_reducible refine (cL2 _).mono ?_); rintro e w2 ⟨rfl, hb2⟩; obtain ⟨s0, s1, s2, s3, s4⟩ := five_cells ((hB.below hb1 hB.lt).below hb2 (hB.below hb1 hB.lt).lt)))
    all_goals (try (exfalso; omega))
    go_ret
    exact ⟨rfl, Gr.trans (Gr.trans g1 hb1) hb2⟩
  · rw [HP.out false (by simp [h6, h7])]
    have cL2 := fun W => cL false W (by simp [h6, h7])
    clear cL
    go_enter Tryd.func63, Tryd.ntmps63
    go_wp2_with (first
      | (go_at_call 45; (with_reducible refine cT2.mono ?_); rintro e w1 ⟨rfl, hb1⟩; obtain ⟨r0, r1, r2, r3, r4⟩ := five_cells (hB.below hb1 hB.lt))
      | (go_at_call 64; (with_reducible refine (cL2 _).mono ?_); rintro e w2 ⟨rfl, hb2⟩; obtain ⟨s0, s1, s2, s3, s4⟩ := five_cells ((hB.below hb1 hB.lt).below hb2 (hB.below hb1 hB.lt).lt)))
    all_goals (try (exfalso; omega))
    go_ret
    exact ⟨rfl, Gr.trans (Gr.trans g1 hb1) hb2⟩
set_option maxRecDepth 100000 in
set_option maxHeartbeats 4000000 in
theorem wtext_1 (nm : ByteArray) (fr to_ : Int) (A : Option Addr) (len c : Nat) (w : World) (ks : List Sc) :
    Calls Tryd.prog 45 #[.agg #[.int .i64 1, .string nm, .int .i64 fr, .int .i64 to_, .slice A len c]] w fun e w' => e = .returned (.string (wa (textS (.mk 1 nm fr to_ ks)))) ∧ Gr w w' := by
  rw [textS, if_pos rfl]
  go_enter Tryd.func45, Tryd.ntmps45
  go_wp2
  all_goals (try (exfalso; omega))
  go_ret
  exact ⟨rfl, Gr.alloc _ _⟩
theorem textS_name {op : Int} {nm : ByteArray} {fr to_ : Int} {ks : List Sc} (h : op = 2 ∨ op = 3 ∨ op = 4) : wa (textS (.mk op nm fr to_ ks)) = wa (wordW op) ++ ⟨#[32]⟩ ++ nm := by
  rw [textS, if_neg (by omega), if_pos h, show (⟨#[32]⟩ : ByteArray) = wa [32] from rfl, wa_append]
  exact (named_wa _ nm).symm
set_option maxRecDepth 100000 in
set_option maxHeartbeats 4000000 in
theorem wtext_name (op : Int) (nm : ByteArray) (fr to_ : Int) (A : Option Addr) (len c : Nat) (w : World) (hs : nm.size ≤ 2000) (h : op = 2 ∨ op = 3 ∨ op = 4) (ks : List Sc) :
    Calls Tryd.prog 45 #[.agg #[.int .i64 op, .string nm, .int .i64 fr, .int .i64 to_, .slice A len c]] w fun e w' => e = .returned (.string (wa (textS (.mk op nm fr to_ ks)))) ∧ Gr w w' := by
  rw [textS_name h]
  have hW : ∃ q : ByteArray, wa (wordW op) = q ∧ q.size ≤ 7 ∧ ∀ w, Calls Tryd.prog 65 #[.int .i64 op] w fun e w' => e = .returned (.string q) ∧ w = w' := by
    rcases h with rfl | rfl | rfl
    · exact ⟨_, rfl, by decide, wword_2⟩
    · exact ⟨_, rfl, by decide, wword_3⟩
    · exact ⟨_, rfl, by decide, wword_4⟩
  obtain ⟨q, hq, hqs, cW⟩ := hW
  rw [hq]
  have z1 : ¬ 9223372036854775807 < q.size + 1 := by omega
  have z2 : ¬ 9223372036854775807 < q.size + 1 + nm.size := by omega
  have cL := fun W => wlist_any op nm fr to_ A len c false W (by rcases h with rfl | rfl | rfl <;> simp)
  have hB := Blk.new w 39 #[.int .i64 op, .string nm, .int .i64 fr, .int .i64 to_, .slice A len c]
  clear hq hqs hs
  rcases h with rfl | rfl | rfl
  all_goals
    go_enter Tryd.func45, Tryd.ntmps45
    go_wp2_with (go_at_call 64; (with_reducible refine (cL _).mono ?_); rintro e w2 ⟨rfl, hb2⟩; obtain ⟨s0, s1, s2, s3, s4⟩ := five_cells (hB.below hb2 hB.lt))
    all_goals (try (exfalso; omega))
    have k1 := fun n => quiet_samen (cW (w2.drewN n))
    go_quiet ((with_reducible exact k1 _))
    go_wp2
    all_goals (try (exfalso; omega))
    go_ret
    exact ⟨rfl, Gr.trans (Gr.trans (Gr.alloc _ _) hb2) (Gr.drewN _ _)⟩
end Go.Proofs.YtppnlijeonneeaaDoor
