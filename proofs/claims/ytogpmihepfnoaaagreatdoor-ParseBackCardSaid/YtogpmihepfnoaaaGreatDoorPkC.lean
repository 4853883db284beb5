/- Reading schedules: the reference's reader: its small methods. Printed by wip/tools/genpao.py. Reading schedules: the reference's reader: terms. Printed by wip/tools/genpar.py. Reading schedules: the reference's reader: conditions. Printed by wip/tools/genpas.py. Reading schedules: the reference's reader: facts, conditions. Reading schedules: the reference's rules. Printed by wip/tools/genpav.py. Reading schedules: the reference's run, Rules, Cost. The laws ParseRules, ParseBack: their walks. -/
import Derived.Test.YtogpmihepfnoaaaGreatDoorPkB
import Derived.IntWalk
import Derived.Test.YtogpmihepfnoaaaGreatDoorFactsV
import Derived.Test.YtogpmihepfnoaaaGreatDoorRuH
import Derived.Test.YtogpmihepfnoaaaGreatDoorRuJ
import Derived.Test.YtogpmihepfnoaaaGreatDoorRuK
namespace Go.Proofs.YtogpmihepfnoaaaGreatDoor
open Go Go.RowKit Go.Sort

/-- Where a reader lies, and how it stands. -/
structure EnvS (ts : List Tk) (L : Value) (E F : Int) (w : World) (g : Nat) (s : Pst) : Prop where
  blk : Blk w g 67 #[L, .int .i64 (s.pos : Int), .int .i64 E, .int .i64 s.fuel, .int .i64 s.err, .int .i64 (F - s.fuel)]
  rd : RdTks w g L ts
  pos : s.pos ≤ ts.length
  len : ts.length ≤ 600
  lo : -9223372036854775808 ≤ s.fuel
  hi : F ≤ 9223372036854775807
  le : s.fuel ≤ F
  small : ∀ t ∈ ts, t.text.size ≤ 600
section
variable {ts : List Tk} {L : Value} {E F : Int} {w w' : World} {g : Nat} {s : Pst}
theorem EnvS.lt (h : EnvS ts L E F w g s) : g < w.heap.size := h.blk.lt
theorem EnvS.gr (h : EnvS ts L E F w g s) (hg : Gr w w') : EnvS ts L E F w' g s := ⟨h.blk.below hg h.lt, h.rd.x (Nat.le_of_lt h.lt) (GrX.of_gr hg g), h.pos, h.len, h.lo, h.hi, h.le, h.small⟩
theorem EnvS.cells (h : EnvS ts L E F w g s) : w.cell? ⟨g, 0, none⟩ = some L ∧ w.cell? ⟨g, 1, none⟩ = some (.int .i64 (s.pos : Int)) ∧ w.cell? ⟨g, 2, none⟩ = some (.int .i64 E) ∧ w.cell? ⟨g, 3, none⟩ = some (.int .i64 s.fuel) ∧ w.cell? ⟨g, 4, none⟩ = some (.int .i64 s.err) ∧ w.cell? ⟨g, 5, none⟩ = some (.int .i64 (F - s.fuel)) ∧
    w.frozen? ⟨g, 1, none⟩ = false ∧ w.frozen? ⟨g, 3, none⟩ = false ∧ w.frozen? ⟨g, 4, none⟩ = false ∧ w.frozen? ⟨g, 5, none⟩ = false :=
  ⟨h.blk.cell 0, h.blk.cell 1, h.blk.cell 2, h.blk.cell 3, h.blk.cell 4, h.blk.cell 5, h.blk.frozen 1, h.blk.frozen 3, h.blk.frozen 4, h.blk.frozen 5⟩
theorem setx_grx (w : World) (g i : Nat) (v : Value) : GrX w (w.setCell ⟨g, i, none⟩ v) g := GrX.set_ (World.grownBy.refl w (some g)) i v
theorem EnvS.setE (h : EnvS ts L E F w g s) (e : Int) : EnvS ts L E F (w.setCell ⟨g, 4, none⟩ (.int .i64 e)) g { s with err := e } ∧ GrX w (w.setCell ⟨g, 4, none⟩ (.int .i64 e)) g :=
  ⟨⟨by simpa using h.blk.set_ 4 (.int .i64 e), h.rd.x (Nat.le_of_lt h.lt) (setx_grx _ _ _ _), h.pos, h.len, h.lo, h.hi, h.le, h.small⟩, setx_grx _ _ _ _⟩
theorem EnvS.setF (h : EnvS ts L E F w g s) (h1 : 1 ≤ s.fuel) : EnvS ts L E F ((w.setCell ⟨g, 3, none⟩ (.int .i64 (s.fuel - 1))).setCell ⟨g, 5, none⟩ (.int .i64 (F - s.fuel + 1))) g { s with fuel := s.fuel - 1 } ∧ GrX w ((w.setCell ⟨g, 3, none⟩ (.int .i64 (s.fuel - 1))).setCell ⟨g, 5, none⟩ (.int .i64 (F - s.fuel + 1))) g := by
  have hx := GrX.tr (setx_grx w g 3 (.int .i64 (s.fuel - 1))) (setx_grx _ g 5 (.int .i64 (F - s.fuel + 1)))
  refine ⟨⟨?_, h.rd.x (Nat.le_of_lt h.lt) hx, h.pos, h.len, by have := h.lo; dsimp only; omega, h.hi, by have := h.le; dsimp only; omega, h.small⟩, hx⟩
  have h2 := (h.blk.set_ 3 (.int .i64 (s.fuel - 1))).set_ 5 (.int .i64 (F - s.fuel + 1))
  have e : F - (s.fuel - 1) = F - s.fuel + 1 := by omega
  dsimp only
  rw [e]
  simpa using h2
theorem EnvS.setP (h : EnvS ts L E F w g s) (h1 : s.pos < ts.length) : EnvS ts L E F (w.setCell ⟨g, 1, none⟩ (.int .i64 ((s.pos : Int) + 1))) g { s with pos := s.pos + 1 } ∧ GrX w (w.setCell ⟨g, 1, none⟩ (.int .i64 ((s.pos : Int) + 1))) g :=
  ⟨⟨by simpa using h.blk.set_ 1 (.int .i64 ((s.pos : Int) + 1)), h.rd.x (Nat.le_of_lt h.lt) (setx_grx _ _ _ _), h1, h.len, h.lo, h.hi, h.le, h.small⟩, setx_grx _ _ _ _⟩
/-- What a method makes: the state behind, and all else as it was. -/
structure MadeS (ts : List Tk) (L : Value) (E F : Int) (w : World) (g : Nat) (s' : Pst) (w' : World) : Prop where
  env : EnvS ts L E F w' g s'
  gx : GrX w w' g
theorem MadeS.tr {w1 : World} {s1 s2 : Pst} (h : MadeS ts L E F w g s1 w1) (k : MadeS ts L E F w1 g s2 w') : MadeS ts L E F w g s2 w' := ⟨k.1, GrX.tr h.2 k.2⟩
theorem MadeS.gr {w1 : World} {s1 : Pst} (h : MadeS ts L E F w g s1 w1) (k : Gr w1 w') : MadeS ts L E F w g s1 w' := ⟨h.1.gr k, GrX.tr h.2 (GrX.of_gr k g)⟩
theorem MadeS.refl (h : EnvS ts L E F w g s) : MadeS ts L E F w g s w := ⟨h, World.grownBy.refl _ _⟩
theorem MadeS.after {w1 : World} {s1 : Pst} (hG : Gr w w1) (h : MadeS ts L E F w1 g s1 w') : MadeS ts L E F w g s1 w' := ⟨h.1, GrX.tr (GrX.of_gr hG g) h.2⟩
theorem EnvS.far (h : EnvS ts L E F w g s) {p : Addr} (hp : g < p.block) (v : Value) : EnvS ts L E F (w.setCell p v) g s := by
  have hx : GrX w (w.setCell p v) p.block := ⟨rfl, rfl, rfl, by simp [World.setCell], fun k _ hk => Below.heap_setCell w p v k (by intro e; exact hk (by rw [e]))⟩
  refine ⟨h.blk.far (by omega) v, ?_, h.pos, h.len, h.lo, h.hi, h.le, h.small⟩
  obtain ⟨A, c, e, hc, hr⟩ := h.rd
  exact ⟨A, c, e, hc, hr.keep fun q hq => grx_cell hx (by have := h.lt; omega) (by omega)⟩
theorem MadeS.far {w1 : World} {s1 : Pst} (h : MadeS ts L E F w g s1 w1) (hg : g < w.heap.size) {p : Addr} (hp : w.heap.size ≤ p.block) (v : Value) : MadeS ts L E F w g s1 (w1.setCell p v) :=
  ⟨h.1.far (by omega) v, ⟨h.2.os, h.2.tape, h.2.output, by simpa [World.setCell] using h.2.size, fun k hk hne => (Below.heap_setCell w1 p v k (by omega)).trans (h.2.block k hk hne)⟩⟩
theorem MadeS.set4 {w1 : World} {s1 : Pst} (h : MadeS ts L E F w g s1 w1) (hg : g < w.heap.size) {r : Nat} (hr : w.heap.size ≤ r) (y0 y1 y2 y3 : Value) : MadeS ts L E F w g s1 (set4w w1 r y0 y1 y2 y3) :=
  (((h.far hg hr y0).far hg hr y1).far hg hr y2).far hg hr y3
theorem MadeS.below {w1 w2 : World} {s1 : Pst} {base : Nat} (h : MadeS ts L E F w g s1 w1) (hg : g < w.heap.size) (hw : w.heap.size ≤ base) (hb : Below base w1 w2) : MadeS ts L E F w g s1 w2 := by
  have hgr : GrX w w2 g := ⟨hb.os.trans h.2.os, hb.tape.trans h.2.tape, hb.output.trans h.2.output, Nat.le_trans h.2.size hb.size, fun k hk hne => (hb.block k (by omega)).trans (h.2.block k hk hne)⟩
  refine ⟨⟨h.1.blk.below hb (by omega), ?_, h.1.pos, h.1.len, h.1.lo, h.1.hi, h.1.le, h.1.small⟩, hgr⟩
  obtain ⟨A, c, e, hc, hr⟩ := h.1.rd
  exact ⟨A, c, e, hc, hr.keep fun p hp => hb.cell (by omega)⟩
set_option maxRecDepth 100000 in
set_option maxHeartbeats 1000000 in
theorem sburn_any (h : EnvS ts L E F w g s) : Calls Tryz.prog 71 #[.pointer (some ⟨g, 0, none⟩)] w fun e w' => (∃ v, e = .returned v) ∧ MadeS ts L E F w g (burnD s) w' := by
  obtain ⟨c0, c1, c2, c3, c4, c5, f1, f3, f4, f5⟩ := h.cells
  have lo := h.lo
  have hi := h.hi
  have hle := h.le
  have hb : burnD s = if s.err = 0 then (if s.fuel < 1 then { s with err := 14 } else { s with fuel := s.fuel - 1 }) else s := rfl
  by_cases he : s.err = 0
  · rw [he] at c4
    by_cases h1 : s.fuel < 1
    · rw [hb, if_pos he, if_pos h1]
      have hS := h.setE 14
      clear hb h he
      go_enter Tryz.func71, Tryz.ntmps71
      go_wp2
      go_end0
      exact ⟨⟨_, rfl⟩, hS.1, hS.2⟩
    · rw [hb, if_pos he, if_neg h1]
      have h1' : 1 ≤ s.fuel := by omega
      have hS := h.setF h1'
      have hu0 : 0 ≤ F - s.fuel := by omega
      have hu1 : F - s.fuel ≤ 9223372036854775806 := by omega
      clear hb h he
      generalize F - s.fuel = u at *
      go_enter Tryz.func71, Tryz.ntmps71
      go_wp2
      go_end0
      exact ⟨⟨_, rfl⟩, hS.1, hS.2⟩
  · rw [hb, if_neg he]
    have e1 : (s.err == 0) = false := by simp [he]
    have hS := MadeS.refl h
    clear hb h he
    go_enter Tryz.func71, Tryz.ntmps71
    go_wp2
    go_end0
    exact ⟨⟨_, rfl⟩, hS.1, hS.2⟩
theorem str_neqs {a b : ByteArray} (h : a ≠ b) : decide (a = b) = false ∧ (a.toList == b.toList) = false ∧ (a.toList != b.toList) = true ∧ ¬ a.toList = b.toList := by
  obtain ⟨h1, h2⟩ := str_neq h
  exact ⟨h1, h2, by rw [bne, h2]; rfl, by simpa using h2⟩
theorem str_nils {m : ByteArray} (h : m.size ≠ 0) : (m.toList == []) = false ∧ ¬ m.toList = [] ∧ m.toList.isEmpty = false ∧ (m.toList != []) = true := by
  obtain ⟨h1, h2, h3⟩ := str_nil h
  exact ⟨h2, h1, h3, by rw [bne, h2]; rfl⟩
set_option maxRecDepth 100000 in
set_option maxHeartbeats 4000000 in
theorem snext_kind (k : Int) (h : EnvS ts L E F w g s) : Calls Tryz.prog 45 #[.pointer (some ⟨g, 0, none⟩), .int .i64 k, .string ⟨#[]⟩] w fun e w' => e = .returned (tkV (takeT ts (kindB k) s).1) ∧ MadeS ts L E F w g (takeT ts (kindB k) s).2 w' := by
  have hgl := h.lt
  have hB0 := Blk.new w 82 (tkC 0 ⟨#[]⟩ 0 0)
  have hGA := Gr.alloc w (.cells (tkC 0 ⟨#[]⟩ 0 0) 82)
  have hA := h.gr hGA
  have cB := sburn_any hA
  obtain ⟨AL, cL, rfl, hcL⟩ := h.rd.form
  have hlen := h.len
  have hT : takeT ts (kindB k) s = if (burnD s).err ≠ 0 then (Tk.zero, burnD s) else match ts[s.pos]? with | none => (Tk.zero, { burnD s with err := 2 }) | some t => if (kindB k) t then (t, { burnD s with pos := s.pos + 1 }) else (Tk.zero, { burnD s with err := 2 }) := rfl
  have hbpos := burn_pos s
  by_cases he : (burnD s).err = 0
  · rw [if_neg (by omega)] at hT
    cases ht : ts[s.pos]? with
    | none =>
      rw [ht] at hT
      dsimp only at hT
      rw [hT]
      have hp : ts.length ≤ s.pos := List.getElem?_eq_none_iff.1 ht
      have hp' : (burnD s).pos = ts.length := by have := h.pos; omega
      clear hT ht h hA hp hbpos
      generalize burnD s = b0 at *
      go_enter Tryz.func45, Tryz.ntmps45
      go_wp2_with (go_at_call 71; (with_reducible refine cB.mono ?_); rintro e w1 ⟨⟨v1, rfl⟩, hm1⟩
                   obtain ⟨c0, c1, c2, c3, c4, c5, f1, f3, f4, f5⟩ := hm1.1.cells
                   rw [he] at c4
                   rw [hp'] at c1)
      go_quiet (fail)
      have hm2 := hm1.gr (Gr.drewN w1 nq)
      obtain ⟨d0, d1, d2, d3, d4, d5, e1, e3, e4, e5⟩ := hm2.1.cells
      have hBr := (hB0.x hm1.2 (by omega)).drewN nq
      obtain ⟨hE, hx⟩ := hm2.1.setE 2
      have hM : MadeS ts (.slice AL ts.length cL) E F w g { b0 with err := 2 } ((w1.drewN nq).setCell ⟨g, 4, none⟩ (.int .i64 2)) := ⟨hE, GrX.tr (GrX.of_gr hGA g) (GrX.tr hm2.2 hx)⟩
      have hBr2 := hBr.x hx (by omega)
      obtain ⟨r0, r1, r2, r3, q0, q1, q2, q3⟩ := tk_cells hBr2
      go_wp2
      obtain ⟨z0, z1, z2, z3, -⟩ := tk_cells (hBr2.tk4 (y0 := .int .i64 0) (y1 := .string ⟨#[]⟩) (y2 := .int .i64 0) (y3 := .int .i64 0))
      exact bodyPost_ret (v := tkV Tk.zero) (by simp [results, Tryz.results45, go_sem, z0, z1, z2, z3]) rfl ⟨rfl, hM.set4 hgl (Nat.le_refl _) _ _ _ _⟩
    | some t =>
      rw [ht] at hT
      dsimp only at hT
      obtain ⟨hpl, -⟩ := List.getElem?_eq_some_iff.1 ht
      have hbp : (burnD s).pos < ts.length := by omega
      have ht' : ts[(burnD s).pos]? = some t := by rw [hbpos]; exact ht
      cases hp : (kindB k) t with
      | false =>
        rw [hp, if_neg (by simp)] at hT
        rw [hT]
        clear hT ht h hA hpl hbpos
        generalize burnD s = b0 at *
        have hp1 : (b0.pos : Int) < (ts.length : Int) := by omega
        have hp2 : ¬ ts.length ≤ b0.pos := by omega
        have hp3 : decide (ts.length ≤ b0.pos) = false := decide_eq_false (by omega)
        obtain ⟨tk, tx, tn, ta⟩ := t
        have hk : tk ≠ k := by intro e; subst e; simp [kindB] at hp
        have n1 : (tk == k) = false := by simp [hk]
        have n2 : (tk != k) = true := by simp [hk]
        have n3 : decide (tk = k) = false := decide_eq_false hk
        clear hp hk
        all_goals
          go_enter Tryz.func45, Tryz.ntmps45
          go_wp2_with (go_at_call 71; (with_reducible refine cB.mono ?_); rintro e w1 ⟨⟨v1, rfl⟩, hm1⟩
                       obtain ⟨c0, c1, c2, c3, c4, c5, f1, f3, f4, f5⟩ := hm1.1.cells
                       rw [he] at c4
                       obtain ⟨ad, P, hAL, eP, hP, k0, k1, k2, k3⟩ := hm1.1.rd.tok b0.pos _ ht'
                       subst hAL)
          go_quiet (fail)
          have hm2 := hm1.gr (Gr.drewN w1 nq)
          obtain ⟨d0, d1, d2, d3, d4, d5, e1, e3, e4, e5⟩ := hm2.1.cells
          have hBr := (hB0.x hm1.2 (by omega)).drewN nq
          obtain ⟨hE, hx⟩ := hm2.1.setE 2
          have hM : MadeS ts (.slice (some ad) ts.length cL) E F w g { b0 with err := 2 } ((w1.drewN nq).setCell ⟨g, 4, none⟩ (.int .i64 2)) := ⟨hE, GrX.tr (GrX.of_gr hGA g) (GrX.tr hm2.2 hx)⟩
          have hBr2 := hBr.x hx (by omega)
          obtain ⟨r0, r1, r2, r3, q0, q1, q2, q3⟩ := tk_cells hBr2
          go_wp2
          obtain ⟨z0, z1, z2, z3, -⟩ := tk_cells (hBr2.tk4 (y0 := .int .i64 0) (y1 := .string ⟨#[]⟩) (y2 := .int .i64 0) (y3 := .int .i64 0))
          exact bodyPost_ret (v := tkV Tk.zero) (by simp [results, Tryz.results45, go_sem, z0, z1, z2, z3]) rfl ⟨rfl, hM.set4 hgl (Nat.le_refl _) _ _ _ _⟩
      | true =>
        rw [hp, if_pos rfl] at hT
        rw [hT]
        have hps : s.pos = (burnD s).pos := hbpos.symm
        rw [hps]
        clear hT ht h hA hpl hbpos
        clear hps
        generalize burnD s = b0 at *
        have hp1 : (b0.pos : Int) < (ts.length : Int) := by omega
        have hp2 : ¬ ts.length ≤ b0.pos := by omega
        have hp3 : decide (ts.length ≤ b0.pos) = false := decide_eq_false (by omega)
        have hp4 : (b0.pos : Int) ≤ 601 := by omega
        have hw5 : IntKind.i64.wrap (b0.pos : Int) = (b0.pos : Int) := IntWalk.i64_in _ (by omega)
        obtain ⟨tk, tx, tn, ta⟩ := t
        obtain rfl : tk = k := by simpa [kindB] using hp
        clear hp
        go_enter Tryz.func45, Tryz.ntmps45
        go_wp2_with (go_at_call 71; (with_reducible refine cB.mono ?_); rintro e w1 ⟨⟨v1, rfl⟩, hm1⟩
                     obtain ⟨c0, c1, c2, c3, c4, c5, f1, f3, f4, f5⟩ := hm1.1.cells
                     rw [he] at c4
                     obtain ⟨ad, P, hAL, eP, hP, k0, k1, k2, k3⟩ := hm1.1.rd.tok b0.pos _ ht'
                     subst hAL)
        go_quiet (fail)
        have hm2 := hm1.gr (Gr.drewN w1 nq)
        obtain ⟨d0, d1, d2, d3, d4, d5, e1, e3, e4, e5⟩ := hm2.1.cells
        have hBr := (hB0.x hm1.2 (by omega)).drewN nq
        obtain ⟨hE, hx⟩ := hm2.1.setP hbp
        have hM : MadeS ts (.slice (some ad) ts.length cL) E F w g { b0 with pos := b0.pos + 1 } ((w1.drewN nq).setCell ⟨g, 1, none⟩ (.int .i64 ((b0.pos : Int) + 1))) := ⟨hE, GrX.tr (GrX.of_gr hGA g) (GrX.tr hm2.2 hx)⟩
        have hBr2 := hBr.x hx (by omega)
        obtain ⟨ad2, P2, hAL2, eP2, hP2, l0, l1, l2, l3⟩ := hE.rd.tok b0.pos _ ht'
        obtain ⟨j0, j1, j2, j3, j4, j5, -⟩ := hE.cells
        injection hAL2 with hAL2
        subst hAL2
        obtain rfl : P2 = P := eP2.symm.trans eP
        clear c0 c1 c2 c3 c4 c5 f1 f3 f4 f5 k0 k1 k2 k3
        go_wp2
        generalize hWW : (w1.drewN nq).setCell ⟨g, 1, none⟩ (.int .i64 ((b0.pos : Int) + 1)) = WW at *
        refine wp_region_tail 10 (by kernel_rfl) (by kernel_rfl) ?_
        simp only [List.take_succ_cons, List.take_zero, List.drop_succ_cons, List.drop_zero]
        repeat still_step
        refine wpStill_nil ?_
        obtain ⟨r0, r1, r2, r3, q0, q1, q2, q3⟩ := tk_cells hBr2
        go_wp2
        obtain ⟨z0, z1, z2, z3, -⟩ := tk_cells (hBr2.tk4 (y0 := .int .i64 tk) (y1 := .string tx) (y2 := .int .i64 tn) (y3 := .int .i64 ta))
        exact bodyPost_ret (v := tkV ⟨tk, tx, tn, ta⟩) (by simp [results, Tryz.results45, go_sem, z0, z1, z2, z3]) rfl ⟨rfl, (hM.set4 hgl (Nat.le_refl _) _ _ _ _).gr (Gr.drew _)⟩
  · rw [if_pos he] at hT
    rw [hT]
    have e1 : ((burnD s).err == 0) = false := by simp [he]
    have e2 : ((burnD s).err != 0) = true := by simp [he]
    clear hT h hA hbpos he
    generalize burnD s = b0 at *
    go_enter Tryz.func45, Tryz.ntmps45
    go_wp2_with (go_at_call 71; (with_reducible refine cB.mono ?_); rintro e w1 ⟨⟨v1, rfl⟩, hm1⟩
                 obtain ⟨c0, c1, c2, c3, c4, c5, f1, f3, f4, f5⟩ := hm1.1.cells
                 have hX := MadeS.after hGA hm1
                 have hBr := hB0.x hm1.2 (by omega)
                 obtain ⟨r0, r1, r2, r3, q0, q1, q2, q3⟩ := tk_cells hBr)
    obtain ⟨z0, z1, z2, z3, -⟩ := tk_cells (hBr.tk4 (y0 := .int .i64 0) (y1 := .string ⟨#[]⟩) (y2 := .int .i64 0) (y3 := .int .i64 0))
    exact bodyPost_ret (v := tkV Tk.zero) (by simp [results, Tryz.results45, go_sem, z0, z1, z2, z3]) rfl ⟨rfl, hX.set4 hgl (Nat.le_refl _) _ _ _ _⟩
set_option maxRecDepth 100000 in
set_option maxHeartbeats 4000000 in
theorem snext_word (m : ByteArray) (hm0 : m.size ≠ 0) (h : EnvS ts L E F w g s) : Calls Tryz.prog 45 #[.pointer (some ⟨g, 0, none⟩), .int .i64 1, .string m] w fun e w' => e = .returned (tkV (takeT ts (wdB m) s).1) ∧ MadeS ts L E F w g (takeT ts (wdB m) s).2 w' := by
  have hgl := h.lt
  have hB0 := Blk.new w 82 (tkC 0 ⟨#[]⟩ 0 0)
  have hGA := Gr.alloc w (.cells (tkC 0 ⟨#[]⟩ 0 0) 82)
  have hA := h.gr hGA
  have cB := sburn_any hA
  obtain ⟨AL, cL, rfl, hcL⟩ := h.rd.form
  have hlen := h.len
  obtain ⟨m1, m2, m3, m4⟩ := str_nils hm0
  have hT : takeT ts (wdB m) s = if (burnD s).err ≠ 0 then (Tk.zero, burnD s) else match ts[s.pos]? with | none => (Tk.zero, { burnD s with err := 2 }) | some t => if (wdB m) t then (t, { burnD s with pos := s.pos + 1 }) else (Tk.zero, { burnD s with err := 2 }) := rfl
  have hbpos := burn_pos s
  by_cases he : (burnD s).err = 0
  · rw [if_neg (by omega)] at hT
    cases ht : ts[s.pos]? with
    | none =>
      rw [ht] at hT
      dsimp only at hT
      rw [hT]
      have hp : ts.length ≤ s.pos := List.getElem?_eq_none_iff.1 ht
      have hp' : (burnD s).pos = ts.length := by have := h.pos; omega
      clear hT ht h hA hp hbpos
      generalize burnD s = b0 at *
      go_enter Tryz.func45, Tryz.ntmps45
      go_wp2_with (go_at_call 71; (with_reducible refine cB.mono ?_); rintro e w1 ⟨⟨v1, rfl⟩, hm1⟩
                   obtain ⟨c0, c1, c2, c3, c4, c5, f1, f3, f4, f5⟩ := hm1.1.cells
                   rw [he] at c4
                   rw [hp'] at c1)
      go_quiet (fail)
      have hm2 := hm1.gr (Gr.drewN w1 nq)
      obtain ⟨d0, d1, d2, d3, d4, d5, e1, e3, e4, e5⟩ := hm2.1.cells
      have hBr := (hB0.x hm1.2 (by omega)).drewN nq
      obtain ⟨hE, hx⟩ := hm2.1.setE 2
      have hM : MadeS ts (.slice AL ts.length cL) E F w g { b0 with err := 2 } ((w1.drewN nq).setCell ⟨g, 4, none⟩ (.int .i64 2)) := ⟨hE, GrX.tr (GrX.of_gr hGA g) (GrX.tr hm2.2 hx)⟩
      have hBr2 := hBr.x hx (by omega)
      obtain ⟨r0, r1, r2, r3, q0, q1, q2, q3⟩ := tk_cells hBr2
      go_wp2
      obtain ⟨z0, z1, z2, z3, -⟩ := tk_cells (hBr2.tk4 (y0 := .int .i64 0) (y1 := .string ⟨#[]⟩) (y2 := .int .i64 0) (y3 := .int .i64 0))
      exact bodyPost_ret (v := tkV Tk.zero) (by simp [results, Tryz.results45, go_sem, z0, z1, z2, z3]) rfl ⟨rfl, hM.set4 hgl (Nat.le_refl _) _ _ _ _⟩
    | some t =>
      rw [ht] at hT
      dsimp only at hT
      obtain ⟨hpl, -⟩ := List.getElem?_eq_some_iff.1 ht
      have hbp : (burnD s).pos < ts.length := by omega
      have ht' : ts[(burnD s).pos]? = some t := by rw [hbpos]; exact ht
      cases hp : (wdB m) t with
      | false =>
        rw [hp, if_neg (by simp)] at hT
        rw [hT]
        clear hT ht h hA hpl hbpos
        generalize burnD s = b0 at *
        have hp1 : (b0.pos : Int) < (ts.length : Int) := by omega
        have hp2 : ¬ ts.length ≤ b0.pos := by omega
        have hp3 : decide (ts.length ≤ b0.pos) = false := decide_eq_false (by omega)
        obtain ⟨tk, tx, tn, ta⟩ := t
        have hw : (tk ≠ 1 ∧ tk ≠ 1) ∨ (tk = 1 ∧ tx ≠ m) := by
          by_cases hk : tk = 1
          · refine .inr ⟨hk, fun e => ?_⟩
            subst hk e
            simp [wdB] at hp
          · exact .inl ⟨hk, hk⟩
        clear hp
        rcases hw with ⟨hk, hk2⟩ | ⟨hk, hk2⟩
        case' inl =>
          have n1 : (tk == 1) = false := by simp [hk]
          have n2 : (tk != 1) = true := by simp [hk]
          have n3 : decide (tk = 1) = false := decide_eq_false hk
        case' inr =>
          subst hk
          obtain ⟨n1, n2, n3, n4⟩ := str_neqs hk2
        all_goals
          go_enter Tryz.func45, Tryz.ntmps45
          go_wp2_with (go_at_call 71; (with_reducible refine cB.mono ?_); rintro e w1 ⟨⟨v1, rfl⟩, hm1⟩
                       obtain ⟨c0, c1, c2, c3, c4, c5, f1, f3, f4, f5⟩ := hm1.1.cells
                       rw [he] at c4
                       obtain ⟨ad, P, hAL, eP, hP, k0, k1, k2, k3⟩ := hm1.1.rd.tok b0.pos _ ht'
                       subst hAL)
          go_quiet (fail)
          have hm2 := hm1.gr (Gr.drewN w1 nq)
          obtain ⟨d0, d1, d2, d3, d4, d5, e1, e3, e4, e5⟩ := hm2.1.cells
          have hBr := (hB0.x hm1.2 (by omega)).drewN nq
          obtain ⟨hE, hx⟩ := hm2.1.setE 2
          have hM : MadeS ts (.slice (some ad) ts.length cL) E F w g { b0 with err := 2 } ((w1.drewN nq).setCell ⟨g, 4, none⟩ (.int .i64 2)) := ⟨hE, GrX.tr (GrX.of_gr hGA g) (GrX.tr hm2.2 hx)⟩
          have hBr2 := hBr.x hx (by omega)
          obtain ⟨r0, r1, r2, r3, q0, q1, q2, q3⟩ := tk_cells hBr2
          go_wp2
          obtain ⟨z0, z1, z2, z3, -⟩ := tk_cells (hBr2.tk4 (y0 := .int .i64 0) (y1 := .string ⟨#[]⟩) (y2 := .int .i64 0) (y3 := .int .i64 0))
          exact bodyPost_ret (v := tkV Tk.zero) (by simp [results, Tryz.results45, go_sem, z0, z1, z2, z3]) rfl ⟨rfl, hM.set4 hgl (Nat.le_refl _) _ _ _ _⟩
      | true =>
        rw [hp, if_pos rfl] at hT
        rw [hT]
        have hps : s.pos = (burnD s).pos := hbpos.symm
        rw [hps]
        clear hT ht h hA hpl hbpos
        clear hps
        generalize burnD s = b0 at *
        have hp1 : (b0.pos : Int) < (ts.length : Int) := by omega
        have hp2 : ¬ ts.length ≤ b0.pos := by omega
        have hp3 : decide (ts.length ≤ b0.pos) = false := decide_eq_false (by omega)
        have hp4 : (b0.pos : Int) ≤ 601 := by omega
        have hw5 : IntKind.i64.wrap (b0.pos : Int) = (b0.pos : Int) := IntWalk.i64_in _ (by omega)
        obtain ⟨tk, tx, tn, ta⟩ := t
        obtain ⟨rfl, rfl⟩ : tk = 1 ∧ tx = m := by simpa [wdB] using hp
        clear hp
        go_enter Tryz.func45, Tryz.ntmps45
        go_wp2_with (go_at_call 71; (with_reducible refine cB.mono ?_); rintro e w1 ⟨⟨v1, rfl⟩, hm1⟩
                     obtain ⟨c0, c1, c2, c3, c4, c5, f1, f3, f4, f5⟩ := hm1.1.cells
                     rw [he] at c4
                     obtain ⟨ad, P, hAL, eP, hP, k0, k1, k2, k3⟩ := hm1.1.rd.tok b0.pos _ ht'
                     subst hAL)
        go_quiet (fail)
        have hm2 := hm1.gr (Gr.drewN w1 nq)
        obtain ⟨d0, d1, d2, d3, d4, d5, e1, e3, e4, e5⟩ := hm2.1.cells
        have hBr := (hB0.x hm1.2 (by omega)).drewN nq
        obtain ⟨hE, hx⟩ := hm2.1.setP hbp
        have hM : MadeS ts (.slice (some ad) ts.length cL) E F w g { b0 with pos := b0.pos + 1 } ((w1.drewN nq).setCell ⟨g, 1, none⟩ (.int .i64 ((b0.pos : Int) + 1))) := ⟨hE, GrX.tr (GrX.of_gr hGA g) (GrX.tr hm2.2 hx)⟩
        have hBr2 := hBr.x hx (by omega)
        obtain ⟨ad2, P2, hAL2, eP2, hP2, l0, l1, l2, l3⟩ := hE.rd.tok b0.pos _ ht'
        obtain ⟨j0, j1, j2, j3, j4, j5, -⟩ := hE.cells
        injection hAL2 with hAL2
        subst hAL2
        obtain rfl : P2 = P := eP2.symm.trans eP
        clear c0 c1 c2 c3 c4 c5 f1 f3 f4 f5 k0 k1 k2 k3
        go_wp2
        generalize hWW : (w1.drewN nq).setCell ⟨g, 1, none⟩ (.int .i64 ((b0.pos : Int) + 1)) = WW at *
        refine wp_region_tail 10 (by kernel_rfl) (by kernel_rfl) ?_
        simp only [List.take_succ_cons, List.take_zero, List.drop_succ_cons, List.drop_zero]
        repeat still_step
        refine wpStill_nil ?_
        obtain ⟨r0, r1, r2, r3, q0, q1, q2, q3⟩ := tk_cells hBr2
        go_wp2
        obtain ⟨z0, z1, z2, z3, -⟩ := tk_cells (hBr2.tk4 (y0 := .int .i64 1) (y1 := .string tx) (y2 := .int .i64 tn) (y3 := .int .i64 ta))
        exact bodyPost_ret (v := tkV ⟨1, tx, tn, ta⟩) (by simp [results, Tryz.results45, go_sem, z0, z1, z2, z3]) rfl ⟨rfl, (hM.set4 hgl (Nat.le_refl _) _ _ _ _).gr (Gr.drew _)⟩
  · rw [if_pos he] at hT
    rw [hT]
    have e1 : ((burnD s).err == 0) = false := by simp [he]
    have e2 : ((burnD s).err != 0) = true := by simp [he]
    clear hT h hA hbpos he
    generalize burnD s = b0 at *
    go_enter Tryz.func45, Tryz.ntmps45
    go_wp2_with (go_at_call 71; (with_reducible refine cB.mono ?_); rintro e w1 ⟨⟨v1, rfl⟩, hm1⟩
                 obtain ⟨c0, c1, c2, c3, c4, c5, f1, f3, f4, f5⟩ := hm1.1.cells
                 have hX := MadeS.after hGA hm1
                 have hBr := hB0.x hm1.2 (by omega)
                 obtain ⟨r0, r1, r2, r3, q0, q1, q2, q3⟩ := tk_cells hBr)
    obtain ⟨z0, z1, z2, z3, -⟩ := tk_cells (hBr.tk4 (y0 := .int .i64 0) (y1 := .string ⟨#[]⟩) (y2 := .int .i64 0) (y3 := .int .i64 0))
    exact bodyPost_ret (v := tkV Tk.zero) (by simp [results, Tryz.results45, go_sem, z0, z1, z2, z3]) rfl ⟨rfl, hX.set4 hgl (Nat.le_refl _) _ _ _ _⟩
set_option maxRecDepth 100000 in
set_option maxHeartbeats 4000000 in
theorem sis_kind (k : Int) (h : EnvS ts L E F w g s) : Calls Tryz.prog 44 #[.pointer (some ⟨g, 0, none⟩), .int .i64 k, .string ⟨#[]⟩] w fun e w' => e = .returned (.bool (isT ts (kindB k) s)) ∧ ∃ n, w' = w.drewN n := by
  obtain ⟨c0, c1, c2, c3, c4, c5, f1, f3, f4, f5⟩ := h.cells
  obtain ⟨AL, cL, rfl, hcL⟩ := h.rd.form
  have hlen := h.len
  have hT : isT ts (kindB k) s = (decide (s.err = 0) && (match ts[s.pos]? with | none => false | some t => (kindB k) t)) := rfl
  by_cases he : s.err = 0
  · rw [decide_eq_true he] at hT
    rw [he] at c4
    cases ht : ts[s.pos]? with
    | none =>
      rw [ht] at hT
      rw [hT]
      have hp : ts.length ≤ s.pos := List.getElem?_eq_none_iff.1 ht
      have hp' : s.pos = ts.length := by have := h.pos; omega
      rw [hp'] at c1
      clear hT ht h hp hp'
      go_enter Tryz.func44, Tryz.ntmps44
      go_wp2
      go_quiet (fail)
      go_wp2
      go_ret
      exact ⟨rfl, _, rfl⟩
    | some t =>
      rw [ht] at hT
      dsimp only at hT
      obtain ⟨hpl, -⟩ := List.getElem?_eq_some_iff.1 ht
      obtain ⟨ad, P, rfl, eP, hP, k0, k1, k2, k3⟩ := h.rd.tok s.pos t ht
      have hp1 : (s.pos : Int) < (ts.length : Int) := by omega
      have hp3 : decide (s.pos < ts.length) = true := decide_eq_true (by omega)
      cases hp : (kindB k) t with
      | false =>
        rw [hp] at hT
        rw [hT]
        clear hT ht h
        obtain ⟨tk, tx, tn, ta⟩ := t
        have hk : tk ≠ k := by intro e; subst e; simp [kindB] at hp
        have n1 : (tk == k) = false := by simp [hk]
        have n2 : (tk != k) = true := by simp [hk]
        have n3 : decide (tk = k) = false := decide_eq_false hk
        clear hp hk
        all_goals
          go_enter Tryz.func44, Tryz.ntmps44
          go_wp2
          go_quiet (fail)
          go_wp2
          go_ret
          exact ⟨rfl, _, rfl⟩
      | true =>
        rw [hp] at hT
        rw [hT]
        clear hT ht h
        obtain ⟨tk, tx, tn, ta⟩ := t
        obtain rfl : tk = k := by simpa [kindB] using hp
        clear hp
        go_enter Tryz.func44, Tryz.ntmps44
        go_wp2
        go_quiet (fail)
        go_wp2
        go_ret
        exact ⟨rfl, _, rfl⟩
  · rw [decide_eq_false he, Bool.false_and] at hT
    rw [hT]
    have e1 : (s.err == 0) = false := by simp [he]
    have e2 : decide (s.err = 0) = false := decide_eq_false he
    clear hT h he
    go_enter Tryz.func44, Tryz.ntmps44
    go_wp2
    go_quiet (fail)
    go_wp2
    go_ret
    exact ⟨rfl, _, rfl⟩
set_option maxRecDepth 100000 in
set_option maxHeartbeats 4000000 in
theorem sis_word (m : ByteArray) (hm0 : m.size ≠ 0) (h : EnvS ts L E F w g s) : Calls Tryz.prog 44 #[.pointer (some ⟨g, 0, none⟩), .int .i64 1, .string m] w fun e w' => e = .returned (.bool (isT ts (wdB m) s)) ∧ ∃ n, w' = w.drewN n := by
  obtain ⟨c0, c1, c2, c3, c4, c5, f1, f3, f4, f5⟩ := h.cells
  obtain ⟨AL, cL, rfl, hcL⟩ := h.rd.form
  have hlen := h.len
  obtain ⟨m1, m2, m3, m4⟩ := str_nils hm0
  have hT : isT ts (wdB m) s = (decide (s.err = 0) && (match ts[s.pos]? with | none => false | some t => (wdB m) t)) := rfl
  by_cases he : s.err = 0
  · rw [decide_eq_true he] at hT
    rw [he] at c4
    cases ht : ts[s.pos]? with
    | none =>
      rw [ht] at hT
      rw [hT]
      have hp : ts.length ≤ s.pos := List.getElem?_eq_none_iff.1 ht
      have hp' : s.pos = ts.length := by have := h.pos; omega
      rw [hp'] at c1
      clear hT ht h hp hp'
      go_enter Tryz.func44, Tryz.ntmps44
      go_wp2
      go_quiet (fail)
      go_wp2
      go_ret
      exact ⟨rfl, _, rfl⟩
    | some t =>
      rw [ht] at hT
      dsimp only at hT
      obtain ⟨hpl, -⟩ := List.getElem?_eq_some_iff.1 ht
      obtain ⟨ad, P, rfl, eP, hP, k0, k1, k2, k3⟩ := h.rd.tok s.pos t ht
      have hp1 : (s.pos : Int) < (ts.length : Int) := by omega
      have hp3 : decide (s.pos < ts.length) = true := decide_eq_true (by omega)
      cases hp : (wdB m) t with
      | false =>
        rw [hp] at hT
        rw [hT]
        clear hT ht h
        obtain ⟨tk, tx, tn, ta⟩ := t
        have hw : (tk ≠ 1 ∧ tk ≠ 1) ∨ (tk = 1 ∧ tx ≠ m) := by
          by_cases hk : tk = 1
          · refine .inr ⟨hk, fun e => ?_⟩
            subst hk e
            simp [wdB] at hp
          · exact .inl ⟨hk, hk⟩
        clear hp
        rcases hw with ⟨hk, hk2⟩ | ⟨hk, hk2⟩
        case' inl =>
          have n1 : (tk == 1) = false := by simp [hk]
          have n2 : (tk != 1) = true := by simp [hk]
          have n3 : decide (tk = 1) = false := decide_eq_false hk
        case' inr =>
          subst hk
          obtain ⟨n1, n2, n3, n4⟩ := str_neqs hk2
        all_goals
          go_enter Tryz.func44, Tryz.ntmps44
          go_wp2
          go_quiet (fail)
          go_wp2
          go_ret
          exact ⟨rfl, _, rfl⟩
      | true =>
        rw [hp] at hT
        rw [hT]
        clear hT ht h
        obtain ⟨tk, tx, tn, ta⟩ := t
        obtain ⟨rfl, rfl⟩ : tk = 1 ∧ tx = m := by simpa [wdB] using hp
        clear hp
        go_enter Tryz.func44, Tryz.ntmps44
        go_wp2
        go_quiet (fail)
        go_wp2
        go_ret
        exact ⟨rfl, _, rfl⟩
  · rw [decide_eq_false he, Bool.false_and] at hT
    rw [hT]
    have e1 : (s.err == 0) = false := by simp [he]
    have e2 : decide (s.err = 0) = false := decide_eq_false he
    clear hT h he
    go_enter Tryz.func44, Tryz.ntmps44
    go_wp2
    go_quiet (fail)
    go_wp2
    go_ret
    exact ⟨rfl, _, rfl⟩
set_option maxRecDepth 100000 in
theorem shere_any {len : Nat} (h : EnvS ts L len F w g s) : Calls Tryz.prog 28 #[.pointer (some ⟨g, 0, none⟩)] w fun e w' => e = .returned (.int .i64 (hereD ts len s)) ∧ ∃ n, w' = w.drewN n := by
  obtain ⟨A, c, rfl, hc⟩ := h.rd.form
  have hlen := h.len
  obtain ⟨c0, c1, c2, c3, c4, c5, -⟩ := h.cells
  cases ht : ts[s.pos]? with
  | none =>
    have hp : ts.length ≤ s.pos := List.getElem?_eq_none_iff.1 ht
    have hp' : s.pos = ts.length := by have := h.pos; omega
    rw [hp'] at c1
    rw [show hereD ts len s = (len : Int) by unfold hereD; rw [ht]]
    clear h ht hp hp'
    go_enter Tryz.func28, Tryz.ntmps28
    go_wp2
    go_quiet (fail)
    go_wp2
    go_ret
    exact ⟨rfl, _, rfl⟩
  | some t =>
    obtain ⟨hp, -⟩ := List.getElem?_eq_some_iff.1 ht
    have hp1 : (s.pos : Int) < (ts.length : Int) := by omega
    obtain ⟨ad, P, rfl, eP, hP, k0, k1, k2, k3⟩ := h.rd.tok s.pos t ht
    rw [show hereD ts len s = t.at_ by unfold hereD; rw [ht]]
    clear h ht
    go_enter Tryz.func28, Tryz.ntmps28
    go_wp2
    go_quiet (fail)
    go_wp2
    go_quiet (fail)
    go_wp2
    go_ret
    exact ⟨rfl, _, World.drewN_drewN _ _ _⟩
end
end Go.Proofs.YtogpmihepfnoaaaGreatDoor

namespace Go.Proofs.YtogpmihepfnoaaaGreatDoor
open Go Go.RowKit Go.Sort

/-- What a method that reads a condition makes. -/
def PXS (ts : List Tk) (L : Value) (E F : Int) (w : World) (g : Nat) (o : Ex × Pst) (e : Ending) (w' : World) : Prop :=
  ∃ (o_ d_ : Int) (m_ : ByteArray) (A_ : Option Addr) (n_ c_ : Nat) (x : Ex), e = .returned (.agg (exC o_ d_ m_ A_ n_ c_)) ∧ RdEx w' (fun b => w.heap.size ≤ b ∧ b < w'.heap.size) x (.agg (exC o_ d_ m_ A_ n_ c_)) ∧ (o.2.err = 0 → x = o.1) ∧ MadeS ts L E F w g o.2 w'
section
variable {ts : List Tk} {L : Value} {E F : Int} {w w' : World} {g : Nat} {s : Pst}
theorem PXS.fin {W : World} {o : Ex × Pst} {o_ d_ : Int} {m_ : ByteArray} {A_ : Option Addr} {n_ c_ : Nat} {x : Ex} (hgl : g < w.heap.size) (hr : RdEx W (fun b => w.heap.size + 1 ≤ b ∧ b < W.heap.size) x (.agg (exC o_ d_ m_ A_ n_ c_))) (he : o.2.err = 0 → x = o.1) (hm : MadeS ts L E F w g o.2 W) :
    PXS ts L E F w g o (.returned (.agg (exC o_ d_ m_ A_ n_ c_))) (set4w W w.heap.size (.int .i64 o_) (.int .i64 d_) (.string m_) (.slice A_ n_ c_)) :=
  ⟨_, _, _, _, _, _, _, rfl, hr.set4 rfl _ _ _ _, he, hm.set4 hgl (Nat.le_refl _) _ _ _ _⟩
end
/-! A condition is read and appended to a list in a struct: one region of open order. w: the world at the function's beginning; r: where its result lies; b5: the struct. -/
/-- What holds at the region's beginning. -/
def ApI (ts : List Tk) (L : Value) (E F : Int) (w : World) (g r b5 : Nat) (op : Int) (A : Option Addr) (c : Nat) (ks : List Ex) (cs : List Value) (s : Pst) (n : Nat) (W : World) : Prop :=
  match n with
  | 0 => Blk W b5 45 (exC op 0 ⟨#[]⟩ A ks.length c)
  | 1 => MadeS ts L E F w g s W
  | 2 => XsOwn (b5 + 1) W (.slice A ks.length c) ks cs ∧ b5 + 1 ≤ W.heap.size
  | 3 => Blk W r 45 exZ
  | _ => True
theorem ApI.gr {ts : List Tk} {L : Value} {E F : Int} {w : World} {g r b5 : Nat} {op : Int} {A : Option Addr} {c : Nat} {ks : List Ex} {cs : List Value} {s : Pst} (n : Nat) (W W' : World) (h : ApI ts L E F w g r b5 op A c ks cs s n W) (hg : Gr W W') : ApI ts L E F w g r b5 op A c ks cs s n W' := by
  match n, h with
  | 0, h => exact Blk.below h hg h.lt
  | 1, h => exact MadeS.gr h hg
  | 2, h => exact ⟨h.1.gr hg, Nat.le_trans h.2 hg.size⟩
  | 3, h => exact Blk.below h hg h.lt
  | n + 4, _ => trivial
/-- What the reading hands back. -/
def Ap4 (ts : List Tk) (L : Value) (E F : Int) (w : World) (g b5 : Nat) (A : Option Addr) (ks : List Ex) (c : Nat) (x2 : Ex) (s3 : Pst) (v4 : Value) (W : World) : Prop :=
  ∃ (o_ d_ : Int) (m_ : ByteArray) (A_ : Option Addr) (n_ c_ : Nat) (x : Ex), v4 = .agg (exC o_ d_ m_ A_ n_ c_) ∧ RdEx W (fun b => b5 + 1 ≤ b ∧ b < W.heap.size ∧ (Value.slice A ks.length c).ownBlock ≠ some b) x (.agg (exC o_ d_ m_ A_ n_ c_)) ∧ (s3.err = 0 → x = x2) ∧ MadeS ts L E F w g s3 W
def Ap5 (ts : List Tk) (L : Value) (E F : Int) (w : World) (g b5 : Nat) (A : Option Addr) (ks : List Ex) (c : Nat) (x2 : Ex) (s3 : Pst) (v5 : Value) (W : World) : Prop :=
  ∃ (o_ d_ : Int) (m_ : ByteArray) (A_ : Option Addr) (n_ c_ : Nat) (x : Ex) (gb : Nat), v5 = .slice (some ⟨gb, 0, none⟩) 1 1 ∧ Blk W gb 45 (exC o_ d_ m_ A_ n_ c_) ∧ RdEx W (fun b => b5 + 1 ≤ b ∧ b < W.heap.size ∧ (Value.slice A ks.length c).ownBlock ≠ some b) x (.agg (exC o_ d_ m_ A_ n_ c_)) ∧ (s3.err = 0 → x = x2) ∧ MadeS ts L E F w g s3 W
/-- What is there behind the region, but for the struct. -/
def Ap6 (ts : List Tk) (L : Value) (E F : Int) (w : World) (g r b5 : Nat) (op : Int) (A : Option Addr) (ks : List Ex) (c : Nat) (x2 : Ex) (s3 : Pst) (v6 : Value) (W : World) : Prop :=
  ∃ (x : Ex) (A' : Option Addr) (c' : Nat) (cs' : List Value), v6 = .slice A' (ks.length + 1) c' ∧ XsOwn (b5 + 1) W (.slice A' (ks.length + 1) c') (ks ++ [x]) cs' ∧ (s3.err = 0 → x = x2) ∧ MadeS ts L E F w g s3 W ∧ Blk W r 45 exZ ∧ Blk W b5 45 (exC op 0 ⟨#[]⟩ A ks.length c)
def Ap8 (ts : List Tk) (L : Value) (E F : Int) (w : World) (g r b5 : Nat) (op : Int) (ks : List Ex) (x2 : Ex) (s3 : Pst) (W : World) : Prop :=
  ∃ (x : Ex) (A' : Option Addr) (c' : Nat) (cs' : List Value), XsOwn (b5 + 1) W (.slice A' (ks.length + 1) c') (ks ++ [x]) cs' ∧ (s3.err = 0 → x = x2) ∧ MadeS ts L E F w g s3 W ∧ Blk W r 45 exZ ∧ Blk W b5 45 (exC op 0 ⟨#[]⟩ A' (ks.length + 1) c')
section
variable {ts : List Tk} {L : Value} {E F : Int} {w : World} {g r b5 : Nat} {op : Int} {A : Option Addr} {c : Nat} {ks : List Ex} {x2 : Ex} {s3 : Pst} {v : Value} {W W' : World}
theorem rdx_own_gr {base : Nat} {u : Value} {x : Ex} {v : Value} (h : RdEx W (fun b => base ≤ b ∧ b < W.heap.size ∧ u.ownBlock ≠ some b) x v) (hg : Gr W W') : RdEx W' (fun b => base ≤ b ∧ b < W'.heap.size ∧ u.ownBlock ≠ some b) x v :=
  RdEx.mono (fun _ hb => ⟨hb.1, Nat.lt_of_lt_of_le hb.2.1 hg.size, hb.2.2⟩) _ _ (RdEx.keep (fun _ hp => hg.cell hp.2.1) _ _ h)
theorem Ap4.gr (h : Ap4 ts L E F w g b5 A ks c x2 s3 v W) (hg : Gr W W') : Ap4 ts L E F w g b5 A ks c x2 s3 v W' := by
  obtain ⟨o_, d_, m_, A_, n_, c_, x, h1, h2, h3, h4⟩ := h
  exact ⟨o_, d_, m_, A_, n_, c_, x, h1, rdx_own_gr h2 hg, h3, h4.gr hg⟩
theorem Ap5.gr (h : Ap5 ts L E F w g b5 A ks c x2 s3 v W) (hg : Gr W W') : Ap5 ts L E F w g b5 A ks c x2 s3 v W' := by
  obtain ⟨o_, d_, m_, A_, n_, c_, x, gb, h1, hb, h2, h3, h4⟩ := h
  exact ⟨o_, d_, m_, A_, n_, c_, x, gb, h1, hb.below hg hb.lt, rdx_own_gr h2 hg, h3, h4.gr hg⟩
theorem Ap6.gr (h : Ap6 ts L E F w g r b5 op A ks c x2 s3 v W) (hg : Gr W W') : Ap6 ts L E F w g r b5 op A ks c x2 s3 v W' := by
  obtain ⟨x, A', c', cs', h1, h2, h3, h4, h5, h6⟩ := h
  exact ⟨x, A', c', cs', h1, h2.gr hg, h3, h4.gr hg, h5.below hg h5.lt, h6.below hg h6.lt⟩
theorem Ap8.gr (h : Ap8 ts L E F w g r b5 op ks x2 s3 W) (hg : Gr W W') : Ap8 ts L E F w g r b5 op ks x2 s3 W' := by
  obtain ⟨x, A', c', cs', h2, h3, h4, h5, h6⟩ := h
  exact ⟨x, A', c', cs', h2.gr hg, h3, h4.gr hg, h5.below hg h5.lt, h6.below hg h6.lt⟩
theorem Gr.ofMadeS {s : Pst} (h : MadeS ts L E F W g s W') : Below 0 W W' := ⟨h.2.os, h.2.tape, h.2.output, h.2.size, fun _ hk => absurd hk (by omega)⟩
theorem below0_set (W : World) (p : Addr) (v : Value) : Below 0 W (W.setCell p v) := Below.setCell (Below.refl 0 W) (Nat.zero_le _) v
theorem XsOwn.far {base : Nat} {l : List Ex} {cs : List Value} (h : XsOwn base W v l cs) {p : Addr} (hp : p.block < base) (u : Value) : XsOwn base (W.setCell p u) v l cs := by
  have hx : GrX W (W.setCell p u) p.block := ⟨rfl, rfl, rfl, by simp [World.setCell], fun k _ hk => Below.heap_setCell W p u k (by intro e; exact hk (by rw [e]))⟩
  exact h.x hx hp
/-- Several conditions stand in a struct. -/
def SevS (ts : List Tk) (L : Value) (E F : Int) (one : Pst → Ex × Pst) (m : ByteArray) (op : Int) (R : List Ex × Pst) (w : World) (g r b5 : Nat) (wr : World) : Prop :=
  ∃ (ks ks' : List Ex) (cs : List Value) (s : Pst) (n : Nat) (A : Option Addr) (c : Nat), XsOwn (b5 + 1) wr (.slice A ks'.length c) ks' cs ∧ ks'.length = ks.length ∧ (s.err = 0 → ks' = ks) ∧ MadeS ts L E F w g s wr ∧ Blk wr r 45 exZ ∧ Blk wr b5 45 (exC op 0 ⟨#[]⟩ A ks'.length c) ∧
    R = sevL ts one m n ks s ∧ (s.err = 0 → ts.length < s.pos + n) ∧ 1 ≤ ks.length ∧ ks.length + n ≤ ts.length + 2
/-- How many there are. -/
def slAt (w : World) (p : Addr) : Nat := match w.cell? p with | some (.slice _ n _) => n | _ => 0
end
set_option maxRecDepth 100000 in
set_option maxHeartbeats 8000000 in
theorem sterm_any {ts : List Tk} {L : Value} {E F : Int} {w : World} {g : Nat} {s : Pst} (d : Int) (one : Pst → Ex × Pst) (h1 : ∀ s, Goes s (one s).2) (cOne : ∀ (W : World) (s : Pst), EnvS ts L E F W g s → Calls Tryz.prog 85 #[.pointer (some ⟨g, 0, none⟩), .int .i64 d] W (PXS ts L E F W g (one s))) (h : EnvS ts L E F w g s) :
    Calls Tryz.prog 72 #[.pointer (some ⟨g, 0, none⟩), .int .i64 d] w (PXS ts L E F w g (sevD ts one 3 wAnd s)) := by
  have hgl := h.lt
  have hlen := h.len
  obtain ⟨W0, hW0⟩ : ∃ W0, (w.alloc (.cells exZ 45)).alloc (.cells (exC 3 0 ⟨#[]⟩ none 0 0) 45) = W0 := ⟨_, rfl⟩
  have hG0 : Gr w W0 := by rw [← hW0]; exact Gr.trans (Gr.alloc _ _) (Gr.alloc _ _)
  have hs0 : W0.heap.size = w.heap.size + 2 := by rw [← hW0]; simp
  have hBr : Blk W0 w.heap.size 45 exZ := by rw [← hW0]; exact (Blk.new w _ _).alloc _
  have hB5 : Blk W0 (w.heap.size + 1) 45 (exC 3 0 ⟨#[]⟩ none 0 0) := by
    rw [← hW0]
    have := Blk.new (w.alloc (.cells exZ 45)) 45 (exC 3 0 ⟨#[]⟩ none 0 0)
    rwa [show (w.alloc (.cells exZ 45)).heap.size = w.heap.size + 1 by simp] at this
  have hE0 := h.gr hG0
  have hAI : ∀ n, ApI ts L E F w g (w.heap.size) (w.heap.size + 1) 3 none 0 [] [] s n W0.drew := fun n => by
    match n with
    | 0 => exact hB5.drew
    | 1 => exact ⟨hE0.gr (Gr.drew _), GrX.of_gr (Gr.trans hG0 (Gr.drew _)) g⟩
    | 2 => exact ⟨XsOwn.nil _ _, by show w.heap.size + 1 + 1 ≤ W0.heap.size; omega⟩
    | 3 => exact hBr.drew
    | n + 4 => trivial
  have HOne := Lib.hid cOne
  have H1 := Lib.hid h1
  have HAI := Lib.hid hAI
  have HW0 := Lib.hid hW0
  have hkb : ([] : List Ex).length ≤ 100000 := by simp
  have HF := Lib.hid (fun W o_ d_ m_ A_ n_ c_ x hr he hm => @PXS.fin ts L E F w g W (sevD ts one 3 wAnd s) o_ d_ m_ A_ n_ c_ x hgl hr he hm)
  have hR : (sevL ts one wAnd (ts.length + 1) [(one s).1] (one s).2).2 = (sevD ts one 3 wAnd s).2 := rfl
  have hR1 : aloneD 3 (sevL ts one wAnd (ts.length + 1) [(one s).1] (one s).2).1 = (sevD ts one 3 wAnd s).1 := rfl
  rw [← hR1, ← hR] at HF
  generalize hRR : sevL ts one wAnd (ts.length + 1) [(one s).1] (one s).2 = R at *
  have HRR := Lib.hid hRR
  generalize hPost : PXS ts L E F w g (sevD ts one 3 wAnd s) = Post at *
  clear hW0 cOne h1 hAI h hE0 hRR hPost hR hR1
  go_enter Tryz.func72, Tryz.ntmps72
  go_wp2
  rw [HW0.out]
  refine wp_region_factsV [.at_ 0 (.is (.pointer (some ⟨w.heap.size + 1, 3, none⟩))), .at_ 1 (.is (.slice none ([] : List Ex).length 0)), .at_ 2 (.is (.pointer (some ⟨g, 0, none⟩))), .at_ 3 (.is (.int .i64 d)),
      .at_ 4 ⟨Ap4 ts L E F w g (w.heap.size + 1) none ([] : List Ex) 0 (one s).1 (one s).2, fun _ _ _ h hg => h.gr hg⟩, .at_ 5 ⟨Ap5 ts L E F w g (w.heap.size + 1) none ([] : List Ex) 0 (one s).1 (one s).2, fun _ _ _ h hg => h.gr hg⟩,
      .at_ 6 ⟨Ap6 ts L E F w g (w.heap.size) (w.heap.size + 1) 3 none ([] : List Ex) 0 (one s).1 (one s).2, fun _ _ _ h hg => h.gr hg⟩, .at_ 7 (.is (.pointer (some ⟨w.heap.size + 1, 3, none⟩))),
      .at_ 8 ⟨fun _ => Ap8 ts L E F w g (w.heap.size) (w.heap.size + 1) 3 ([] : List Ex) (one s).1 (one s).2, fun _ _ _ h hg => h.gr hg⟩]
      (ApI ts L E F w g (w.heap.size) (w.heap.size + 1) 3 none 0 ([] : List Ex) ([] : List Value) s) (fun i j => (i == 6 && (j == 4 || j == 5)) || (i == 8 && (j == 4 || j == 5 || j == 6))) (fun i n => (i == 8 && n == 0) || (i == 4 && n == 1) || (i == 6 && n == 2)) 0 (by kernel_rfl) rfl (by kernel_rfl) (by kernel_rfl) (by kernel_rfl) (Nat.zero_le _)
      (fun n => HAI.out n) (fun vals => by simp [fillA, dstsOf, go_sem]; rfl) ?_ ?_
  · intro i hi
    replace hi : i < 9 := hi
    have hI := @ApI.gr ts L E F w g (w.heap.size) (w.heap.size + 1) 3 none 0 ([] : List Ex) ([] : List Value) s
    rcases (by omega : i = 0 ∨ i = 1 ∨ i = 2 ∨ i = 3 ∨ i = 4 ∨ i = 5 ∨ i = 6 ∨ i = 7 ∨ i = 8) with rfl | rfl | rfl | rfl | rfl | rfl | rfl | rfl | rfl
    · refine step_gV 0 [] _ _ rfl rfl hI (by kernel_rfl) fun vals W hb hB hIw hd => ?_
      go_wp2
      exact ⟨rfl, _, rfl, Gr.refl _, rfl⟩
    · refine step_gV 1 [0] _ _ rfl rfl hI (by kernel_rfl) fun vals W hb hB hIw hd => ?_
      have h0 : vals 0 = _ := hd 0 (by simp) _ rfl
      rw [h0]
      have hc : W.cell? ⟨w.heap.size + 1, 3, none⟩ = some (.slice none ([] : List Ex).length 0) := Blk.cell (hIw 0 (by kernel_rfl) : Blk W (w.heap.size + 1) _ _) 3
      clear hIw
      go_wp2
      exact ⟨rfl, _, rfl, Gr.refl _, rfl⟩
    · refine step_gV 2 [] _ _ rfl rfl hI (by kernel_rfl) fun vals W hb hB hIw hd => ?_
      go_wp2
      exact ⟨rfl, _, rfl, Gr.refl _, rfl⟩
    · refine step_gV 3 [] _ _ rfl rfl hI (by kernel_rfl) fun vals W hb hB hIw hd => ?_
      go_wp2
      exact ⟨rfl, _, rfl, Gr.refl _, rfl⟩
    · refine step_sV 4 [2, 3] [0, 1, 2, 3, 7] _ _ rfl rfl (by kernel_rfl) (by kernel_rfl) fun vals W hb hB hIw hd => ?_
      have h2 : vals 2 = _ := hd 2 (by simp) _ rfl
      have h3 : vals 3 = _ := hd 3 (by simp) _ rfl
      rw [h2, h3]
      have hM : MadeS ts L E F w g s W := hIw 1 (by kernel_rfl)
      have hW2 := Lib.hid (hIw 2 (by kernel_rfl) : XsOwn (w.heap.size + 1 + 1) W (.slice none ([] : List Ex).length 0) ([] : List Ex) ([] : List Value) ∧ w.heap.size + 1 + 1 ≤ W.heap.size)
      have cF := HOne.out W s hM.1
      unfold PXS at cF
      clear hIw hd
      go_wp2_with (go_at_call 85; (with_reducible refine cF.mono ?_); rintro e w4 ⟨o_, d_, m_, A_, n_, c_, x, rfl, hr4, he4, hm4⟩)
      refine ⟨rfl, _, rfl, Gr.ofMadeS hm4, ⟨o_, d_, m_, A_, n_, c_, x, rfl, RdEx.mono (fun b hb => ⟨Nat.le_trans hW2.out.2 hb.1, hb.2, own_lt_ hW2.out.1.row b hb.1⟩) _ _ hr4, he4, hM.tr hm4⟩, fun n hn hI => ?_, fun j hj => ?_⟩
      · match n, hn, hI with
        | 0, _, hI => exact Blk.x hI hm4.2 (by omega)
        | 1, hn, _ => exact absurd hn (by decide)
        | 2, _, hI => exact ⟨hI.1.x hm4.2 (by omega), Nat.le_trans hI.2 hm4.2.size⟩
        | 3, _, hI => exact Blk.x hI hm4.2 (by omega)
        | n + 4, _, _ => trivial
      · simp only [List.mem_cons, List.not_mem_nil, or_false] at hj
        rcases hj with rfl | rfl | rfl | rfl | rfl
        all_goals
          intro g' hg' hp
          obtain rfl := Option.some.inj hg'
          exact hp
    · refine step_gV 5 [4] _ _ rfl rfl hI (by kernel_rfl) fun vals W hb hB hIw hd => ?_
      obtain ⟨o_, d_, m_, A_, n_, c_, x, h4, hr4, he4, hm4⟩ := (show Ap4 ts L E F w g (w.heap.size + 1) none ([] : List Ex) 0 (one s).1 (one s).2 (vals 4) W from hd 4 (by simp) _ rfl)
      rw [h4]
      clear hIw hd
      have hG5 := Gr.alloc W (.cells (exC o_ d_ m_ A_ n_ c_) 45)
      go_wp2
      exact ⟨rfl, _, rfl, hG5, o_, d_, m_, A_, n_, c_, x, W.heap.size, rfl, Blk.new W _ _, rdx_own_gr hr4 hG5, he4, hm4.gr hG5⟩
    · refine step_sV 6 [1, 5] [0, 1, 2, 3, 7] _ _ rfl rfl (by kernel_rfl) (by kernel_rfl) fun vals W hb hB hIw hd => ?_
      have h1 : vals 1 = _ := hd 1 (by simp) _ rfl
      obtain ⟨o_, d_, m_, A_, n_, c_, x, gb, h5, hBg, hr5, he5, hm5⟩ := (show Ap5 ts L E F w g (w.heap.size + 1) none ([] : List Ex) 0 (one s).1 (one s).2 (vals 5) W from hd 5 (by simp) _ rfl)
      rw [h1, h5]
      have hB0 : Blk W (w.heap.size + 1) 45 (exC 3 0 ⟨#[]⟩ none ([] : List Ex).length 0) := hIw 0 (by kernel_rfl)
      obtain ⟨hX, hbs⟩ := (hIw 2 (by kernel_rfl) : XsOwn (w.heap.size + 1 + 1) W (.slice none ([] : List Ex).length 0) ([] : List Ex) ([] : List Value) ∧ w.heap.size + 1 + 1 ≤ W.heap.size)
      have hB3 : Blk W (w.heap.size) 45 exZ := hIw 3 (by kernel_rfl)
      clear hIw hd
      refine wpList_appendX W rfl (.tmp 8) (.tmp 12) rfl (w.heap.size + 1 + 1) _ ([] : List Ex) ([] : List Value) rfl hX x o_ d_ m_ A_ n_ c_ gb rfl hBg hr5 hkb hbs fun v6 w6 hX6 hb6 => ?_
      obtain ⟨A6, c6, hv6⟩ := hX6.vform
      rw [List.length_append, List.length_singleton] at hv6
      subst hv6
      unfold wpList
      refine ⟨rfl, _, rfl, hb6.mono (Nat.zero_le _), ⟨x, A6, c6, _, rfl, hX6, he5, hm5.below hgl (by omega) hb6, hB3.below hb6 (by omega), hB0.below hb6 (by omega)⟩, fun n hn hI => ?_, fun j hj => ?_⟩
      · match n, hn, hI with
        | 0, _, hI => exact Blk.below hI hb6 (by omega)
        | 1, _, hI => exact MadeS.below hI hgl (by omega) hb6
        | 2, hn, _ => exact absurd hn (by decide)
        | 3, _, hI => exact Blk.below hI hb6 (by omega)
        | n + 4, _, _ => trivial
      · simp only [List.mem_cons, List.not_mem_nil, or_false] at hj
        rcases hj with rfl | rfl | rfl | rfl | rfl
        all_goals
          intro g' hg' hp
          obtain rfl := Option.some.inj hg'
          exact hp
    · refine step_gV 7 [] _ _ rfl rfl hI (by kernel_rfl) fun vals W hb hB hIw hd => ?_
      go_wp2
      exact ⟨rfl, _, rfl, Gr.refl _, rfl⟩
    · refine step_sV 8 [6, 7] [0, 1, 2, 3, 7] _ _ rfl rfl (by kernel_rfl) (by kernel_rfl) fun vals W hb hB hIw hd => ?_
      obtain ⟨x, A6, c6, cs6, h6, hX6, he6, hm6, hB3, hB0⟩ := (show Ap6 ts L E F w g (w.heap.size) (w.heap.size + 1) 3 none ([] : List Ex) 0 (one s).1 (one s).2 (vals 6) W from hd 6 (by simp) _ rfl)
      have h7 : vals 7 = _ := hd 7 (by simp) _ rfl
      rw [h6, h7]
      clear hIw hd
      obtain ⟨y0, y1, y2, y3, t0, t1, t2, t3⟩ := tk_cells hB0
      go_wp2
      have hS := hB0.set_ 3 (.slice A6 (([] : List Ex).length + 1) c6)
      refine ⟨rfl, .nilIface, rfl, below0_set _ _ _, ⟨x, A6, c6, cs6, hX6.far (by show w.heap.size + 1 < w.heap.size + 1 + 1; omega) _, he6, hm6.far hgl (by show w.heap.size ≤ w.heap.size + 1; omega) _, hB3.far (by show w.heap.size ≠ w.heap.size + 1; omega) _, by simpa using hS⟩, fun n hn hI => ?_, fun j hj => ?_⟩
      · match n, hn, hI with
        | 0, hn, _ => exact absurd hn (by decide)
        | 1, _, hI => exact MadeS.far hI hgl (by show w.heap.size ≤ w.heap.size + 1; omega) _
        | 2, _, hI => exact ⟨hI.1.far (by show w.heap.size + 1 < w.heap.size + 1 + 1; omega) _, by simpa [World.setCell] using hI.2⟩
        | 3, _, hI => exact Blk.far hI (by show w.heap.size ≠ w.heap.size + 1; omega) _
        | n + 4, _, _ => trivial
      · simp only [List.mem_cons, List.not_mem_nil, or_false] at hj
        rcases hj with rfl | rfl | rfl | rfl | rfl
        all_goals
          intro g' hg' hp
          obtain rfl := Option.some.inj hg'
          exact hp
  intro vals W hb hf
  obtain ⟨x, A6, c6, cs6, hX6, he6, hm6, hB36, hB06⟩ := (show Ap8 ts L E F w g (w.heap.size) (w.heap.size + 1) 3 ([] : List Ex) (one s).1 (one s).2 W from hf 8 _ rfl (fun k hk => by simp))
  have hst : SevS ts L E F one wAnd 3 R w g (w.heap.size) (w.heap.size + 1) W := ⟨[(one s).1], [x], cs6, (one s).2, ts.length + 1, A6, c6, hX6, rfl, fun h0 => by rw [he6 h0], hm6, hB36, hB06, HRR.out.symm, fun _ => by omega, Nat.le_refl _, by simp; omega⟩
  clear hX6 he6 hm6 hB36 hB06 hf hb hBr hB5 hs0 hG0
  go_wp2
  go_loopw [15] (fun _ wr => SevS ts L E F one wAnd 3 R w g (w.heap.size) (w.heap.size + 1) wr) (fun _ wr => 700 - slAt wr ⟨w.heap.size + 1, 3, none⟩)
  case atStart => exact hst
  case round =>
    clear hst
    obtain ⟨ks, ks', cs, s, n, A, c, hX, hkl, hke, hm, hBr, hB5, hRe, hn, hk1, hkn⟩ := hrel
    have cA := sis_word wAnd (by decide) hm.1
    cases hT : isT ts (wdB wAnd) s with
    | true =>
      rw [hT] at cA
      have cW := fun W (hE : EnvS ts L E F W g s) => snext_word wAnd (by decide) hE
      obtain ⟨n', rfl, hst2, hn2⟩ := sevL_step (ks := ks) H1.out hT hn
      rw [hst2] at hRe
      have HOK := Lib.hid (fun h0 => (take_goes ts (wdB wAnd) s).ok ((H1.out _).ok h0) : (one (takeT ts (wdB wAnd) s).2).2.err = 0 → s.err = 0)
      generalize takeT ts (wdB wAnd) s = o2 at *
      obtain ⟨⟨tk2, tx2, tn2, ta2⟩, s2⟩ := o2
      dsimp only [tkV] at cW hRe hn2 HOK
      have hkb : ks'.length ≤ 100000 := by omega
      have hkm : ks'.length < 700 := by omega
      have HRe := Lib.hid hRe
      have HKE := Lib.hid hke
      have HN := Lib.hid hn2
      have HKL := Lib.hid hkl
      clear hRe hke hn2 hn hst2 hT hkl
      go_wp2_with (first
        | (go_at_call 44; (with_reducible refine cA.mono ?_); rintro e w2 ⟨rfl, nq, rfl⟩)
        | (go_at_call 45; (with_reducible refine (cW _ (hm.1.gr (Gr.drewN _ _))).mono ?_); rintro e w3 ⟨rfl, hm3⟩))
      have hGq := Gr.drewN wr nq
      have hAI2 : ∀ n, ApI ts L E F w g (w.heap.size) (w.heap.size + 1) 3 A c ks' cs s2 n w3.drew := fun n => by
        match n with
        | 0 => exact ((hB5.drewN nq).x hm3.2 (by omega)).drew
        | 1 => exact ((hm.gr hGq).tr hm3).gr (Gr.drew _)
        | 2 => exact ⟨((hX.gr hGq).x hm3.2 (by omega)).gr (Gr.drew _), by have h1 := hB5.lt; have h2 := hm3.2.size; show w.heap.size + 1 + 1 ≤ w3.heap.size; exact Nat.le_trans h1 h2⟩
        | 3 => exact ((hBr.drewN nq).x hm3.2 (by omega)).drew
        | n + 4 => trivial
      have HAI2 := Lib.hid hAI2
      have hB5c := hB5.cell 3
      have HS0 := Lib.hid (show slAt wr ⟨w.heap.size + 1, 3, none⟩ = ks'.length by unfold slAt; rw [hB5c]; rfl)
      clear hAI2 hB5c hX hBr hB5 hm cA cW hm3
      refine wp_region_factsV [.at_ 0 (.is (.pointer (some ⟨w.heap.size + 1, 3, none⟩))), .at_ 1 (.is (.slice A ks'.length c)), .at_ 2 (.is (.pointer (some ⟨g, 0, none⟩))), .at_ 3 (.is (.int .i64 d)),
          .at_ 4 ⟨Ap4 ts L E F w g (w.heap.size + 1) A ks' c (one s2).1 (one s2).2, fun _ _ _ h hg => h.gr hg⟩, .at_ 5 ⟨Ap5 ts L E F w g (w.heap.size + 1) A ks' c (one s2).1 (one s2).2, fun _ _ _ h hg => h.gr hg⟩,
          .at_ 6 ⟨Ap6 ts L E F w g (w.heap.size) (w.heap.size + 1) 3 A ks' c (one s2).1 (one s2).2, fun _ _ _ h hg => h.gr hg⟩, .at_ 7 (.is (.pointer (some ⟨w.heap.size + 1, 3, none⟩))),
          .at_ 8 ⟨fun _ => Ap8 ts L E F w g (w.heap.size) (w.heap.size + 1) 3 ks' (one s2).1 (one s2).2, fun _ _ _ h hg => h.gr hg⟩]
          (ApI ts L E F w g (w.heap.size) (w.heap.size + 1) 3 A c ks' cs s2) (fun i j => (i == 6 && (j == 4 || j == 5)) || (i == 8 && (j == 4 || j == 5 || j == 6))) (fun i n => (i == 8 && n == 0) || (i == 4 && n == 1) || (i == 6 && n == 2)) 0 (by kernel_rfl) rfl (by kernel_rfl) (by kernel_rfl) (by kernel_rfl) (Nat.zero_le _)
          (fun n => HAI2.out n) (fun vals => by simp [fillA, dstsOf, go_sem]; rfl) ?_ ?_
      · intro i hi
        replace hi : i < 9 := hi
        have hI := @ApI.gr ts L E F w g (w.heap.size) (w.heap.size + 1) 3 A c ks' cs s2
        rcases (by omega : i = 0 ∨ i = 1 ∨ i = 2 ∨ i = 3 ∨ i = 4 ∨ i = 5 ∨ i = 6 ∨ i = 7 ∨ i = 8) with rfl | rfl | rfl | rfl | rfl | rfl | rfl | rfl | rfl
        · refine step_gV 0 [] _ _ rfl rfl hI (by kernel_rfl) fun vals W hb hB hIw hd => ?_
          go_wp2
          exact ⟨rfl, _, rfl, Gr.refl _, rfl⟩
        · refine step_gV 1 [0] _ _ rfl rfl hI (by kernel_rfl) fun vals W hb hB hIw hd => ?_
          have h0 : vals 0 = _ := hd 0 (by simp) _ rfl
          rw [h0]
          have hc : W.cell? ⟨w.heap.size + 1, 3, none⟩ = some (.slice A ks'.length c) := Blk.cell (hIw 0 (by kernel_rfl) : Blk W (w.heap.size + 1) _ _) 3
          clear hIw
          go_wp2
          exact ⟨rfl, _, rfl, Gr.refl _, rfl⟩
        · refine step_gV 2 [] _ _ rfl rfl hI (by kernel_rfl) fun vals W hb hB hIw hd => ?_
          go_wp2
          exact ⟨rfl, _, rfl, Gr.refl _, rfl⟩
        · refine step_gV 3 [] _ _ rfl rfl hI (by kernel_rfl) fun vals W hb hB hIw hd => ?_
          go_wp2
          exact ⟨rfl, _, rfl, Gr.refl _, rfl⟩
        · refine step_sV 4 [2, 3] [0, 1, 2, 3, 7] _ _ rfl rfl (by kernel_rfl) (by kernel_rfl) fun vals W hb hB hIw hd => ?_
          have h2 : vals 2 = _ := hd 2 (by simp) _ rfl
          have h3 : vals 3 = _ := hd 3 (by simp) _ rfl
          rw [h2, h3]
          have hM : MadeS ts L E F w g s2 W := hIw 1 (by kernel_rfl)
          have hW2 := Lib.hid (hIw 2 (by kernel_rfl) : XsOwn (w.heap.size + 1 + 1) W (.slice A ks'.length c) ks' cs ∧ w.heap.size + 1 + 1 ≤ W.heap.size)
          have cF := HOne.out W s2 hM.1
          unfold PXS at cF
          clear hIw hd
          go_wp2_with (go_at_call 85; (with_reducible refine cF.mono ?_); rintro e w4 ⟨o_, d_, m_, A_, n_, c_, x, rfl, hr4, he4, hm4⟩)
          refine ⟨rfl, _, rfl, Gr.ofMadeS hm4, ⟨o_, d_, m_, A_, n_, c_, x, rfl, RdEx.mono (fun b hb => ⟨Nat.le_trans hW2.out.2 hb.1, hb.2, own_lt_ hW2.out.1.row b hb.1⟩) _ _ hr4, he4, hM.tr hm4⟩, fun n hn hI => ?_, fun j hj => ?_⟩
          · match n, hn, hI with
            | 0, _, hI => exact Blk.x hI hm4.2 (by omega)
            | 1, hn, _ => exact absurd hn (by decide)
            | 2, _, hI => exact ⟨hI.1.x hm4.2 (by omega), Nat.le_trans hI.2 hm4.2.size⟩
            | 3, _, hI => exact Blk.x hI hm4.2 (by omega)
            | n + 4, _, _ => trivial
          · simp only [List.mem_cons, List.not_mem_nil, or_false] at hj
            rcases hj with rfl | rfl | rfl | rfl | rfl
            all_goals
              intro g' hg' hp
              obtain rfl := Option.some.inj hg'
              exact hp
        · refine step_gV 5 [4] _ _ rfl rfl hI (by kernel_rfl) fun vals W hb hB hIw hd => ?_
          obtain ⟨o_, d_, m_, A_, n_, c_, x, h4, hr4, he4, hm4⟩ := (show Ap4 ts L E F w g (w.heap.size + 1) A ks' c (one s2).1 (one s2).2 (vals 4) W from hd 4 (by simp) _ rfl)
          rw [h4]
          clear hIw hd
          have hG5 := Gr.alloc W (.cells (exC o_ d_ m_ A_ n_ c_) 45)
          go_wp2
          exact ⟨rfl, _, rfl, hG5, o_, d_, m_, A_, n_, c_, x, W.heap.size, rfl, Blk.new W _ _, rdx_own_gr hr4 hG5, he4, hm4.gr hG5⟩
        · refine step_sV 6 [1, 5] [0, 1, 2, 3, 7] _ _ rfl rfl (by kernel_rfl) (by kernel_rfl) fun vals W hb hB hIw hd => ?_
          have h1 : vals 1 = _ := hd 1 (by simp) _ rfl
          obtain ⟨o_, d_, m_, A_, n_, c_, x, gb, h5, hBg, hr5, he5, hm5⟩ := (show Ap5 ts L E F w g (w.heap.size + 1) A ks' c (one s2).1 (one s2).2 (vals 5) W from hd 5 (by simp) _ rfl)
          rw [h1, h5]
          have hB0 : Blk W (w.heap.size + 1) 45 (exC 3 0 ⟨#[]⟩ A ks'.length c) := hIw 0 (by kernel_rfl)
          obtain ⟨hX, hbs⟩ := (hIw 2 (by kernel_rfl) : XsOwn (w.heap.size + 1 + 1) W (.slice A ks'.length c) ks' cs ∧ w.heap.size + 1 + 1 ≤ W.heap.size)
          have hB3 : Blk W (w.heap.size) 45 exZ := hIw 3 (by kernel_rfl)
          clear hIw hd
          refine wpList_appendX W rfl (.tmp 20) (.tmp 24) rfl (w.heap.size + 1 + 1) _ ks' cs rfl hX x o_ d_ m_ A_ n_ c_ gb rfl hBg hr5 hkb hbs fun v6 w6 hX6 hb6 => ?_
          obtain ⟨A6, c6, hv6⟩ := hX6.vform
          rw [List.length_append, List.length_singleton] at hv6
          subst hv6
          unfold wpList
          refine ⟨rfl, _, rfl, hb6.mono (Nat.zero_le _), ⟨x, A6, c6, _, rfl, hX6, he5, hm5.below hgl (by omega) hb6, hB3.below hb6 (by omega), hB0.below hb6 (by omega)⟩, fun n hn hI => ?_, fun j hj => ?_⟩
          · match n, hn, hI with
            | 0, _, hI => exact Blk.below hI hb6 (by omega)
            | 1, _, hI => exact MadeS.below hI hgl (by omega) hb6
            | 2, hn, _ => exact absurd hn (by decide)
            | 3, _, hI => exact Blk.below hI hb6 (by omega)
            | n + 4, _, _ => trivial
          · simp only [List.mem_cons, List.not_mem_nil, or_false] at hj
            rcases hj with rfl | rfl | rfl | rfl | rfl
            all_goals
              intro g' hg' hp
              obtain rfl := Option.some.inj hg'
              exact hp
        · refine step_gV 7 [] _ _ rfl rfl hI (by kernel_rfl) fun vals W hb hB hIw hd => ?_
          go_wp2
          exact ⟨rfl, _, rfl, Gr.refl _, rfl⟩
        · refine step_sV 8 [6, 7] [0, 1, 2, 3, 7] _ _ rfl rfl (by kernel_rfl) (by kernel_rfl) fun vals W hb hB hIw hd => ?_
          obtain ⟨x, A6, c6, cs6, h6, hX6, he6, hm6, hB3, hB0⟩ := (show Ap6 ts L E F w g (w.heap.size) (w.heap.size + 1) 3 A ks' c (one s2).1 (one s2).2 (vals 6) W from hd 6 (by simp) _ rfl)
          have h7 : vals 7 = _ := hd 7 (by simp) _ rfl
          rw [h6, h7]
          clear hIw hd
          obtain ⟨y0, y1, y2, y3, t0, t1, t2, t3⟩ := tk_cells hB0
          go_wp2
          have hS := hB0.set_ 3 (.slice A6 (ks'.length + 1) c6)
          refine ⟨rfl, .nilIface, rfl, below0_set _ _ _, ⟨x, A6, c6, cs6, hX6.far (by show w.heap.size + 1 < w.heap.size + 1 + 1; omega) _, he6, hm6.far hgl (by show w.heap.size ≤ w.heap.size + 1; omega) _, hB3.far (by show w.heap.size ≠ w.heap.size + 1; omega) _, by simpa using hS⟩, fun n hn hI => ?_, fun j hj => ?_⟩
          · match n, hn, hI with
            | 0, hn, _ => exact absurd hn (by decide)
            | 1, _, hI => exact MadeS.far hI hgl (by show w.heap.size ≤ w.heap.size + 1; omega) _
            | 2, _, hI => exact ⟨hI.1.far (by show w.heap.size + 1 < w.heap.size + 1 + 1; omega) _, by simpa [World.setCell] using hI.2⟩
            | 3, _, hI => exact Blk.far hI (by show w.heap.size ≠ w.heap.size + 1; omega) _
            | n + 4, _, _ => trivial
          · simp only [List.mem_cons, List.not_mem_nil, or_false] at hj
            rcases hj with rfl | rfl | rfl | rfl | rfl
            all_goals
              intro g' hg' hp
              obtain rfl := Option.some.inj hg'
              exact hp
      intro vals W hb hf
      obtain ⟨x, A6, c6, cs6, hX6, he6, hm6, hB36, hB06⟩ := (show Ap8 ts L E F w g (w.heap.size) (w.heap.size + 1) 3 ks' (one s2).1 (one s2).2 W from hf 8 _ rfl (fun k hk => by simp))
      have hB5c := hB06.cell 3
      have HS1 := Lib.hid (show slAt W ⟨w.heap.size + 1, 3, none⟩ = ks'.length + 1 by unfold slAt; rw [hB5c]; rfl)
      clear hf hb hB5c
      go_wp2
      go_roundw
      case rel => exact ⟨ks ++ [(one s2).1], ks' ++ [x], cs6, (one s2).2, n', A6, c6, by rw [List.length_append]; exact hX6, by simp [HKL.out], fun h0 => by rw [he6 h0, HKE.out (HOK.out h0)], hm6, hB36, by rw [List.length_append]; exact hB06, HRe.out, HN.out, by simp, by simp; omega⟩
      case measure => rw [HS0.out, HS1.out]; omega
    | false =>
      rw [hT] at cA
      rw [sevL_end hT] at hRe
      obtain rfl := hRe
      obtain ⟨b0, b1, b2, b3, p0, p1, p2, p3⟩ := tk_cells hB5
      obtain ⟨r0, r1, r2, r3, q0, q1, q2, q3⟩ := tk_cells hBr
      clear hn HRR H1 HOne
      by_cases hk : ks'.length = 1
      · obtain ⟨x', rfl⟩ := List.length_eq_one_iff.1 hk
        have HKE := Lib.hid hke
        clear hke hk hkl
        obtain ⟨gb, cp, v0, v1, v2, v3, hv, hgb, hgb2, k0, k1, k2, k3, hrx⟩ := hX.sole
        obtain ⟨o_, d_, m_, A_, n_, c_, hfm⟩ := exRd_form hrx
        obtain ⟨rfl, rfl, rfl, rfl⟩ : v0 = .int .i64 o_ ∧ v1 = .int .i64 d_ ∧ v2 = .string m_ ∧ v3 = .slice A_ n_ c_ := by simpa using hfm
        obtain rfl : A = some ⟨gb, 0, none⟩ := by injection hv
        clear hfm hv
        go_wp2_with (go_at_call 44; (with_reducible refine cA.mono ?_); rintro e w2 ⟨rfl, nq, rfl⟩)
        have hGq := Gr.drewN wr nq
        obtain ⟨z0, z1, z2, z3, -⟩ := tk_cells ((hBr.drewN nq).tk4 (y0 := .int .i64 o_) (y1 := .int .i64 d_) (y2 := .string m_) (y3 := .slice A_ n_ c_))
        exact bodyPost_ret (v := .agg (exC o_ d_ m_ A_ n_ c_)) (by simp [results, Tryz.results72, go_sem, z0, z1, z2, z3]) rfl (HF.out (wr.drewN nq) o_ d_ m_ A_ n_ c_ x' (RdEx.mono (fun b hb => ⟨by omega, hb.2⟩) _ _ (RdEx.keep (fun p hp => hGq.cell hp.2) _ _ hrx)) (fun h0 => by have := HKE.out h0; rw [← this]; rfl) (hm.gr hGq))
      · have e1 : ((ks'.length : Int) == 1) = false := by simp; omega
        have e2 : decide (ks'.length = 1) = false := decide_eq_false hk
        have ea := aloneD_many (op := 3) hk
        have HKE := Lib.hid hke
        have HEA := Lib.hid ea
        obtain ⟨A2, c2, hv, hrx⟩ := hX.node 3
        clear hke hk hkl ea hv
        go_wp2_with (go_at_call 44; (with_reducible refine cA.mono ?_); rintro e w2 ⟨rfl, nq, rfl⟩)
        have hGq := Gr.drewN wr nq
        obtain ⟨z0, z1, z2, z3, -⟩ := tk_cells ((hBr.drewN nq).tk4 (y0 := .int .i64 3) (y1 := .int .i64 0) (y2 := .string ⟨#[]⟩) (y3 := .slice A ks'.length c))
        exact bodyPost_ret (v := .agg (exC 3 0 ⟨#[]⟩ A ks'.length c)) (by simp [results, Tryz.results72, go_sem, z0, z1, z2, z3]) rfl (HF.out (wr.drewN nq) 3 0 ⟨#[]⟩ A ks'.length c _ (RdEx.mono (fun b hb => ⟨by omega, hb.2⟩) _ _ (RdEx.keep (fun p hp => hGq.cell hp.2) _ _ hrx)) (fun h0 => by have := HKE.out h0; rw [← HEA.out, this]) (hm.gr hGq))

end Go.Proofs.YtogpmihepfnoaaaGreatDoor

namespace Go.Proofs.YtogpmihepfnoaaaGreatDoor
open Go Go.RowKit Go.Sort

set_option maxRecDepth 100000 in
set_option maxHeartbeats 8000000 in
theorem scond_yes {ts : List Tk} {L : Value} {E F : Int} {w : World} {g : Nat} {s : Pst} (d : Int) (hd : d ≤ 8) (one : Pst → Ex × Pst) (h1 : ∀ s, Goes s (one s).2) (cOne : ∀ (W : World) (s : Pst), EnvS ts L E F W g s → Calls Tryz.prog 72 #[.pointer (some ⟨g, 0, none⟩), .int .i64 d] W (PXS ts L E F W g (one s))) (h : EnvS ts L E F w g s) (he : (burnD s).err = 0) :
    Calls Tryz.prog 46 #[.pointer (some ⟨g, 0, none⟩), .int .i64 d] w (PXS ts L E F w g (sevD ts one 2 wOr (burnD s))) := by
  have hgl := h.lt
  have hlen := h.len
  have hGA := Gr.alloc w (.cells exZ 45)
  have hBr0 := Blk.new w 45 exZ
  have cB := sburn_any (h.gr hGA)
  have HOne := Lib.hid cOne
  have H1 := Lib.hid h1
  have hkb : ([] : List Ex).length ≤ 100000 := by simp
  have HF := Lib.hid (fun W o_ d_ m_ A_ n_ c_ x hr he hm => @PXS.fin ts L E F w g W (sevD ts one 2 wOr (burnD s)) o_ d_ m_ A_ n_ c_ x hgl hr he hm)
  have hR : (sevL ts one wOr (ts.length + 1) [(one (burnD s)).1] (one (burnD s)).2).2 = (sevD ts one 2 wOr (burnD s)).2 := rfl
  have hR1 : aloneD 2 (sevL ts one wOr (ts.length + 1) [(one (burnD s)).1] (one (burnD s)).2).1 = (sevD ts one 2 wOr (burnD s)).1 := rfl
  rw [← hR1, ← hR] at HF
  generalize hRR : sevL ts one wOr (ts.length + 1) [(one (burnD s)).1] (one (burnD s)).2 = R at *
  have HRR := Lib.hid hRR
  generalize hPost : PXS ts L E F w g (sevD ts one 2 wOr (burnD s)) = Post at *
  generalize burnD s = s at *
  have HE := Lib.hid he
  clear cOne h1 h hRR hPost hR hR1
  go_enter Tryz.func46, Tryz.ntmps46
  go_wp2_with (go_at_call 71; (with_reducible refine cB.mono ?_); rintro e w1 ⟨⟨v1, rfl⟩, hm1⟩
               obtain ⟨c0, c1, c2, c3, c4, c5, -⟩ := hm1.1.cells
               rw [HE.out] at c4)
  clear c0 c1 c2 c3 c4 c5
  obtain ⟨W0, hW0⟩ : ∃ W0, w1.alloc (.cells (exC 2 0 ⟨#[]⟩ none 0 0) 45) = W0 := ⟨_, rfl⟩
  have hG1 : Gr w1 W0 := by rw [← hW0]; exact Gr.alloc _ _
  have hM0 : MadeS ts L E F w g s W0 := (MadeS.after hGA hm1).gr hG1
  obtain ⟨b5, hb5⟩ : ∃ b5, w1.heap.size = b5 := ⟨_, rfl⟩
  have hrb : w.heap.size < b5 := by have := hm1.2.size; simp at this; omega
  have hBr : Blk W0 w.heap.size 45 exZ := (hBr0.x hm1.2 (by omega)).below hG1 (by omega)
  have hB5 : Blk W0 b5 45 (exC 2 0 ⟨#[]⟩ none 0 0) := by rw [← hW0, ← hb5]; exact Blk.new _ _ _
  have hs0 : b5 + 1 ≤ W0.heap.size := by rw [← hW0, ← hb5]; simp
  rw [hW0, hb5]
  have hAI : ∀ n, ApI ts L E F w g (w.heap.size) b5 2 none 0 [] [] s n W0.drew := fun n => by
    match n with
    | 0 => exact hB5.drew
    | 1 => exact hM0.gr (Gr.drew _)
    | 2 => exact ⟨XsOwn.nil _ _, hs0⟩
    | 3 => exact hBr.drew
    | n + 4 => trivial
  have HAI := Lib.hid hAI
  clear hAI hW0 hb5 hM0 hm1 hG1 hBr0 hs0
  refine wp_region_factsV [.at_ 0 (.is (.pointer (some ⟨b5, 3, none⟩))), .at_ 1 (.is (.slice none ([] : List Ex).length 0)), .at_ 2 (.is (.pointer (some ⟨g, 0, none⟩))), .at_ 3 (.is (.int .i64 d)),
      .at_ 4 ⟨Ap4 ts L E F w g (b5) none ([] : List Ex) 0 (one s).1 (one s).2, fun _ _ _ h hg => h.gr hg⟩, .at_ 5 ⟨Ap5 ts L E F w g (b5) none ([] : List Ex) 0 (one s).1 (one s).2, fun _ _ _ h hg => h.gr hg⟩,
      .at_ 6 ⟨Ap6 ts L E F w g (w.heap.size) (b5) 2 none ([] : List Ex) 0 (one s).1 (one s).2, fun _ _ _ h hg => h.gr hg⟩, .at_ 7 (.is (.pointer (some ⟨b5, 3, none⟩))),
      .at_ 8 ⟨fun _ => Ap8 ts L E F w g (w.heap.size) (b5) 2 ([] : List Ex) (one s).1 (one s).2, fun _ _ _ h hg => h.gr hg⟩]
      (ApI ts L E F w g (w.heap.size) (b5) 2 none 0 ([] : List Ex) ([] : List Value) s) (fun i j => (i == 6 && (j == 4 || j == 5)) || (i == 8 && (j == 4 || j == 5 || j == 6))) (fun i n => (i == 8 && n == 0) || (i == 4 && n == 1) || (i == 6 && n == 2)) 0 (by kernel_rfl) rfl (by kernel_rfl) (by kernel_rfl) (by kernel_rfl) (Nat.zero_le _)
      (fun n => HAI.out n) (fun vals => by simp [fillA, dstsOf, go_sem]; rfl) ?_ ?_
  · intro i hi
    replace hi : i < 9 := hi
    have hI := @ApI.gr ts L E F w g (w.heap.size) (b5) 2 none 0 ([] : List Ex) ([] : List Value) s
    rcases (by omega : i = 0 ∨ i = 1 ∨ i = 2 ∨ i = 3 ∨ i = 4 ∨ i = 5 ∨ i = 6 ∨ i = 7 ∨ i = 8) with rfl | rfl | rfl | rfl | rfl | rfl | rfl | rfl | rfl
    · refine step_gV 0 [] _ _ rfl rfl hI (by kernel_rfl) fun vals W hb hB hIw hd => ?_
      go_wp2
      exact ⟨rfl, _, rfl, Gr.refl _, rfl⟩
    · refine step_gV 1 [0] _ _ rfl rfl hI (by kernel_rfl) fun vals W hb hB hIw hd => ?_
      have h0 : vals 0 = _ := hd 0 (by simp) _ rfl
      rw [h0]
      have hc : W.cell? ⟨b5, 3, none⟩ = some (.slice none ([] : List Ex).length 0) := Blk.cell (hIw 0 (by kernel_rfl) : Blk W (b5) _ _) 3
      clear hIw
      go_wp2
      exact ⟨rfl, _, rfl, Gr.refl _, rfl⟩
    · refine step_gV 2 [] _ _ rfl rfl hI (by kernel_rfl) fun vals W hb hB hIw hd => ?_
      go_wp2
      exact ⟨rfl, _, rfl, Gr.refl _, rfl⟩
    · refine step_gV 3 [] _ _ rfl rfl hI (by kernel_rfl) fun vals W hb hB hIw hd => ?_
      go_wp2
      exact ⟨rfl, _, rfl, Gr.refl _, rfl⟩
    · refine step_sV 4 [2, 3] [0, 1, 2, 3, 7] _ _ rfl rfl (by kernel_rfl) (by kernel_rfl) fun vals W hb hB hIw hd => ?_
      have h2 : vals 2 = _ := hd 2 (by simp) _ rfl
      have h3 : vals 3 = _ := hd 3 (by simp) _ rfl
      rw [h2, h3]
      have hM : MadeS ts L E F w g s W := hIw 1 (by kernel_rfl)
      have hW2 := Lib.hid (hIw 2 (by kernel_rfl) : XsOwn (b5 + 1) W (.slice none ([] : List Ex).length 0) ([] : List Ex) ([] : List Value) ∧ b5 + 1 ≤ W.heap.size)
      have cF := HOne.out W s hM.1
      unfold PXS at cF
      clear hIw hd
      go_wp2_with (go_at_call 72; (with_reducible refine cF.mono ?_); rintro e w4 ⟨o_, d_, m_, A_, n_, c_, x, rfl, hr4, he4, hm4⟩)
      refine ⟨rfl, _, rfl, Gr.ofMadeS hm4, ⟨o_, d_, m_, A_, n_, c_, x, rfl, RdEx.mono (fun b hb => ⟨Nat.le_trans hW2.out.2 hb.1, hb.2, own_lt_ hW2.out.1.row b hb.1⟩) _ _ hr4, he4, hM.tr hm4⟩, fun n hn hI => ?_, fun j hj => ?_⟩
      · match n, hn, hI with
        | 0, _, hI => exact Blk.x hI hm4.2 (by omega)
        | 1, hn, _ => exact absurd hn (by decide)
        | 2, _, hI => exact ⟨hI.1.x hm4.2 (by omega), Nat.le_trans hI.2 hm4.2.size⟩
        | 3, _, hI => exact Blk.x hI hm4.2 (by omega)
        | n + 4, _, _ => trivial
      · simp only [List.mem_cons, List.not_mem_nil, or_false] at hj
        rcases hj with rfl | rfl | rfl | rfl | rfl
        all_goals
          intro g' hg' hp
          obtain rfl := Option.some.inj hg'
          exact hp
    · refine step_gV 5 [4] _ _ rfl rfl hI (by kernel_rfl) fun vals W hb hB hIw hd => ?_
      obtain ⟨o_, d_, m_, A_, n_, c_, x, h4, hr4, he4, hm4⟩ := (show Ap4 ts L E F w g (b5) none ([] : List Ex) 0 (one s).1 (one s).2 (vals 4) W from hd 4 (by simp) _ rfl)
      rw [h4]
      clear hIw hd
      have hG5 := Gr.alloc W (.cells (exC o_ d_ m_ A_ n_ c_) 45)
      go_wp2
      exact ⟨rfl, _, rfl, hG5, o_, d_, m_, A_, n_, c_, x, W.heap.size, rfl, Blk.new W _ _, rdx_own_gr hr4 hG5, he4, hm4.gr hG5⟩
    · refine step_sV 6 [1, 5] [0, 1, 2, 3, 7] _ _ rfl rfl (by kernel_rfl) (by kernel_rfl) fun vals W hb hB hIw hd => ?_
      have h1 : vals 1 = _ := hd 1 (by simp) _ rfl
      obtain ⟨o_, d_, m_, A_, n_, c_, x, gb, h5, hBg, hr5, he5, hm5⟩ := (show Ap5 ts L E F w g (b5) none ([] : List Ex) 0 (one s).1 (one s).2 (vals 5) W from hd 5 (by simp) _ rfl)
      rw [h1, h5]
      have hB0 : Blk W (b5) 45 (exC 2 0 ⟨#[]⟩ none ([] : List Ex).length 0) := hIw 0 (by kernel_rfl)
      obtain ⟨hX, hbs⟩ := (hIw 2 (by kernel_rfl) : XsOwn (b5 + 1) W (.slice none ([] : List Ex).length 0) ([] : List Ex) ([] : List Value) ∧ b5 + 1 ≤ W.heap.size)
      have hB3 : Blk W (w.heap.size) 45 exZ := hIw 3 (by kernel_rfl)
      clear hIw hd
      refine wpList_appendX W rfl (.tmp 28) (.tmp 32) rfl (b5 + 1) _ ([] : List Ex) ([] : List Value) rfl hX x o_ d_ m_ A_ n_ c_ gb rfl hBg hr5 hkb hbs fun v6 w6 hX6 hb6 => ?_
      obtain ⟨A6, c6, hv6⟩ := hX6.vform
      rw [List.length_append, List.length_singleton] at hv6
      subst hv6
      unfold wpList
      refine ⟨rfl, _, rfl, hb6.mono (Nat.zero_le _), ⟨x, A6, c6, _, rfl, hX6, he5, hm5.below hgl (by omega) hb6, hB3.below hb6 (by omega), hB0.below hb6 (by omega)⟩, fun n hn hI => ?_, fun j hj => ?_⟩
      · match n, hn, hI with
        | 0, _, hI => exact Blk.below hI hb6 (by omega)
        | 1, _, hI => exact MadeS.below hI hgl (by omega) hb6
        | 2, hn, _ => exact absurd hn (by decide)
        | 3, _, hI => exact Blk.below hI hb6 (by omega)
        | n + 4, _, _ => trivial
      · simp only [List.mem_cons, List.not_mem_nil, or_false] at hj
        rcases hj with rfl | rfl | rfl | rfl | rfl
        all_goals
          intro g' hg' hp
          obtain rfl := Option.some.inj hg'
          exact hp
    · refine step_gV 7 [] _ _ rfl rfl hI (by kernel_rfl) fun vals W hb hB hIw hd => ?_
      go_wp2
      exact ⟨rfl, _, rfl, Gr.refl _, rfl⟩
    · refine step_sV 8 [6, 7] [0, 1, 2, 3, 7] _ _ rfl rfl (by kernel_rfl) (by kernel_rfl) fun vals W hb hB hIw hd => ?_
      obtain ⟨x, A6, c6, cs6, h6, hX6, he6, hm6, hB3, hB0⟩ := (show Ap6 ts L E F w g (w.heap.size) (b5) 2 none ([] : List Ex) 0 (one s).1 (one s).2 (vals 6) W from hd 6 (by simp) _ rfl)
      have h7 : vals 7 = _ := hd 7 (by simp) _ rfl
      rw [h6, h7]
      clear hIw hd
      obtain ⟨y0, y1, y2, y3, t0, t1, t2, t3⟩ := tk_cells hB0
      go_wp2
      have hS := hB0.set_ 3 (.slice A6 (([] : List Ex).length + 1) c6)
      refine ⟨rfl, .nilIface, rfl, below0_set _ _ _, ⟨x, A6, c6, cs6, hX6.far (by show b5 < b5 + 1; omega) _, he6, hm6.far hgl (by show w.heap.size ≤ b5; omega) _, hB3.far (by show w.heap.size ≠ b5; omega) _, by simpa using hS⟩, fun n hn hI => ?_, fun j hj => ?_⟩
      · match n, hn, hI with
        | 0, hn, _ => exact absurd hn (by decide)
        | 1, _, hI => exact MadeS.far hI hgl (by show w.heap.size ≤ b5; omega) _
        | 2, _, hI => exact ⟨hI.1.far (by show b5 < b5 + 1; omega) _, by simpa [World.setCell] using hI.2⟩
        | 3, _, hI => exact Blk.far hI (by show w.heap.size ≠ b5; omega) _
        | n + 4, _, _ => trivial
      · simp only [List.mem_cons, List.not_mem_nil, or_false] at hj
        rcases hj with rfl | rfl | rfl | rfl | rfl
        all_goals
          intro g' hg' hp
          obtain rfl := Option.some.inj hg'
          exact hp
  intro vals W hb hf
  obtain ⟨x, A6, c6, cs6, hX6, he6, hm6, hB36, hB06⟩ := (show Ap8 ts L E F w g (w.heap.size) b5 2 ([] : List Ex) (one s).1 (one s).2 W from hf 8 _ rfl (fun k hk => by simp))
  have hst : SevS ts L E F one wOr 2 R w g (w.heap.size) b5 W := ⟨[(one s).1], [x], cs6, (one s).2, ts.length + 1, A6, c6, hX6, rfl, fun h0 => by rw [he6 h0], hm6, hB36, hB06, HRR.out.symm, fun _ => by omega, Nat.le_refl _, by simp; omega⟩
  clear hX6 he6 hm6 hB36 hB06 hf hb hBr hB5
  go_wp2
  go_loopw [35] (fun _ wr => SevS ts L E F one wOr 2 R w g (w.heap.size) b5 wr) (fun _ wr => 700 - slAt wr ⟨b5, 3, none⟩)
  case atStart => exact hst
  case round =>
    clear hst
    obtain ⟨ks, ks', cs, s, n, A, c, hX, hkl, hke, hm, hBr, hB5, hRe, hn, hk1, hkn⟩ := hrel
    have cA := sis_word wOr (by decide) hm.1
    cases hT : isT ts (wdB wOr) s with
    | true =>
      rw [hT] at cA
      have cW := fun W (hE : EnvS ts L E F W g s) => snext_word wOr (by decide) hE
      obtain ⟨n', rfl, hst2, hn2⟩ := sevL_step (ks := ks) H1.out hT hn
      rw [hst2] at hRe
      have HOK := Lib.hid (fun h0 => (take_goes ts (wdB wOr) s).ok ((H1.out _).ok h0) : (one (takeT ts (wdB wOr) s).2).2.err = 0 → s.err = 0)
      generalize takeT ts (wdB wOr) s = o2 at *
      obtain ⟨⟨tk2, tx2, tn2, ta2⟩, s2⟩ := o2
      dsimp only [tkV] at cW hRe hn2 HOK
      have hkb : ks'.length ≤ 100000 := by omega
      have hkm : ks'.length < 700 := by omega
      have HRe := Lib.hid hRe
      have HKE := Lib.hid hke
      have HN := Lib.hid hn2
      have HKL := Lib.hid hkl
      clear hRe hke hn2 hn hst2 hT hkl
      go_wp2_with (first
        | (go_at_call 44; (with_reducible refine cA.mono ?_); rintro e w2 ⟨rfl, nq, rfl⟩)
        | (go_at_call 45; (with_reducible refine (cW _ (hm.1.gr (Gr.drewN _ _))).mono ?_); rintro e w3 ⟨rfl, hm3⟩))
      have hGq := Gr.drewN wr nq
      have hAI2 : ∀ n, ApI ts L E F w g (w.heap.size) b5 2 A c ks' cs s2 n w3.drew := fun n => by
        match n with
        | 0 => exact ((hB5.drewN nq).x hm3.2 (by omega)).drew
        | 1 => exact ((hm.gr hGq).tr hm3).gr (Gr.drew _)
        | 2 => exact ⟨((hX.gr hGq).x hm3.2 (by omega)).gr (Gr.drew _), by have h1 := hB5.lt; have h2 := hm3.2.size; show b5 + 1 ≤ w3.heap.size; exact Nat.le_trans h1 h2⟩
        | 3 => exact ((hBr.drewN nq).x hm3.2 (by omega)).drew
        | n + 4 => trivial
      have HAI2 := Lib.hid hAI2
      have hB5c := hB5.cell 3
      have HS0 := Lib.hid (show slAt wr ⟨b5, 3, none⟩ = ks'.length by unfold slAt; rw [hB5c]; rfl)
      clear hAI2 hB5c hX hBr hB5 hm cA cW hm3
      refine wp_region_factsV [.at_ 0 (.is (.pointer (some ⟨b5, 3, none⟩))), .at_ 1 (.is (.slice A ks'.length c)), .at_ 2 (.is (.pointer (some ⟨g, 0, none⟩))), .at_ 3 (.is (.int .i64 d)),
          .at_ 4 ⟨Ap4 ts L E F w g (b5) A ks' c (one s2).1 (one s2).2, fun _ _ _ h hg => h.gr hg⟩, .at_ 5 ⟨Ap5 ts L E F w g (b5) A ks' c (one s2).1 (one s2).2, fun _ _ _ h hg => h.gr hg⟩,
          .at_ 6 ⟨Ap6 ts L E F w g (w.heap.size) (b5) 2 A ks' c (one s2).1 (one s2).2, fun _ _ _ h hg => h.gr hg⟩, .at_ 7 (.is (.pointer (some ⟨b5, 3, none⟩))),
          .at_ 8 ⟨fun _ => Ap8 ts L E F w g (w.heap.size) (b5) 2 ks' (one s2).1 (one s2).2, fun _ _ _ h hg => h.gr hg⟩]
          (ApI ts L E F w g (w.heap.size) (b5) 2 A c ks' cs s2) (fun i j => (i == 6 && (j == 4 || j == 5)) || (i == 8 && (j == 4 || j == 5 || j == 6))) (fun i n => (i == 8 && n == 0) || (i == 4 && n == 1) || (i == 6 && n == 2)) 0 (by kernel_rfl) rfl (by kernel_rfl) (by kernel_rfl) (by kernel_rfl) (Nat.zero_le _)
          (fun n => HAI2.out n) (fun vals => by simp [fillA, dstsOf, go_sem]; rfl) ?_ ?_
      · intro i hi
        replace hi : i < 9 := hi
        have hI := @ApI.gr ts L E F w g (w.heap.size) (b5) 2 A c ks' cs s2
        rcases (by omega : i = 0 ∨ i = 1 ∨ i = 2 ∨ i = 3 ∨ i = 4 ∨ i = 5 ∨ i = 6 ∨ i = 7 ∨ i = 8) with rfl | rfl | rfl | rfl | rfl | rfl | rfl | rfl | rfl
        · refine step_gV 0 [] _ _ rfl rfl hI (by kernel_rfl) fun vals W hb hB hIw hd => ?_
          go_wp2
          exact ⟨rfl, _, rfl, Gr.refl _, rfl⟩
        · refine step_gV 1 [0] _ _ rfl rfl hI (by kernel_rfl) fun vals W hb hB hIw hd => ?_
          have h0 : vals 0 = _ := hd 0 (by simp) _ rfl
          rw [h0]
          have hc : W.cell? ⟨b5, 3, none⟩ = some (.slice A ks'.length c) := Blk.cell (hIw 0 (by kernel_rfl) : Blk W (b5) _ _) 3
          clear hIw
          go_wp2
          exact ⟨rfl, _, rfl, Gr.refl _, rfl⟩
        · refine step_gV 2 [] _ _ rfl rfl hI (by kernel_rfl) fun vals W hb hB hIw hd => ?_
          go_wp2
          exact ⟨rfl, _, rfl, Gr.refl _, rfl⟩
        · refine step_gV 3 [] _ _ rfl rfl hI (by kernel_rfl) fun vals W hb hB hIw hd => ?_
          go_wp2
          exact ⟨rfl, _, rfl, Gr.refl _, rfl⟩
        · refine step_sV 4 [2, 3] [0, 1, 2, 3, 7] _ _ rfl rfl (by kernel_rfl) (by kernel_rfl) fun vals W hb hB hIw hd => ?_
          have h2 : vals 2 = _ := hd 2 (by simp) _ rfl
          have h3 : vals 3 = _ := hd 3 (by simp) _ rfl
          rw [h2, h3]
          have hM : MadeS ts L E F w g s2 W := hIw 1 (by kernel_rfl)
          have hW2 := Lib.hid (hIw 2 (by kernel_rfl) : XsOwn (b5 + 1) W (.slice A ks'.length c) ks' cs ∧ b5 + 1 ≤ W.heap.size)
          have cF := HOne.out W s2 hM.1
          unfold PXS at cF
          clear hIw hd
          go_wp2_with (go_at_call 72; (with_reducible refine cF.mono ?_); rintro e w4 ⟨o_, d_, m_, A_, n_, c_, x, rfl, hr4, he4, hm4⟩)
          refine ⟨rfl, _, rfl, Gr.ofMadeS hm4, ⟨o_, d_, m_, A_, n_, c_, x, rfl, RdEx.mono (fun b hb => ⟨Nat.le_trans hW2.out.2 hb.1, hb.2, own_lt_ hW2.out.1.row b hb.1⟩) _ _ hr4, he4, hM.tr hm4⟩, fun n hn hI => ?_, fun j hj => ?_⟩
          · match n, hn, hI with
            | 0, _, hI => exact Blk.x hI hm4.2 (by omega)
            | 1, hn, _ => exact absurd hn (by decide)
            | 2, _, hI => exact ⟨hI.1.x hm4.2 (by omega), Nat.le_trans hI.2 hm4.2.size⟩
            | 3, _, hI => exact Blk.x hI hm4.2 (by omega)
            | n + 4, _, _ => trivial
          · simp only [List.mem_cons, List.not_mem_nil, or_false] at hj
            rcases hj with rfl | rfl | rfl | rfl | rfl
            all_goals
              intro g' hg' hp
              obtain rfl := Option.some.inj hg'
              exact hp
        · refine step_gV 5 [4] _ _ rfl rfl hI (by kernel_rfl) fun vals W hb hB hIw hd => ?_
          obtain ⟨o_, d_, m_, A_, n_, c_, x, h4, hr4, he4, hm4⟩ := (show Ap4 ts L E F w g (b5) A ks' c (one s2).1 (one s2).2 (vals 4) W from hd 4 (by simp) _ rfl)
          rw [h4]
          clear hIw hd
          have hG5 := Gr.alloc W (.cells (exC o_ d_ m_ A_ n_ c_) 45)
          go_wp2
          exact ⟨rfl, _, rfl, hG5, o_, d_, m_, A_, n_, c_, x, W.heap.size, rfl, Blk.new W _ _, rdx_own_gr hr4 hG5, he4, hm4.gr hG5⟩
        · refine step_sV 6 [1, 5] [0, 1, 2, 3, 7] _ _ rfl rfl (by kernel_rfl) (by kernel_rfl) fun vals W hb hB hIw hd => ?_
          have h1 : vals 1 = _ := hd 1 (by simp) _ rfl
          obtain ⟨o_, d_, m_, A_, n_, c_, x, gb, h5, hBg, hr5, he5, hm5⟩ := (show Ap5 ts L E F w g (b5) A ks' c (one s2).1 (one s2).2 (vals 5) W from hd 5 (by simp) _ rfl)
          rw [h1, h5]
          have hB0 : Blk W (b5) 45 (exC 2 0 ⟨#[]⟩ A ks'.length c) := hIw 0 (by kernel_rfl)
          obtain ⟨hX, hbs⟩ := (hIw 2 (by kernel_rfl) : XsOwn (b5 + 1) W (.slice A ks'.length c) ks' cs ∧ b5 + 1 ≤ W.heap.size)
          have hB3 : Blk W (w.heap.size) 45 exZ := hIw 3 (by kernel_rfl)
          clear hIw hd
          refine wpList_appendX W rfl (.tmp 40) (.tmp 44) rfl (b5 + 1) _ ks' cs rfl hX x o_ d_ m_ A_ n_ c_ gb rfl hBg hr5 hkb hbs fun v6 w6 hX6 hb6 => ?_
          obtain ⟨A6, c6, hv6⟩ := hX6.vform
          rw [List.length_append, List.length_singleton] at hv6
          subst hv6
          unfold wpList
          refine ⟨rfl, _, rfl, hb6.mono (Nat.zero_le _), ⟨x, A6, c6, _, rfl, hX6, he5, hm5.below hgl (by omega) hb6, hB3.below hb6 (by omega), hB0.below hb6 (by omega)⟩, fun n hn hI => ?_, fun j hj => ?_⟩
          · match n, hn, hI with
            | 0, _, hI => exact Blk.below hI hb6 (by omega)
            | 1, _, hI => exact MadeS.below hI hgl (by omega) hb6
            | 2, hn, _ => exact absurd hn (by decide)
            | 3, _, hI => exact Blk.below hI hb6 (by omega)
            | n + 4, _, _ => trivial
          · simp only [List.mem_cons, List.not_mem_nil, or_false] at hj
            rcases hj with rfl | rfl | rfl | rfl | rfl
            all_goals
              intro g' hg' hp
              obtain rfl := Option.some.inj hg'
              exact hp
        · refine step_gV 7 [] _ _ rfl rfl hI (by kernel_rfl) fun vals W hb hB hIw hd => ?_
          go_wp2
          exact ⟨rfl, _, rfl, Gr.refl _, rfl⟩
        · refine step_sV 8 [6, 7] [0, 1, 2, 3, 7] _ _ rfl rfl (by kernel_rfl) (by kernel_rfl) fun vals W hb hB hIw hd => ?_
          obtain ⟨x, A6, c6, cs6, h6, hX6, he6, hm6, hB3, hB0⟩ := (show Ap6 ts L E F w g (w.heap.size) (b5) 2 A ks' c (one s2).1 (one s2).2 (vals 6) W from hd 6 (by simp) _ rfl)
          have h7 : vals 7 = _ := hd 7 (by simp) _ rfl
          rw [h6, h7]
          clear hIw hd
          obtain ⟨y0, y1, y2, y3, t0, t1, t2, t3⟩ := tk_cells hB0
          go_wp2
          have hS := hB0.set_ 3 (.slice A6 (ks'.length + 1) c6)
          refine ⟨rfl, .nilIface, rfl, below0_set _ _ _, ⟨x, A6, c6, cs6, hX6.far (by show b5 < b5 + 1; omega) _, he6, hm6.far hgl (by show w.heap.size ≤ b5; omega) _, hB3.far (by show w.heap.size ≠ b5; omega) _, by simpa using hS⟩, fun n hn hI => ?_, fun j hj => ?_⟩
          · match n, hn, hI with
            | 0, hn, _ => exact absurd hn (by decide)
            | 1, _, hI => exact MadeS.far hI hgl (by show w.heap.size ≤ b5; omega) _
            | 2, _, hI => exact ⟨hI.1.far (by show b5 < b5 + 1; omega) _, by simpa [World.setCell] using hI.2⟩
            | 3, _, hI => exact Blk.far hI (by show w.heap.size ≠ b5; omega) _
            | n + 4, _, _ => trivial
          · simp only [List.mem_cons, List.not_mem_nil, or_false] at hj
            rcases hj with rfl | rfl | rfl | rfl | rfl
            all_goals
              intro g' hg' hp
              obtain rfl := Option.some.inj hg'
              exact hp
      intro vals W hb hf
      obtain ⟨x, A6, c6, cs6, hX6, he6, hm6, hB36, hB06⟩ := (show Ap8 ts L E F w g (w.heap.size) b5 2 ks' (one s2).1 (one s2).2 W from hf 8 _ rfl (fun k hk => by simp))
      have hB5c := hB06.cell 3
      have HS1 := Lib.hid (show slAt W ⟨b5, 3, none⟩ = ks'.length + 1 by unfold slAt; rw [hB5c]; rfl)
      clear hf hb hB5c
      go_wp2
      go_roundw
      case rel => exact ⟨ks ++ [(one s2).1], ks' ++ [x], cs6, (one s2).2, n', A6, c6, by rw [List.length_append]; exact hX6, by simp [HKL.out], fun h0 => by rw [he6 h0, HKE.out (HOK.out h0)], hm6, hB36, by rw [List.length_append]; exact hB06, HRe.out, HN.out, by simp, by simp; omega⟩
      case measure => rw [HS0.out, HS1.out]; omega
    | false =>
      rw [hT] at cA
      rw [sevL_end hT] at hRe
      obtain rfl := hRe
      obtain ⟨b0, b1, b2, b3, p0, p1, p2, p3⟩ := tk_cells hB5
      obtain ⟨r0, r1, r2, r3, q0, q1, q2, q3⟩ := tk_cells hBr
      clear hn HRR H1 HOne
      by_cases hk : ks'.length = 1
      · obtain ⟨x', rfl⟩ := List.length_eq_one_iff.1 hk
        have HKE := Lib.hid hke
        clear hke hk hkl
        obtain ⟨gb, cp, v0, v1, v2, v3, hv, hgb, hgb2, k0, k1, k2, k3, hrx⟩ := hX.sole
        obtain ⟨o_, d_, m_, A_, n_, c_, hfm⟩ := exRd_form hrx
        obtain ⟨rfl, rfl, rfl, rfl⟩ : v0 = .int .i64 o_ ∧ v1 = .int .i64 d_ ∧ v2 = .string m_ ∧ v3 = .slice A_ n_ c_ := by simpa using hfm
        obtain rfl : A = some ⟨gb, 0, none⟩ := by injection hv
        clear hfm hv
        go_wp2_with (go_at_call 44; (with_reducible refine cA.mono ?_); rintro e w2 ⟨rfl, nq, rfl⟩)
        have hGq := Gr.drewN wr nq
        obtain ⟨z0, z1, z2, z3, -⟩ := tk_cells ((hBr.drewN nq).tk4 (y0 := .int .i64 o_) (y1 := .int .i64 d_) (y2 := .string m_) (y3 := .slice A_ n_ c_))
        exact bodyPost_ret (v := .agg (exC o_ d_ m_ A_ n_ c_)) (by simp [results, Tryz.results46, go_sem, z0, z1, z2, z3]) rfl (HF.out (wr.drewN nq) o_ d_ m_ A_ n_ c_ x' (RdEx.mono (fun b hb => ⟨by omega, hb.2⟩) _ _ (RdEx.keep (fun p hp => hGq.cell hp.2) _ _ hrx)) (fun h0 => by have := HKE.out h0; rw [← this]; rfl) (hm.gr hGq))
      · have e1 : ((ks'.length : Int) == 1) = false := by simp; omega
        have e2 : decide (ks'.length = 1) = false := decide_eq_false hk
        have ea := aloneD_many (op := 2) hk
        have HKE := Lib.hid hke
        have HEA := Lib.hid ea
        obtain ⟨A2, c2, hv, hrx⟩ := hX.node 2
        clear hke hk hkl ea hv
        go_wp2_with (go_at_call 44; (with_reducible refine cA.mono ?_); rintro e w2 ⟨rfl, nq, rfl⟩)
        have hGq := Gr.drewN wr nq
        obtain ⟨z0, z1, z2, z3, -⟩ := tk_cells ((hBr.drewN nq).tk4 (y0 := .int .i64 2) (y1 := .int .i64 0) (y2 := .string ⟨#[]⟩) (y3 := .slice A ks'.length c))
        exact bodyPost_ret (v := .agg (exC 2 0 ⟨#[]⟩ A ks'.length c)) (by simp [results, Tryz.results46, go_sem, z0, z1, z2, z3]) rfl (HF.out (wr.drewN nq) 2 0 ⟨#[]⟩ A ks'.length c _ (RdEx.mono (fun b hb => ⟨by omega, hb.2⟩) _ _ (RdEx.keep (fun p hp => hGq.cell hp.2) _ _ hrx)) (fun h0 => by have := HKE.out h0; rw [← HEA.out, this]) (hm.gr hGq))
section
variable {ts : List Tk} {L : Value} {E F : Int} {w w' : World} {g : Nat} {s : Pst}
set_option maxRecDepth 100000 in
set_option maxHeartbeats 2000000 in
theorem scond_no (d : Int) (h : EnvS ts L E F w g s) (he : (burnD s).err ≠ 0) :
    Calls Tryz.prog 46 #[.pointer (some ⟨g, 0, none⟩), .int .i64 d] w (PXS ts L E F w g (Ex.none_, burnD s)) := by
  have hgl := h.lt
  have hGA := Gr.alloc w (.cells exZ 45)
  have hB0 := Blk.new w 45 exZ
  have cB := sburn_any (h.gr hGA)
  have HF := Lib.hid (fun W o_ d_ m_ A_ n_ c_ x hr he hm => @PXS.fin ts L E F w g W (Ex.none_, burnD s) o_ d_ m_ A_ n_ c_ x hgl hr he hm)
  generalize hPost : PXS ts L E F w g (Ex.none_, burnD s) = Post at *
  have e1 : ((burnD s).err == 0) = false := by simp [he]
  have e2 : ((burnD s).err != 0) = true := by simp [he]
  have e3 : decide ((burnD s).err = 0) = false := decide_eq_false he
  generalize burnD s = b0 at *
  clear h hPost he
  go_enter Tryz.func46, Tryz.ntmps46
  go_wp2_with (go_at_call 71; (with_reducible refine cB.mono ?_); rintro e w1 ⟨⟨v1, rfl⟩, hm1⟩
               obtain ⟨c0, c1, c2, c3, c4, c5, -⟩ := hm1.1.cells
               have hBr : Blk w1 w.heap.size 45 exZ := hB0.x hm1.2 (by omega)
               obtain ⟨r0, r1, r2, r3, q0, q1, q2, q3⟩ := tk_cells hBr)
  obtain ⟨z0, z1, z2, z3, -⟩ := tk_cells (hBr.tk4 (y0 := .int .i64 0) (y1 := .int .i64 0) (y2 := .string ⟨#[]⟩) (y3 := .slice none 0 0))
  exact bodyPost_ret (v := .agg exZ) (by simp [results, Tryz.results46, go_sem, z0, z1, z2, z3]) rfl (HF.out _ 0 0 ⟨#[]⟩ none 0 0 Ex.none_ (rd_none _ _) (fun _ => rfl) (MadeS.after hGA hm1))
set_option maxRecDepth 100000 in
set_option maxHeartbeats 2000000 in
theorem scond_deep (h : EnvS ts L E F w g s) (he : (burnD s).err = 0) :
    Calls Tryz.prog 46 #[.pointer (some ⟨g, 0, none⟩), .int .i64 9] w (PXS ts L E F w g (Ex.none_, failD 2 (burnD s))) := by
  have hgl := h.lt
  have hGA := Gr.alloc w (.cells exZ 45)
  have hB0 := Blk.new w 45 exZ
  have cB := sburn_any (h.gr hGA)
  have ef : failD 2 (burnD s) = { burnD s with err := 2 } := by unfold failD; rw [if_pos he]
  rw [ef]
  have HF := Lib.hid (fun W o_ d_ m_ A_ n_ c_ x hr he hm => @PXS.fin ts L E F w g W (Ex.none_, { burnD s with err := 2 }) o_ d_ m_ A_ n_ c_ x hgl hr he hm)
  generalize hPost : PXS ts L E F w g (Ex.none_, { burnD s with err := 2 }) = Post at *
  generalize burnD s = b0 at *
  have HE := Lib.hid he
  clear h hPost he ef
  go_enter Tryz.func46, Tryz.ntmps46
  go_wp2_with (go_at_call 71; (with_reducible refine cB.mono ?_); rintro e w1 ⟨⟨v1, rfl⟩, hm1⟩
               obtain ⟨c0, c1, c2, c3, c4, c5, f1, f3, f4, f5⟩ := hm1.1.cells
               rw [HE.out] at c4
               obtain ⟨hE2, hx2⟩ := hm1.1.setE 2
               have hm2 : MadeS ts L E F w g { b0 with err := 2 } (w1.setCell ⟨g, 4, none⟩ (.int .i64 2)) := ⟨hE2, GrX.tr (MadeS.after hGA hm1).2 hx2⟩
               have hBr : Blk (w1.setCell ⟨g, 4, none⟩ (.int .i64 2)) w.heap.size 45 exZ := (hB0.x hm1.2 (by omega)).x hx2 (by omega)
               obtain ⟨r0, r1, r2, r3, q0, q1, q2, q3⟩ := tk_cells hBr)
  obtain ⟨z0, z1, z2, z3, -⟩ := tk_cells (hBr.tk4 (y0 := .int .i64 0) (y1 := .int .i64 0) (y2 := .string ⟨#[]⟩) (y3 := .slice none 0 0))
  exact bodyPost_ret (v := .agg exZ) (by simp [results, Tryz.results46, go_sem, z0, z1, z2, z3]) rfl (HF.out _ 0 0 ⟨#[]⟩ none 0 0 Ex.none_ (rd_none _ _) (fun h0 => rfl) hm2)
end

end Go.Proofs.YtogpmihepfnoaaaGreatDoor

namespace Go.Proofs.YtogpmihepfnoaaaGreatDoor
open Go Go.RowKit Go.Sort

/-- Any word is as good as a milestone's, unless one is there that is none. -/
theorem take_any_word {ts : List Tk} {s : Pst} (h : ∀ t, s.err = 0 → 1 ≤ s.fuel → ts[s.pos]? = some t → t.kind = 1 → mileD t.text = true) : takeT ts (kindB 1) s = takeT ts mileB s := by
  unfold takeT
  by_cases he : (burnD s).err = 0
  · rw [if_neg (by omega), if_neg (by omega)]
    have hs : s.err = 0 ∧ 1 ≤ s.fuel := by
      unfold burnD at he
      split at he
      · rename_i h0
        refine ⟨h0, ?_⟩
        split at he
        · cases he
        · omega
      · rename_i h0; exact absurd he h0
    cases ht : ts[s.pos]? with
    | none => rfl
    | some t =>
      have := h t hs.1 hs.2 ht
      have e : kindB 1 t = mileB t := by
        unfold kindB mileB
        by_cases hk : t.kind = 1
        · rw [decide_eq_true hk, this hk]; rfl
        · rw [decide_eq_false hk]; rfl
      dsimp only
      rw [e]
  · rw [if_pos he, if_pos he]
theorem take_no_mile {ts : List Tk} {s : Pst} {t : Tk} (h0 : s.err = 0) (h1 : 1 ≤ s.fuel) (ht : ts[s.pos]? = some t) (hm : mileD t.text = false) : takeT ts mileB s = (Tk.zero, { burnD s with err := 2 }) := by
  have he : (burnD s).err = 0 := by unfold burnD; rw [if_pos h0, if_neg (by omega)]; exact h0
  unfold takeT
  rw [if_neg (by omega), ht]
  dsimp only
  rw [if_neg (by unfold mileB; rw [hm]; simp)]
section
variable {ts : List Tk} {L : Value} {E F : Int} {w w' : World} {g : Nat} {s : Pst}
set_option maxRecDepth 100000 in
set_option maxHeartbeats 8000000 in
theorem sfact_any (d d' : Int) (hd : d + 1 = d') (hd0 : 0 ≤ d) (hd9 : d ≤ 100) (cond : Pst → Ex × Pst) (cC : ∀ (W : World) (s : Pst), EnvS ts L E F W g s → Calls Tryz.prog 46 #[.pointer (some ⟨g, 0, none⟩), .int .i64 d'] W (PXS ts L E F W g (cond s))) (h : EnvS ts L E F w g s) :
    Calls Tryz.prog 85 #[.pointer (some ⟨g, 0, none⟩), .int .i64 d] w (PXS ts L E F w g (factD ts cond s)) := by
  subst hd
  have hgl := h.lt
  have hsm := h.small
  have hGA := Gr.alloc w (.cells exZ 45)
  have hB0 := Blk.new w 45 exZ
  have hA := h.gr hGA
  have hs1 : (w.alloc (.cells exZ 45)).heap.size = w.heap.size + 1 := by simp
  have cI := sis_kind 4 hA
  have cK4 := fun W (hE : EnvS ts L E F W g s) => snext_kind 4 hE
  have cK3 := fun W (hE : EnvS ts L E F W g s) => snext_kind 3 hE
  have HF := Lib.hid (fun W o_ d_ m_ A_ n_ c_ x hr he hm => @PXS.fin ts L E F w g W (factD ts cond s) o_ d_ m_ A_ n_ c_ x hgl hr he hm)
  generalize hPost : PXS ts L E F w g (factD ts cond s) = Post at *
  have hD : factD ts cond s = if isT ts (kindB 4) s then ((cond (takeT ts (kindB 4) s).2).1, (takeT ts (kindB 5) (cond (takeT ts (kindB 4) s).2).2).2) else (.mk 1 (takeT ts (kindB 3) s).1.n (takeT ts mileB (takeT ts (wdB wAfter) (takeT ts (kindB 3) s).2).2).1.text [], (takeT ts mileB (takeT ts (wdB wAfter) (takeT ts (kindB 3) s).2).2).2) := rfl
  have h_ := hA
  clear hPost h hA
  cases hT : isT ts (kindB 4) s with
  | true =>
    rw [hT] at cI hD
    rw [if_pos rfl] at hD
    have HOK := Lib.hid (fun h0 => (take_goes ts (kindB 5) (cond (takeT ts (kindB 4) s).2).2).ok h0 : (takeT ts (kindB 5) (cond (takeT ts (kindB 4) s).2).2).2.err = 0 → _)
    have HD := Lib.hid hD
    clear hD cK3 hT
    generalize factD ts cond s = o at *
    generalize takeT ts (kindB 4) s = o4 at *
    obtain ⟨⟨k4, x4, n4, a4⟩, s4⟩ := o4
    dsimp only [tkV] at *
    have cCC := fun W hE => cC W s4 hE
    unfold PXS at cCC
    generalize cond s4 = oc at *
    obtain ⟨xc, sc⟩ := oc
    dsimp only at *
    have cK5 := fun W (hE : EnvS ts L E F W g sc) => snext_kind 5 hE
    generalize takeT ts (kindB 5) sc = o5 at *
    obtain ⟨⟨k5, x5, n5, a5⟩, s5⟩ := o5
    dsimp only [tkV] at *
    obtain ⟨ox, os⟩ := o
    have HD1 := Lib.hid (congrArg Prod.fst HD.out)
    have HD2 := congrArg Prod.snd HD.out
    dsimp only at HD2
    subst HD2
    clear cC HD
    go_enter Tryz.func85, Tryz.ntmps85
    go_wp2_with (first
      | (go_at_call 44; (with_reducible refine cI.mono ?_); rintro e w2 ⟨rfl, nq, rfl⟩
         have hG2 := Gr.trans hGA (Gr.drewN _ nq)
         have hE2 := h_.gr (Gr.drewN _ nq))
      | (go_at_call 45; (with_reducible refine (cK4 _ hE2).mono ?_); rintro e w3 ⟨rfl, hm3⟩)
      | (go_at_call 46; (with_reducible refine (cCC _ hm3.1).mono ?_); rintro e w4 ⟨o_, d_, m_, A_, n_, c_, x, rfl, hr4, he4, hm4⟩
         have hBx := Blk.new w4 45 (exC o_ d_ m_ A_ n_ c_)
         have hGx := Gr.alloc w4 (.cells (exC o_ d_ m_ A_ n_ c_) 45))
      | (go_at_call 45; (with_reducible refine (cK5 _ (hm4.1.gr hGx)).mono ?_); rintro e w5 ⟨rfl, hm5⟩
         have hw4 : g < w4.heap.size := hm4.1.lt
         have hM5 : MadeS ts L E F w g os w5 := ((MadeS.tr (MadeS.after hG2 hm3) hm4).gr hGx).tr hm5
         obtain ⟨u0, u1, u2, u3, -⟩ := tk_cells (hBx.x hm5.2 (by omega))
         have hBr : Blk w5 w.heap.size 45 exZ := ((((hB0.drewN nq).x hm3.2 (by omega)).x hm4.2 (by omega)).x (GrX.of_gr hGx g) (by omega)).x hm5.2 (by omega)
         obtain ⟨r0, r1, r2, r3, q0, q1, q2, q3⟩ := tk_cells hBr
         have hw3 : w.heap.size + 1 ≤ w3.heap.size := by have h3 := hm3.2.size; simp at h3; omega))
    obtain ⟨z0, z1, z2, z3, -⟩ := tk_cells (hBr.tk4 (y0 := .int .i64 o_) (y1 := .int .i64 d_) (y2 := .string m_) (y3 := .slice A_ n_ c_))
    refine bodyPost_ret (v := .agg (exC o_ d_ m_ A_ n_ c_)) (by simp [results, Tryz.results85, go_sem, z0, z1, z2, z3]) rfl (HF.out w5 o_ d_ m_ A_ n_ c_ x ?_ (fun h0 => by rw [he4 (HOK.out h0)]; exact HD1.out.symm) hM5)
    refine RdEx.mono (fun b hb => ⟨by omega, Nat.lt_of_lt_of_le hb.2 (Nat.le_trans hGx.size hm5.2.size)⟩) _ _ (RdEx.keep (fun p hp => ?_) _ _ hr4)
    rw [grx_cell hm5.2 (Nat.lt_of_lt_of_le hp.2 hGx.size) (by have := hm3.1.lt; omega), hGx.cell hp.2]
  | false =>
    rw [hT] at cI hD
    rw [if_neg (by simp)] at hD
    clear cK4 cC hT
    have hs3 := take_small hsm mileB (takeT ts (wdB wAfter) (takeT ts (kindB 3) s).2).2
    generalize factD ts cond s = o at *
    generalize takeT ts (kindB 3) s = o3 at *
    obtain ⟨⟨k3, x3, n3, a3⟩, s3⟩ := o3
    dsimp only [tkV] at *
    have cW := fun W (hE : EnvS ts L E F W g s3) => snext_word wAfter (by decide) hE
    generalize takeT ts (wdB wAfter) s3 = o4 at *
    obtain ⟨⟨k4, x4, n4, a4⟩, s4⟩ := o4
    dsimp only [tkV] at *
    have cJ := fun W (hE : EnvS ts L E F W g s4) => sis_kind 1 hE
    have cN := fun W (hE : EnvS ts L E F W g s4) => snext_kind 1 hE
    by_cases hbad : ∃ t, s4.err = 0 ∧ 1 ≤ s4.fuel ∧ ts[s4.pos]? = some t ∧ t.kind = 1 ∧ mileD t.text = false
    · obtain ⟨t, t1, t2, t3, t4, t5⟩ := hbad
      have hI4 : isT ts (kindB 1) s4 = true := by unfold isT kindB; rw [decide_eq_true t1, t3]; simp [t4]
      rw [hI4] at cJ
      rw [take_no_mile t1 t2 t3 t5] at hD
      have hb4 : (burnD s4).err = 0 := by unfold burnD; rw [if_pos t1, if_neg (by omega)]; exact t1
      have cBu := fun W (hE : EnvS ts L E F W g s4) => sburn_any hE
      generalize burnD s4 = b4 at *
      subst hD
      have hts := hsm t (List.mem_of_getElem? t3)
      have cWd := fun W => rword_any t.text W (by omega)
      rw [t5] at cWd
      have HE4 := Lib.hid t1
      have HF4 : 0 < s4.fuel := by omega
      have HT4 := Lib.hid t3
      obtain ⟨tk, tx, tn, ta⟩ := t
      dsimp only at *
      clear t1 t3 t4 t5 hI4 cN hs3 hb4 t2
      go_enter Tryz.func85, Tryz.ntmps85
      go_wp2_with (first
        | (go_at_call 44; (with_reducible refine cI.mono ?_); rintro e w2 ⟨rfl, nq, rfl⟩
           have hG2 := Gr.trans hGA (Gr.drewN _ nq)
           have hE2 := h_.gr (Gr.drewN _ nq)
           have hBr2 := hB0.drewN nq)
        | (go_at_call 45; (with_reducible refine (cK3 _ hE2).mono ?_); rintro e w3 ⟨rfl, hm3⟩
           have hGx := Gr.alloc w3 (.cells (tkC k3 x3 n3 a3) 82)
           have hBx := Blk.new w3 82 (tkC k3 x3 n3 a3)
           have hw3 : g < w3.heap.size := hm3.1.lt)
        | (go_at_call 45; (with_reducible refine (cW _ (hm3.1.gr hGx)).mono ?_); rintro e w4 ⟨rfl, hm4⟩
           have hM4 : MadeS ts L E F w g s4 w4 := ((MadeS.after hG2 hm3).gr hGx).tr hm4
           obtain ⟨c0, c1, c2, c3, c4, c5, f1, f3, f4, f5⟩ := hm4.1.cells
           rw [HE4.out] at c4
           have hBr4 : Blk w4 w.heap.size 45 exZ := ((hBr2.x hm3.2 (by omega)).x (GrX.of_gr hGx g) (by omega)).x hm4.2 (by omega)
           have hBx4 : Blk w4 w3.heap.size 82 (tkC k3 x3 n3 a3) := hBx.x hm4.2 (by omega)
           obtain ⟨AL, cL, rfl, hcL⟩ := hm4.1.rd.form
           obtain ⟨ad, P, hAL, eP, hP, k0, k1, k2, k3⟩ := hm4.1.rd.tok s4.pos _ HT4.out
           subst hAL
           have hpl : (s4.pos : Int) < (ts.length : Int) := by have := (List.getElem?_eq_some_iff.1 HT4.out).1; omega
           have hEq := hm4.1))
      have cJn := fun n => cJ _ (hEq.gr (Gr.drewN w4 n))
      go_quiet ((first | (go_at_call 44; exact Calls.quiet_of (cJn _)) | (go_at_call 73; exact quiet_sm_ (cWd _))))
      have hGq := Gr.drewN w4 nq
      have hMq := hM4.gr hGq
      have hEn := hEq.gr hGq
      have hBrq := hBr4.drewN nq
      have hBxq := hBx4.drewN nq
      clear c0 c1 c2 c3 c4 c5 f1 f3 f4 f5 cJn hm3 hm4 hM4 hEq hBr4 hBx4
      generalize w4.drewN nq = wq at *
      go_wp2_with (go_at_call 71; (with_reducible refine (cBu _ hEn).mono ?_); rintro e w6 ⟨⟨v6, rfl⟩, hm6⟩
                   obtain ⟨d0, d1, d2, d3, d4, d5, e1, e3, e4, e5⟩ := hm6.1.cells
                   obtain ⟨hE7, hx7⟩ := hm6.1.setE 2
                   have hM7 : MadeS ts (.slice (some ad) ts.length cL) E F w g { b4 with err := 2 } (w6.setCell ⟨g, 4, none⟩ (.int .i64 2)) := ⟨hE7, GrX.tr hMq.2 (GrX.tr hm6.2 hx7)⟩
                   have hBr7 := (hBrq.x hm6.2 (by omega)).x hx7 (by omega)
                   obtain ⟨r0, r1, r2, r3, q0, q1, q2, q3⟩ := tk_cells hBr7)
      obtain ⟨z0, z1, z2, z3, -⟩ := tk_cells (hBr7.tk4 (y0 := .int .i64 0) (y1 := .int .i64 0) (y2 := .string ⟨#[]⟩) (y3 := .slice none 0 0))
      exact bodyPost_ret (v := .agg exZ) (by simp [results, Tryz.results85, go_sem, z0, z1, z2, z3]) rfl (HF.out _ 0 0 ⟨#[]⟩ none 0 0 Ex.none_ (rd_none _ _) (fun h0 => absurd h0 (by decide)) hM7)
    · have hke : takeT ts (kindB 1) s4 = takeT ts mileB s4 := take_any_word fun t h0 h1 h2 h3 => by
        cases hm : mileD t.text with
        | true => rfl
        | false => exact absurd ⟨t, h0, h1, h2, h3, hm⟩ hbad
      rw [hke] at cN
      have hw4 : ∀ t, s4.err = 0 → 1 ≤ s4.fuel → ts[s4.pos]? = some t → t.kind = 1 → mileD t.text = true := fun t h0 h1 h2 h3 => by
        cases hm : mileD t.text with
        | true => rfl
        | false => exact absurd ⟨t, h0, h1, h2, h3, hm⟩ hbad
      clear hbad hke
      generalize takeT ts mileB s4 = o5 at *
      obtain ⟨⟨k5, x5, n5, a5⟩, s5⟩ := o5
      dsimp only [tkV] at *
      obtain ⟨ox, os⟩ := o
      have HD1 := Lib.hid (congrArg Prod.fst hD)
      have HD2 := congrArg Prod.snd hD
      dsimp only at HD2
      subst HD2
      clear hD
      by_cases h0 : s4.err = 0
      · by_cases h1 : 1 ≤ s4.fuel
        · cases hI4 : isT ts (kindB 1) s4 with
          | true =>
            rw [hI4] at cJ
            obtain ⟨t, t3, t4⟩ : ∃ t, ts[s4.pos]? = some t ∧ t.kind = 1 := by
              unfold isT at hI4
              rw [Bool.and_eq_true] at hI4
              cases ht : ts[s4.pos]? with
              | none => rw [ht] at hI4; exact absurd hI4.2 (by simp)
              | some t => rw [ht] at hI4; exact ⟨t, rfl, by simpa [kindB] using hI4.2⟩
            have t5 := hw4 t h0 h1 t3 t4
            have hts := hsm t (List.mem_of_getElem? t3)
            have cWd := fun W => rword_any t.text W (by omega)
            rw [t5] at cWd
            have HE4 := Lib.hid h0
            have HF4 : 0 < s4.fuel := by omega
            have HT4 := Lib.hid t3
            obtain ⟨tk, tx, tn, ta⟩ := t
            dsimp only at *
            clear h0 h1 t3 t4 t5 hI4 hw4
            go_enter Tryz.func85, Tryz.ntmps85
            go_wp2_with (first
              | (go_at_call 44; (with_reducible refine cI.mono ?_); rintro e w2 ⟨rfl, nq, rfl⟩
                 have hG2 := Gr.trans hGA (Gr.drewN _ nq)
                 have hE2 := h_.gr (Gr.drewN _ nq)
                 have hBr2 := hB0.drewN nq)
              | (go_at_call 45; (with_reducible refine (cK3 _ hE2).mono ?_); rintro e w3 ⟨rfl, hm3⟩
                 have hGx := Gr.alloc w3 (.cells (tkC k3 x3 n3 a3) 82)
                 have hBx := Blk.new w3 82 (tkC k3 x3 n3 a3)
                 have hw3 : g < w3.heap.size := hm3.1.lt)
              | (go_at_call 45; (with_reducible refine (cW _ (hm3.1.gr hGx)).mono ?_); rintro e w4 ⟨rfl, hm4⟩
                 have hM4 : MadeS ts L E F w g s4 w4 := ((MadeS.after hG2 hm3).gr hGx).tr hm4
                 obtain ⟨c0, c1, c2, c3, c4, c5, f1, f3, f4, f5⟩ := hm4.1.cells
                 rw [HE4.out] at c4
                 have hBr4 : Blk w4 w.heap.size 45 exZ := ((hBr2.x hm3.2 (by omega)).x (GrX.of_gr hGx g) (by omega)).x hm4.2 (by omega)
                 have hBx4 : Blk w4 w3.heap.size 82 (tkC k3 x3 n3 a3) := hBx.x hm4.2 (by omega)
                 obtain ⟨AL, cL, rfl, hcL⟩ := hm4.1.rd.form
                 obtain ⟨ad, P, hAL, eP, hP, k0, k1, k2, k3⟩ := hm4.1.rd.tok s4.pos _ HT4.out
                 subst hAL
                 have hpl : (s4.pos : Int) < (ts.length : Int) := by have := (List.getElem?_eq_some_iff.1 HT4.out).1; omega
                 have hEq := hm4.1))
            have cJn := fun n => cJ _ (hEq.gr (Gr.drewN w4 n))
            go_quiet ((first | (go_at_call 44; exact Calls.quiet_of (cJn _)) | (go_at_call 73; exact quiet_sm_ (cWd _))))
            have hGq := Gr.drewN w4 nq
            have hMq := hM4.gr hGq
            have hEn := hEq.gr hGq
            have hBrq := hBr4.drewN nq
            have hBxq := hBx4.drewN nq
            clear c0 c1 c2 c3 c4 c5 f1 f3 f4 f5 cJn hm3 hm4 hM4 hEq hBr4 hBx4
            generalize w4.drewN nq = wq at *
            go_wp2_with (go_at_call 45; (with_reducible refine (cN _ hEn).mono ?_); rintro e w6 ⟨rfl, hm6⟩
                         have hGy := Gr.alloc w6 (.cells (tkC k5 x5 n5 a5) 82)
                         have hM7 : MadeS ts _ E F w g os (w6.alloc (.cells (tkC k5 x5 n5 a5) 82)) := (hMq.tr hm6).gr hGy
                         obtain ⟨u0, u1, u2, u3, -⟩ := tk_cells ((hBxq.x hm6.2 (by omega)).x (GrX.of_gr hGy g) (by omega))
                         obtain ⟨v0, v1, v2, v3, -⟩ := tk_cells (Blk.new w6 82 (tkC k5 x5 n5 a5))
                         have hBr7 := (hBrq.x hm6.2 (by omega)).x (GrX.of_gr hGy g) (by omega)
                         obtain ⟨r0, r1, r2, r3, q0, q1, q2, q3⟩ := tk_cells hBr7)
            obtain ⟨z0, z1, z2, z3, -⟩ := tk_cells (hBr7.tk4 (y0 := .int .i64 1) (y1 := .int .i64 n3) (y2 := .string x5) (y3 := .slice none 0 0))
            exact bodyPost_ret (v := .agg (exC 1 n3 x5 none 0 0)) (by simp [results, Tryz.results85, go_sem, z0, z1, z2, z3]) rfl (HF.out _ 1 n3 x5 none 0 0 (.mk 1 n3 x5 []) (rdx_leaf _ _ _ _ hs3) (fun _ => HD1.out.symm) hM7)
          | false =>
            rw [hI4] at cJ
            have HE4 := Lib.hid h0
            have HF4 : 0 < s4.fuel := by omega
            clear h0 h1 hI4 hw4
            go_enter Tryz.func85, Tryz.ntmps85
            go_wp2_with (first
              | (go_at_call 44; (with_reducible refine cI.mono ?_); rintro e w2 ⟨rfl, nq, rfl⟩
                 have hG2 := Gr.trans hGA (Gr.drewN _ nq)
                 have hE2 := h_.gr (Gr.drewN _ nq)
                 have hBr2 := hB0.drewN nq)
              | (go_at_call 45; (with_reducible refine (cK3 _ hE2).mono ?_); rintro e w3 ⟨rfl, hm3⟩
                 have hGx := Gr.alloc w3 (.cells (tkC k3 x3 n3 a3) 82)
                 have hBx := Blk.new w3 82 (tkC k3 x3 n3 a3)
                 have hw3 : g < w3.heap.size := hm3.1.lt)
              | (go_at_call 45; (with_reducible refine (cW _ (hm3.1.gr hGx)).mono ?_); rintro e w4 ⟨rfl, hm4⟩
                 have hM4 : MadeS ts L E F w g s4 w4 := ((MadeS.after hG2 hm3).gr hGx).tr hm4
                 obtain ⟨c0, c1, c2, c3, c4, c5, f1, f3, f4, f5⟩ := hm4.1.cells
                 rw [HE4.out] at c4
                 have hBr4 : Blk w4 w.heap.size 45 exZ := ((hBr2.x hm3.2 (by omega)).x (GrX.of_gr hGx g) (by omega)).x hm4.2 (by omega)
                 have hBx4 : Blk w4 w3.heap.size 82 (tkC k3 x3 n3 a3) := hBx.x hm4.2 (by omega)
                 have hEq := hm4.1))
            have cJn := fun n => cJ _ (hEq.gr (Gr.drewN w4 n))
            go_quiet ((go_at_call 44; exact Calls.quiet_of (cJn _)))
            have hGq := Gr.drewN w4 nq
            have hMq := hM4.gr hGq
            have hEn := hEq.gr hGq
            have hBrq := hBr4.drewN nq
            have hBxq := hBx4.drewN nq
            clear c0 c1 c2 c3 c4 c5 f1 f3 f4 f5 cJn hm3 hm4 hM4 hEq hBr4 hBx4
            generalize w4.drewN nq = wq at *
            go_wp2_with (go_at_call 45; (with_reducible refine (cN _ hEn).mono ?_); rintro e w6 ⟨rfl, hm6⟩
                         have hGy := Gr.alloc w6 (.cells (tkC k5 x5 n5 a5) 82)
                         have hM7 : MadeS ts _ E F w g os (w6.alloc (.cells (tkC k5 x5 n5 a5) 82)) := (hMq.tr hm6).gr hGy
                         obtain ⟨u0, u1, u2, u3, -⟩ := tk_cells ((hBxq.x hm6.2 (by omega)).x (GrX.of_gr hGy g) (by omega))
                         obtain ⟨v0, v1, v2, v3, -⟩ := tk_cells (Blk.new w6 82 (tkC k5 x5 n5 a5))
                         have hBr7 := (hBrq.x hm6.2 (by omega)).x (GrX.of_gr hGy g) (by omega)
                         obtain ⟨r0, r1, r2, r3, q0, q1, q2, q3⟩ := tk_cells hBr7)
            obtain ⟨z0, z1, z2, z3, -⟩ := tk_cells (hBr7.tk4 (y0 := .int .i64 1) (y1 := .int .i64 n3) (y2 := .string x5) (y3 := .slice none 0 0))
            exact bodyPost_ret (v := .agg (exC 1 n3 x5 none 0 0)) (by simp [results, Tryz.results85, go_sem, z0, z1, z2, z3]) rfl (HF.out _ 1 n3 x5 none 0 0 (.mk 1 n3 x5 []) (rdx_leaf _ _ _ _ hs3) (fun _ => HD1.out.symm) hM7)
        · have HE4 := Lib.hid h0
          have HF4 : ¬ 0 < s4.fuel := by omega
          have HF5 : s4.fuel ≤ 0 := by omega
          have HF6 : decide (0 < s4.fuel) = false := decide_eq_false (by omega)
          clear h0 h1 hw4
          go_enter Tryz.func85, Tryz.ntmps85
          go_wp2_with (first
            | (go_at_call 44; (with_reducible refine cI.mono ?_); rintro e w2 ⟨rfl, nq, rfl⟩
               have hG2 := Gr.trans hGA (Gr.drewN _ nq)
               have hE2 := h_.gr (Gr.drewN _ nq)
               have hBr2 := hB0.drewN nq)
            | (go_at_call 45; (with_reducible refine (cK3 _ hE2).mono ?_); rintro e w3 ⟨rfl, hm3⟩
               have hGx := Gr.alloc w3 (.cells (tkC k3 x3 n3 a3) 82)
               have hBx := Blk.new w3 82 (tkC k3 x3 n3 a3)
               have hw3 : g < w3.heap.size := hm3.1.lt)
            | (go_at_call 45; (with_reducible refine (cW _ (hm3.1.gr hGx)).mono ?_); rintro e w4 ⟨rfl, hm4⟩
               have hM4 : MadeS ts L E F w g s4 w4 := ((MadeS.after hG2 hm3).gr hGx).tr hm4
               obtain ⟨c0, c1, c2, c3, c4, c5, f1, f3, f4, f5⟩ := hm4.1.cells
               rw [HE4.out] at c4
               have hBr4 : Blk w4 w.heap.size 45 exZ := ((hBr2.x hm3.2 (by omega)).x (GrX.of_gr hGx g) (by omega)).x hm4.2 (by omega)
               have hBx4 : Blk w4 w3.heap.size 82 (tkC k3 x3 n3 a3) := hBx.x hm4.2 (by omega)
               have hEq := hm4.1))
          have cJn := fun n => cJ _ (hEq.gr (Gr.drewN w4 n))
          go_quiet ((go_at_call 44; exact Calls.quiet_of (cJn _)))
          have hGq := Gr.drewN w4 nq
          have hMq := hM4.gr hGq
          have hEn := hEq.gr hGq
          have hBrq := hBr4.drewN nq
          have hBxq := hBx4.drewN nq
          clear c0 c1 c2 c3 c4 c5 f1 f3 f4 f5 cJn hm3 hm4 hM4 hEq hBr4 hBx4
          generalize w4.drewN nq = wq at *
          go_wp2_with (go_at_call 45; (with_reducible refine (cN _ hEn).mono ?_); rintro e w6 ⟨rfl, hm6⟩
                       have hGy := Gr.alloc w6 (.cells (tkC k5 x5 n5 a5) 82)
                       have hM7 : MadeS ts _ E F w g os (w6.alloc (.cells (tkC k5 x5 n5 a5) 82)) := (hMq.tr hm6).gr hGy
                       obtain ⟨u0, u1, u2, u3, -⟩ := tk_cells ((hBxq.x hm6.2 (by omega)).x (GrX.of_gr hGy g) (by omega))
                       obtain ⟨v0, v1, v2, v3, -⟩ := tk_cells (Blk.new w6 82 (tkC k5 x5 n5 a5))
                       have hBr7 := (hBrq.x hm6.2 (by omega)).x (GrX.of_gr hGy g) (by omega)
                       obtain ⟨r0, r1, r2, r3, q0, q1, q2, q3⟩ := tk_cells hBr7)
          obtain ⟨z0, z1, z2, z3, -⟩ := tk_cells (hBr7.tk4 (y0 := .int .i64 1) (y1 := .int .i64 n3) (y2 := .string x5) (y3 := .slice none 0 0))
          exact bodyPost_ret (v := .agg (exC 1 n3 x5 none 0 0)) (by simp [results, Tryz.results85, go_sem, z0, z1, z2, z3]) rfl (HF.out _ 1 n3 x5 none 0 0 (.mk 1 n3 x5 []) (rdx_leaf _ _ _ _ hs3) (fun _ => HD1.out.symm) hM7)
      · have n1 : (s4.err == 0) = false := by simp [h0]
        have n2 : decide (s4.err = 0) = false := decide_eq_false h0
        clear h0 hw4
        go_enter Tryz.func85, Tryz.ntmps85
        go_wp2_with (first
          | (go_at_call 44; (with_reducible refine cI.mono ?_); rintro e w2 ⟨rfl, nq, rfl⟩
             have hG2 := Gr.trans hGA (Gr.drewN _ nq)
             have hE2 := h_.gr (Gr.drewN _ nq)
             have hBr2 := hB0.drewN nq)
          | (go_at_call 45; (with_reducible refine (cK3 _ hE2).mono ?_); rintro e w3 ⟨rfl, hm3⟩
             have hGx := Gr.alloc w3 (.cells (tkC k3 x3 n3 a3) 82)
             have hBx := Blk.new w3 82 (tkC k3 x3 n3 a3)
             have hw3 : g < w3.heap.size := hm3.1.lt)
          | (go_at_call 45; (with_reducible refine (cW _ (hm3.1.gr hGx)).mono ?_); rintro e w4 ⟨rfl, hm4⟩
             have hM4 : MadeS ts L E F w g s4 w4 := ((MadeS.after hG2 hm3).gr hGx).tr hm4
             obtain ⟨c0, c1, c2, c3, c4, c5, f1, f3, f4, f5⟩ := hm4.1.cells
             have hBr4 : Blk w4 w.heap.size 45 exZ := ((hBr2.x hm3.2 (by omega)).x (GrX.of_gr hGx g) (by omega)).x hm4.2 (by omega)
             have hBx4 : Blk w4 w3.heap.size 82 (tkC k3 x3 n3 a3) := hBx.x hm4.2 (by omega)
             have hEq := hm4.1))
        have cJn := fun n => cJ _ (hEq.gr (Gr.drewN w4 n))
        go_quiet ((go_at_call 44; exact Calls.quiet_of (cJn _)))
        have hGq := Gr.drewN w4 nq
        have hMq := hM4.gr hGq
        have hEn := hEq.gr hGq
        have hBrq := hBr4.drewN nq
        have hBxq := hBx4.drewN nq
        clear c0 c1 c2 c3 c4 c5 f1 f3 f4 f5 cJn hm3 hm4 hM4 hEq hBr4 hBx4
        generalize w4.drewN nq = wq at *
        go_wp2_with (go_at_call 45; (with_reducible refine (cN _ hEn).mono ?_); rintro e w6 ⟨rfl, hm6⟩
                     have hGy := Gr.alloc w6 (.cells (tkC k5 x5 n5 a5) 82)
                     have hM7 : MadeS ts _ E F w g os (w6.alloc (.cells (tkC k5 x5 n5 a5) 82)) := (hMq.tr hm6).gr hGy
                     obtain ⟨u0, u1, u2, u3, -⟩ := tk_cells ((hBxq.x hm6.2 (by omega)).x (GrX.of_gr hGy g) (by omega))
                     obtain ⟨v0, v1, v2, v3, -⟩ := tk_cells (Blk.new w6 82 (tkC k5 x5 n5 a5))
                     have hBr7 := (hBrq.x hm6.2 (by omega)).x (GrX.of_gr hGy g) (by omega)
                     obtain ⟨r0, r1, r2, r3, q0, q1, q2, q3⟩ := tk_cells hBr7)
        obtain ⟨z0, z1, z2, z3, -⟩ := tk_cells (hBr7.tk4 (y0 := .int .i64 1) (y1 := .int .i64 n3) (y2 := .string x5) (y3 := .slice none 0 0))
        exact bodyPost_ret (v := .agg (exC 1 n3 x5 none 0 0)) (by simp [results, Tryz.results85, go_sem, z0, z1, z2, z3]) rfl (HF.out _ 1 n3 x5 none 0 0 (.mk 1 n3 x5 []) (rdx_leaf _ _ _ _ hs3) (fun _ => HD1.out.symm) hM7)
theorem scond_any : ∀ (K : Nat) (w : World) (s : Pst) (d : Int), K ≤ 8 → d = 9 - (K : Int) → EnvS ts L E F w g s → Calls Tryz.prog 46 #[.pointer (some ⟨g, 0, none⟩), .int .i64 d] w (PXS ts L E F w g (condD ts K s))
  | 0, w, s, d, _, hd, h => by
    obtain rfl : d = 9 := by omega
    rw [condD]
    by_cases he : (burnD s).err = 0
    · exact scond_deep h he
    · rw [show failD 2 (burnD s) = burnD s by unfold failD; rw [if_neg he]]
      exact scond_no 9 h he
  | K + 1, w, s, d, hK, hd, h => by
    rw [condD]
    by_cases he : (burnD s).err = 0
    · rw [if_neg (by omega)]
      have g0 := factD_goes (ts := ts) (condD_goes ts K)
      exact scond_yes d (by omega) (sevD ts (factD ts (condD ts K)) 3 wAnd) (sevD_goes g0 3 wAnd) (fun W s hE => sterm_any d (factD ts (condD ts K)) g0 (fun W s hE => sfact_any d (d + 1) rfl (by omega) (by omega) (condD ts K) (fun W s hE => scond_any K W s (d + 1) (by omega) (by omega) hE) hE) hE) h he
    · rw [if_pos he]
      exact scond_no d h he
end
end Go.Proofs.YtogpmihepfnoaaaGreatDoor

namespace Go.Proofs.YtogpmihepfnoaaaGreatDoor
open Go Go.RowKit Go.Sort

/-- What a method that reads a rule makes. -/
def PRuS (ts : List Tk) (L : Value) (E F : Int) (w : World) (g : Nat) (o : Ru × Pst) (e : Ending) (w' : World) : Prop :=
  ∃ (o_ d_ : Int) (m_ : ByteArray) (A_ : Option Addr) (n_ c_ : Nat) (cl : ByteArray) (x : Ex) (ac : Int), e = .returned (.agg #[.string cl, .int .i64 o_, .int .i64 d_, .string m_, .slice A_ n_ c_, .int .i64 ac]) ∧ cl.size ≤ 600 ∧ RdEx w' (fun b => w.heap.size ≤ b ∧ b < w'.heap.size) x (.agg (exC o_ d_ m_ A_ n_ c_)) ∧ (o.2.err = 0 → (⟨cl, x, ac⟩ : Ru) = o.1) ∧ MadeS ts L E F w g o.2 w'
section
variable {ts : List Tk} {L : Value} {E F : Int} {w w' : World} {g : Nat} {s : Pst}
theorem MadeS.set6 {w1 : World} {s1 : Pst} (h : MadeS ts L E F w g s1 w1) (hg : g < w.heap.size) {r : Nat} (hr : w.heap.size ≤ r) (y0 y1 y2 y3 y4 y5 : Value) : MadeS ts L E F w g s1 (set6w w1 r y0 y1 y2 y3 y4 y5) :=
  (((((h.far hg hr y0).far hg hr y1).far hg hr y2).far hg hr y3).far hg hr y4).far hg hr y5
theorem MadeS.set4at1 {w1 : World} {s1 : Pst} (h : MadeS ts L E F w g s1 w1) (hg : g < w.heap.size) {r : Nat} (hr : w.heap.size ≤ r) (y0 y1 y2 y3 : Value) : MadeS ts L E F w g s1 (set4at1 w1 r y0 y1 y2 y3) :=
  (((h.far hg hr y0).far hg hr y1).far hg hr y2).far hg hr y3
set_option maxRecDepth 100000 in
set_option maxHeartbeats 16000000 in
theorem srule_any (h : EnvS ts L E F w g s) : Calls Tryz.prog 27 #[.pointer (some ⟨g, 0, none⟩)] w (PRuS ts L E F w g (ruleD ts s)) := by
  have hgl := h.lt
  have hsm := h.small
  obtain ⟨W0, hW0⟩ : ∃ W0, (w.alloc (.cells (ruC ⟨#[]⟩ 0 0 ⟨#[]⟩ none 0 0 0) 47)).alloc (.cells (ruC ⟨#[]⟩ 0 0 ⟨#[]⟩ none 0 0 0) 47) = W0 := ⟨_, rfl⟩
  have hGA : Gr w W0 := by rw [← hW0]; exact Gr.trans (Gr.alloc _ _) (Gr.alloc _ _)
  have hB2 : Blk W0 w.heap.size 47 (ruC ⟨#[]⟩ 0 0 ⟨#[]⟩ none 0 0 0) := by rw [← hW0]; exact (Blk.new w _ _).alloc _
  have hB3 : Blk W0 (w.heap.size + 1) 47 (ruC ⟨#[]⟩ 0 0 ⟨#[]⟩ none 0 0 0) := by
    rw [← hW0]
    have := Blk.new (w.alloc (.cells (ruC ⟨#[]⟩ 0 0 ⟨#[]⟩ none 0 0 0) 47)) 47 (ruC ⟨#[]⟩ 0 0 ⟨#[]⟩ none 0 0 0)
    rwa [show (w.alloc (.cells (ruC ⟨#[]⟩ 0 0 ⟨#[]⟩ none 0 0 0) 47)).heap.size = w.heap.size + 1 by simp] at this
  have hs2 : W0.heap.size = w.heap.size + 2 := by rw [← hW0]; simp
  have hE0 := h.gr hGA
  have cI := sis_word wClass (by decide) hE0
  have hcl : (classD ts s).1.size ≤ 600 := by
    unfold classD
    split
    · exact take_small hsm _ _
    · exact Nat.zero_le _
  have cC1 := fun W (hE : EnvS ts L E F W g s) => snext_word wClass (by decide) hE
  have cC2 := fun W (hE : EnvS ts L E F W g (takeT ts (wdB wClass) s).2) => snext_kind 2 hE
  have cC3 := fun W (hE : EnvS ts L E F W g s) => snext_word wDefault (by decide) hE
  have cK := fun W (hE : EnvS ts L E F W g (classD ts s).2) => snext_word wKeep (by decide) hE
  have cX := fun W (hE : EnvS ts L E F W g (takeT ts (wdB wKeep) (classD ts s).2).2) => scond_any 8 W _ 1 (Nat.le_refl _) (by decide) hE
  have cT := fun W (hE : EnvS ts L E F W g (condD ts 8 (takeT ts (wdB wKeep) (classD ts s).2).2).2) => snext_word wThen (by decide) hE
  have hok : (takeT ts (kindB 6) (actD ts (takeT ts (wdB wThen) (condD ts 8 (takeT ts (wdB wKeep) (classD ts s).2).2).2).2).2).2.err = 0 → (condD ts 8 (takeT ts (wdB wKeep) (classD ts s).2).2).2.err = 0 := fun h0 => (take_goes ts _ _).ok ((actD_goes ts _).ok ((take_goes ts _ _).ok h0))
  have hD : ruleD ts s = (⟨(classD ts s).1, (condD ts 8 (takeT ts (wdB wKeep) (classD ts s).2).2).1, (actD ts (takeT ts (wdB wThen) (condD ts 8 (takeT ts (wdB wKeep) (classD ts s).2).2).2).2).1⟩, (takeT ts (kindB 6) (actD ts (takeT ts (wdB wThen) (condD ts 8 (takeT ts (wdB wKeep) (classD ts s).2).2).2).2).2).2) := rfl
  have hCl : classD ts s = if isT ts (wdB wClass) s then ((takeT ts (kindB 2) (takeT ts (wdB wClass) s).2).1.text, (takeT ts (kindB 2) (takeT ts (wdB wClass) s).2).2) else (⟨#[]⟩, (takeT ts (wdB wDefault) s).2) := rfl
  rw [hD]
  clear hD
  generalize classD ts s = o1 at *
  obtain ⟨cl, s1⟩ := o1
  generalize takeT ts (wdB wKeep) (cl, s1).2 = o2 at *
  obtain ⟨⟨k2, x2, n2, a2⟩, s2⟩ := o2
  unfold PXS at cX
  dsimp only at *
  generalize condD ts 8 s2 = o3 at *
  obtain ⟨xc, s3⟩ := o3
  generalize takeT ts (wdB wThen) (xc, s3).2 = o4 at *
  obtain ⟨⟨k4, x4, n4, a4⟩, s4⟩ := o4
  dsimp only at *
  have cD1 := fun W (hE : EnvS ts L E F W g s4) => sis_word wDestroy (by decide) hE
  have cD2 := fun W (hE : EnvS ts L E F W g s4) => sis_word wReview (by decide) hE
  have cA1 := fun W (hE : EnvS ts L E F W g s4) => snext_word wDestroy (by decide) hE
  have cA2 := fun W (hE : EnvS ts L E F W g s4) => snext_word wReview (by decide) hE
  have cA3 := fun W (hE : EnvS ts L E F W g s4) => snext_word wKeep (by decide) hE
  have hAc : actD ts s4 = if isT ts (wdB wDestroy) s4 then (1, (takeT ts (wdB wDestroy) s4).2) else if isT ts (wdB wReview) s4 then (2, (takeT ts (wdB wReview) s4).2) else (3, (takeT ts (wdB wKeep) s4).2) := rfl
  have cE := fun W (hE : EnvS ts L E F W g (actD ts s4).2) => snext_kind 6 hE
  generalize actD ts s4 = o5 at *
  obtain ⟨ac, s5⟩ := o5
  generalize takeT ts (kindB 6) (ac, s5).2 = o6 at *
  obtain ⟨⟨k6, x6, n6, a6⟩, s6⟩ := o6
  dsimp only [tkV] at *
  have hfin : ∀ (W : World) (o_ d_ : Int) (m_ : ByteArray) (A_ : Option Addr) (n_ c_ : Nat) (x : Ex), RdEx W (fun b => w.heap.size + 2 ≤ b ∧ b < W.heap.size) x (.agg (exC o_ d_ m_ A_ n_ c_)) → (s3.err = 0 → x = xc) → MadeS ts L E F w g s6 W →
      PRuS ts L E F w g (⟨cl, xc, ac⟩, s6) (.returned (.agg (ruC cl o_ d_ m_ A_ n_ c_ ac))) (set6w W w.heap.size (.string cl) (.int .i64 o_) (.int .i64 d_) (.string m_) (.slice A_ n_ c_) (.int .i64 ac)) := by
    intro W o_ d_ m_ A_ n_ c_ x hr he hm
    refine ⟨o_, d_, m_, A_, n_, c_, cl, x, ac, rfl, hcl, ?_, fun h0 => by rw [he (hok h0)], hm.set6 hgl (Nat.le_refl _) _ _ _ _ _ _⟩
    exact RdEx.mono (fun b hb => ⟨by omega, by simpa [set6w, World.setCell] using hb.2⟩) _ _ (RdEx.keep (fun p hp => set6_far (by omega) _ _ _ _ _ _) _ _ hr)
  have HF := Lib.hid hfin
  generalize PRuS ts L E F w g (⟨cl, xc, ac⟩, s6) = Post at *
  generalize takeT ts (wdB wClass) s = oc at *
  obtain ⟨⟨kc, xc_, nc, ac_⟩, sc⟩ := oc
  generalize takeT ts (wdB wDefault) s = od at *
  obtain ⟨⟨kd, xd, nd, ad_⟩, sd⟩ := od
  generalize takeT ts (wdB wDestroy) s4 = oe at *
  obtain ⟨⟨ke, xe, ne, ae⟩, se⟩ := oe
  generalize takeT ts (wdB wReview) s4 = of_ at *
  obtain ⟨⟨kf, xf, nf, af⟩, sf⟩ := of_
  generalize takeT ts (wdB wKeep) s4 = og at *
  obtain ⟨⟨kg, xg, ng, ag⟩, sg⟩ := og
  dsimp only at *
  generalize takeT ts (kindB 2) sc = oq at *
  obtain ⟨⟨kq, xq, nq_, aq⟩, sq⟩ := oq
  dsimp only at *
  generalize isT ts (wdB wClass) s = bC at *
  generalize isT ts (wdB wDestroy) s4 = bD at *
  generalize isT ts (wdB wReview) s4 = bR at *
  clear hok hfin h
  have hfd : ∀ w : World, (Instr.field 82 (.agg #[.int .i64 kq, .string xq, .int .i64 nq_, .int .i64 aq]) 1).run Tryz.prog w = .ok (.string xq) w := fun _ => by kernel_rfl
  have hwC : (bC = true ∧ cl = xq ∧ s1 = sq) ∨ (bC = false ∧ cl = ⟨#[]⟩ ∧ s1 = sd) := by
    cases bC
    · exact .inr ⟨rfl, congrArg Prod.fst hCl, congrArg Prod.snd hCl⟩
    · exact .inl ⟨rfl, congrArg Prod.fst hCl, congrArg Prod.snd hCl⟩
  have hwA : (bD = true ∧ ac = 1 ∧ s5 = se) ∨ (bD = false ∧ bR = true ∧ ac = 2 ∧ s5 = sf) ∨ (bD = false ∧ bR = false ∧ ac = 3 ∧ s5 = sg) := by
    cases bD
    · cases bR
      · exact .inr (.inr ⟨rfl, rfl, congrArg Prod.fst hAc, congrArg Prod.snd hAc⟩)
      · exact .inr (.inl ⟨rfl, rfl, congrArg Prod.fst hAc, congrArg Prod.snd hAc⟩)
    · exact .inl ⟨rfl, congrArg Prod.fst hAc, congrArg Prod.snd hAc⟩
  have HW0 := Lib.hid hW0
  clear hCl hAc hW0
  rcases hwC with ⟨rfl, rfl, rfl⟩ | ⟨rfl, rfl, rfl⟩
  all_goals (rcases hwA with ⟨rfl, rfl, rfl⟩ | ⟨rfl, rfl, rfl, rfl⟩ | ⟨rfl, rfl, rfl, rfl⟩)
  · go_enter Tryz.func27, Tryz.ntmps27
    go_wp2_with (first
      | (go_at_call 44; rw [HW0.out]; (with_reducible refine cI.mono ?_); rintro e w0 ⟨rfl, nq0, rfl⟩
         have hG0 := Gr.trans hGA (Gr.drewN W0 nq0))
      | (go_at_call 45; (with_reducible refine (cC1 _ (hE0.gr (Gr.drewN _ nq0))).mono ?_); rintro e w1 ⟨rfl, hm1⟩)
      | (go_at_call 45; (with_reducible refine (cC2 _ hm1.1).mono ?_); rintro e w2 ⟨rfl, hm2⟩
         have hMc := MadeS.after hG0 (hm1.tr hm2)
         have hB2a := ((hB2.drewN nq0).x hm1.2 (by omega)).x hm2.2 (by omega)
         have hB3a := ((hB3.drewN nq0).x hm1.2 (by omega)).x hm2.2 (by omega)
         obtain ⟨r0, r1, r2, r3, r4, r5, q0, q1, q2, q3, q4, q5⟩ := six_all hB3a
         have hM1 := hMc.far hgl (p := ⟨w.heap.size + 1, 0, none⟩) (Nat.le_succ _) (.string cl)
         have hB3b : Blk (w2.setCell ⟨w.heap.size + 1, 0, none⟩ (.string cl)) (w.heap.size + 1) 47 (ruC cl 0 0 ⟨#[]⟩ none 0 0 0) := by simpa using hB3a.set_ 0 (.string cl)
         have hB2b := hB2a.far (p := ⟨w.heap.size + 1, 0, none⟩) (by show w.heap.size ≠ w.heap.size + 1; omega) (.string cl)
         have hsz1 : w.heap.size + 2 ≤ (w2.setCell ⟨w.heap.size + 1, 0, none⟩ (.string cl)).heap.size := by have h1 := hm1.2.size; have h2 := hm2.2.size; simp [World.setCell] at h1 h2 ⊢; omega)
      | (go_at_call 45; (with_reducible refine (cK _ hM1.1).mono ?_); rintro e w3 ⟨rfl, hm3⟩)
      | (go_at_call 46; (with_reducible refine (cX _ hm3.1).mono ?_); rintro e w4 ⟨o_, d_, m_, A_, n_, c_, x, rfl, hr4, he4, hm4⟩
         have hB2c := (hB2b.x hm3.2 (by omega)).x hm4.2 (by omega)
         have hB3c := (hB3b.x hm3.2 (by omega)).x hm4.2 (by omega)
         obtain ⟨r6, r7, r8, r9, r10, r11, q6, q7, q8, q9, q10, q11⟩ := six_all hB3c
         have hM4 := ((hM1.tr hm3).tr hm4).set4at1 hgl (r := w.heap.size + 1) (Nat.le_succ _) (.int .i64 o_) (.int .i64 d_) (.string m_) (.slice A_ n_ c_)
         have hw3 : w.heap.size + 2 ≤ w3.heap.size := Nat.le_trans hsz1 hm3.2.size)
      | (go_at_call 45; (with_reducible refine (cT _ hM4.1).mono ?_); rintro e w5 ⟨rfl, hm5⟩
         have hM5 := hM4.tr hm5
         have hB2d := (hB2c.far4at1 (g := w.heap.size + 1) (y1 := .int .i64 o_) (y2 := .int .i64 d_) (y3 := .string m_) (y4 := .slice A_ n_ c_) (by omega)).x hm5.2 (by omega)
         have hB3d := (hB3c.put4at1 (y1 := .int .i64 o_) (y2 := .int .i64 d_) (y3 := .string m_) (y4 := .slice A_ n_ c_)).x hm5.2 (by omega))
      | (go_at_call 44; (with_reducible refine (cD1 _ hM5.1).mono ?_); rintro e w6 ⟨rfl, nq1, rfl⟩
         have hM6 := hM5.gr (Gr.drewN w5 nq1)
         have hB2e := hB2d.drewN nq1
         have hB3e := hB3d.drewN nq1
         obtain ⟨r12, r13, r14, r15, r16, r17, q12, q13, q14, q15, q16, q17⟩ := six_all hB3e
         have hM8 := hM6.far hgl (p := ⟨w.heap.size + 1, 5, none⟩) (Nat.le_succ _) (.int .i64 1)
         have hB3g : Blk ((w5.drewN nq1).setCell ⟨w.heap.size + 1, 5, none⟩ (.int .i64 1)) (w.heap.size + 1) 47 (ruC cl o_ d_ m_ A_ n_ c_ 1) := by simpa using hB3e.set_ 5 (.int .i64 1)
         have hB2g := hB2e.far (p := ⟨w.heap.size + 1, 5, none⟩) (by show w.heap.size ≠ w.heap.size + 1; omega) (.int .i64 1))
      | (go_at_call 45; (with_reducible refine (cA1 _ hM8.1).mono ?_); rintro e w9 ⟨rfl, hm9⟩
         have hM9 := hM8.tr hm9
         have hB2h := hB2g.x hm9.2 (by omega)
         have hB3h := hB3g.x hm9.2 (by omega))
      | (go_at_call 45; (with_reducible refine (cE _ hM9.1).mono ?_); rintro e w10 ⟨rfl, hm10⟩
         have hB2i := hB2h.x hm10.2 (by omega)
         have hB3i := hB3h.x hm10.2 (by omega)
         obtain ⟨r24, r25, r26, r27, r28, r29, q24, q25, q26, q27, q28, q29⟩ := six_all hB3i
         obtain ⟨r30, r31, r32, r33, r34, r35, q30, q31, q32, q33, q34, q35⟩ := six_all hB2i))
    obtain ⟨z0, z1, z2, z3, z4, z5, -⟩ := six_all (hB2i.put6 (y0 := .string cl) (y1 := .int .i64 o_) (y2 := .int .i64 d_) (y3 := .string m_) (y4 := .slice A_ n_ c_) (y5 := .int .i64 1))
    refine bodyPost_ret (v := .agg (ruC cl o_ d_ m_ A_ n_ c_ 1)) (by simp [results, Tryz.results27, go_sem, z0, z1, z2, z3, z4, z5]) rfl (HF.out w10 o_ d_ m_ A_ n_ c_ x ?_ he4 (hM9.tr hm10))
    have hsz5 : w4.heap.size ≤ w5.heap.size := by have h5 := hm5.2.size; simp [set4at1, World.setCell] at h5; omega
    have hsz9 : w5.heap.size ≤ w9.heap.size := by have h9 := hm9.2.size; simp [World.setCell] at h9; omega
    have hsz10 := hm10.2.size
    refine RdEx.mono (fun b hb => ⟨by omega, by omega⟩) _ _ (RdEx.keep (fun p hp => ?_) _ _ hr4)
    have hgp : p.block ≠ g := by omega
    have hp4 : p.block < (set4at1 w4 (w.heap.size + 1) (.int .i64 o_) (.int .i64 d_) (.string m_) (.slice A_ n_ c_)).heap.size := by simpa [set4at1, World.setCell] using hp.2
    have hp5 : p.block < ((w5.drewN nq1).setCell ⟨w.heap.size + 1, 5, none⟩ (.int .i64 1)).heap.size := by simp [World.setCell]; omega
    rw [grx_cell hm10.2 (by omega) hgp, grx_cell hm9.2 hp5 hgp, cell_far (by show p.block ≠ w.heap.size + 1; omega)]
    show w5.cell? p = _
    rw [grx_cell hm5.2 hp4 hgp, set4at1_far (by omega)]
  · go_enter Tryz.func27, Tryz.ntmps27
    go_wp2_with (first
      | (go_at_call 44; rw [HW0.out]; (with_reducible refine cI.mono ?_); rintro e w0 ⟨rfl, nq0, rfl⟩
         have hG0 := Gr.trans hGA (Gr.drewN W0 nq0))
      | (go_at_call 45; (with_reducible refine (cC1 _ (hE0.gr (Gr.drewN _ nq0))).mono ?_); rintro e w1 ⟨rfl, hm1⟩)
      | (go_at_call 45; (with_reducible refine (cC2 _ hm1.1).mono ?_); rintro e w2 ⟨rfl, hm2⟩
         have hMc := MadeS.after hG0 (hm1.tr hm2)
         have hB2a := ((hB2.drewN nq0).x hm1.2 (by omega)).x hm2.2 (by omega)
         have hB3a := ((hB3.drewN nq0).x hm1.2 (by omega)).x hm2.2 (by omega)
         obtain ⟨r0, r1, r2, r3, r4, r5, q0, q1, q2, q3, q4, q5⟩ := six_all hB3a
         have hM1 := hMc.far hgl (p := ⟨w.heap.size + 1, 0, none⟩) (Nat.le_succ _) (.string cl)
         have hB3b : Blk (w2.setCell ⟨w.heap.size + 1, 0, none⟩ (.string cl)) (w.heap.size + 1) 47 (ruC cl 0 0 ⟨#[]⟩ none 0 0 0) := by simpa using hB3a.set_ 0 (.string cl)
         have hB2b := hB2a.far (p := ⟨w.heap.size + 1, 0, none⟩) (by show w.heap.size ≠ w.heap.size + 1; omega) (.string cl)
         have hsz1 : w.heap.size + 2 ≤ (w2.setCell ⟨w.heap.size + 1, 0, none⟩ (.string cl)).heap.size := by have h1 := hm1.2.size; have h2 := hm2.2.size; simp [World.setCell] at h1 h2 ⊢; omega)
      | (go_at_call 45; (with_reducible refine (cK _ hM1.1).mono ?_); rintro e w3 ⟨rfl, hm3⟩)
      | (go_at_call 46; (with_reducible refine (cX _ hm3.1).mono ?_); rintro e w4 ⟨o_, d_, m_, A_, n_, c_, x, rfl, hr4, he4, hm4⟩
         have hB2c := (hB2b.x hm3.2 (by omega)).x hm4.2 (by omega)
         have hB3c := (hB3b.x hm3.2 (by omega)).x hm4.2 (by omega)
         obtain ⟨r6, r7, r8, r9, r10, r11, q6, q7, q8, q9, q10, q11⟩ := six_all hB3c
         have hM4 := ((hM1.tr hm3).tr hm4).set4at1 hgl (r := w.heap.size + 1) (Nat.le_succ _) (.int .i64 o_) (.int .i64 d_) (.string m_) (.slice A_ n_ c_)
         have hw3 : w.heap.size + 2 ≤ w3.heap.size := Nat.le_trans hsz1 hm3.2.size)
      | (go_at_call 45; (with_reducible refine (cT _ hM4.1).mono ?_); rintro e w5 ⟨rfl, hm5⟩
         have hM5 := hM4.tr hm5
         have hB2d := (hB2c.far4at1 (g := w.heap.size + 1) (y1 := .int .i64 o_) (y2 := .int .i64 d_) (y3 := .string m_) (y4 := .slice A_ n_ c_) (by omega)).x hm5.2 (by omega)
         have hB3d := (hB3c.put4at1 (y1 := .int .i64 o_) (y2 := .int .i64 d_) (y3 := .string m_) (y4 := .slice A_ n_ c_)).x hm5.2 (by omega))
      | (go_at_call 44; (with_reducible refine (cD1 _ hM5.1).mono ?_); rintro e w6 ⟨rfl, nq1, rfl⟩
         have hM6 := hM5.gr (Gr.drewN w5 nq1)
         have hB2e := hB2d.drewN nq1
         have hB3e := hB3d.drewN nq1
         obtain ⟨r12, r13, r14, r15, r16, r17, q12, q13, q14, q15, q16, q17⟩ := six_all hB3e)
      | (go_at_call 44; (with_reducible refine (cD2 _ hM6.1).mono ?_); rintro e w7 ⟨rfl, nq2, rfl⟩
         have hM7 := hM5.gr (Gr.drewN w5 (nq1 + nq2))
         have hB2f := hB2d.drewN (nq1 + nq2)
         have hB3f := hB3d.drewN (nq1 + nq2)
         obtain ⟨r18, r19, r20, r21, r22, r23, q18, q19, q20, q21, q22, q23⟩ := six_all hB3f
         have hM8 := hM7.far hgl (p := ⟨w.heap.size + 1, 5, none⟩) (Nat.le_succ _) (.int .i64 2)
         have hB3g : Blk ((w5.drewN (nq1 + nq2)).setCell ⟨w.heap.size + 1, 5, none⟩ (.int .i64 2)) (w.heap.size + 1) 47 (ruC cl o_ d_ m_ A_ n_ c_ 2) := by simpa using hB3f.set_ 5 (.int .i64 2)
         have hB2g := hB2f.far (p := ⟨w.heap.size + 1, 5, none⟩) (by show w.heap.size ≠ w.heap.size + 1; omega) (.int .i64 2))
      | (go_at_call 45; (with_reducible refine (cA2 _ hM8.1).mono ?_); rintro e w9 ⟨rfl, hm9⟩
         have hM9 := hM8.tr hm9
         have hB2h := hB2g.x hm9.2 (by omega)
         have hB3h := hB3g.x hm9.2 (by omega))
      | (go_at_call 45; (with_reducible refine (cE _ hM9.1).mono ?_); rintro e w10 ⟨rfl, hm10⟩
         have hB2i := hB2h.x hm10.2 (by omega)
         have hB3i := hB3h.x hm10.2 (by omega)
         obtain ⟨r24, r25, r26, r27, r28, r29, q24, q25, q26, q27, q28, q29⟩ := six_all hB3i
         obtain ⟨r30, r31, r32, r33, r34, r35, q30, q31, q32, q33, q34, q35⟩ := six_all hB2i))
    obtain ⟨z0, z1, z2, z3, z4, z5, -⟩ := six_all (hB2i.put6 (y0 := .string cl) (y1 := .int .i64 o_) (y2 := .int .i64 d_) (y3 := .string m_) (y4 := .slice A_ n_ c_) (y5 := .int .i64 2))
    refine bodyPost_ret (v := .agg (ruC cl o_ d_ m_ A_ n_ c_ 2)) (by simp [results, Tryz.results27, go_sem, z0, z1, z2, z3, z4, z5]) rfl (HF.out w10 o_ d_ m_ A_ n_ c_ x ?_ he4 (hM9.tr hm10))
    have hsz5 : w4.heap.size ≤ w5.heap.size := by have h5 := hm5.2.size; simp [set4at1, World.setCell] at h5; omega
    have hsz9 : w5.heap.size ≤ w9.heap.size := by have h9 := hm9.2.size; simp [World.setCell] at h9; omega
    have hsz10 := hm10.2.size
    refine RdEx.mono (fun b hb => ⟨by omega, by omega⟩) _ _ (RdEx.keep (fun p hp => ?_) _ _ hr4)
    have hgp : p.block ≠ g := by omega
    have hp4 : p.block < (set4at1 w4 (w.heap.size + 1) (.int .i64 o_) (.int .i64 d_) (.string m_) (.slice A_ n_ c_)).heap.size := by simpa [set4at1, World.setCell] using hp.2
    have hp5 : p.block < ((w5.drewN (nq1 + nq2)).setCell ⟨w.heap.size + 1, 5, none⟩ (.int .i64 2)).heap.size := by simp [World.setCell]; omega
    rw [grx_cell hm10.2 (by omega) hgp, grx_cell hm9.2 hp5 hgp, cell_far (by show p.block ≠ w.heap.size + 1; omega)]
    show w5.cell? p = _
    rw [grx_cell hm5.2 hp4 hgp, set4at1_far (by omega)]
  · go_enter Tryz.func27, Tryz.ntmps27
    go_wp2_with (first
      | (go_at_call 44; rw [HW0.out]; (with_reducible refine cI.mono ?_); rintro e w0 ⟨rfl, nq0, rfl⟩
         have hG0 := Gr.trans hGA (Gr.drewN W0 nq0))
      | (go_at_call 45; (with_reducible refine (cC1 _ (hE0.gr (Gr.drewN _ nq0))).mono ?_); rintro e w1 ⟨rfl, hm1⟩)
      | (go_at_call 45; (with_reducible refine (cC2 _ hm1.1).mono ?_); rintro e w2 ⟨rfl, hm2⟩
         have hMc := MadeS.after hG0 (hm1.tr hm2)
         have hB2a := ((hB2.drewN nq0).x hm1.2 (by omega)).x hm2.2 (by omega)
         have hB3a := ((hB3.drewN nq0).x hm1.2 (by omega)).x hm2.2 (by omega)
         obtain ⟨r0, r1, r2, r3, r4, r5, q0, q1, q2, q3, q4, q5⟩ := six_all hB3a
         have hM1 := hMc.far hgl (p := ⟨w.heap.size + 1, 0, none⟩) (Nat.le_succ _) (.string cl)
         have hB3b : Blk (w2.setCell ⟨w.heap.size + 1, 0, none⟩ (.string cl)) (w.heap.size + 1) 47 (ruC cl 0 0 ⟨#[]⟩ none 0 0 0) := by simpa using hB3a.set_ 0 (.string cl)
         have hB2b := hB2a.far (p := ⟨w.heap.size + 1, 0, none⟩) (by show w.heap.size ≠ w.heap.size + 1; omega) (.string cl)
         have hsz1 : w.heap.size + 2 ≤ (w2.setCell ⟨w.heap.size + 1, 0, none⟩ (.string cl)).heap.size := by have h1 := hm1.2.size; have h2 := hm2.2.size; simp [World.setCell] at h1 h2 ⊢; omega)
      | (go_at_call 45; (with_reducible refine (cK _ hM1.1).mono ?_); rintro e w3 ⟨rfl, hm3⟩)
      | (go_at_call 46; (with_reducible refine (cX _ hm3.1).mono ?_); rintro e w4 ⟨o_, d_, m_, A_, n_, c_, x, rfl, hr4, he4, hm4⟩
         have hB2c := (hB2b.x hm3.2 (by omega)).x hm4.2 (by omega)
         have hB3c := (hB3b.x hm3.2 (by omega)).x hm4.2 (by omega)
         obtain ⟨r6, r7, r8, r9, r10, r11, q6, q7, q8, q9, q10, q11⟩ := six_all hB3c
         have hM4 := ((hM1.tr hm3).tr hm4).set4at1 hgl (r := w.heap.size + 1) (Nat.le_succ _) (.int .i64 o_) (.int .i64 d_) (.string m_) (.slice A_ n_ c_)
         have hw3 : w.heap.size + 2 ≤ w3.heap.size := Nat.le_trans hsz1 hm3.2.size)
      | (go_at_call 45; (with_reducible refine (cT _ hM4.1).mono ?_); rintro e w5 ⟨rfl, hm5⟩
         have hM5 := hM4.tr hm5
         have hB2d := (hB2c.far4at1 (g := w.heap.size + 1) (y1 := .int .i64 o_) (y2 := .int .i64 d_) (y3 := .string m_) (y4 := .slice A_ n_ c_) (by omega)).x hm5.2 (by omega)
         have hB3d := (hB3c.put4at1 (y1 := .int .i64 o_) (y2 := .int .i64 d_) (y3 := .string m_) (y4 := .slice A_ n_ c_)).x hm5.2 (by omega))
      | (go_at_call 44; (with_reducible refine (cD1 _ hM5.1).mono ?_); rintro e w6 ⟨rfl, nq1, rfl⟩
         have hM6 := hM5.gr (Gr.drewN w5 nq1)
         have hB2e := hB2d.drewN nq1
         have hB3e := hB3d.drewN nq1
         obtain ⟨r12, r13, r14, r15, r16, r17, q12, q13, q14, q15, q16, q17⟩ := six_all hB3e)
      | (go_at_call 44; (with_reducible refine (cD2 _ hM6.1).mono ?_); rintro e w7 ⟨rfl, nq2, rfl⟩
         have hM7 := hM5.gr (Gr.drewN w5 (nq1 + nq2))
         have hB2f := hB2d.drewN (nq1 + nq2)
         have hB3f := hB3d.drewN (nq1 + nq2)
         obtain ⟨r18, r19, r20, r21, r22, r23, q18, q19, q20, q21, q22, q23⟩ := six_all hB3f
         have hM8 := hM7.far hgl (p := ⟨w.heap.size + 1, 5, none⟩) (Nat.le_succ _) (.int .i64 3)
         have hB3g : Blk ((w5.drewN (nq1 + nq2)).setCell ⟨w.heap.size + 1, 5, none⟩ (.int .i64 3)) (w.heap.size + 1) 47 (ruC cl o_ d_ m_ A_ n_ c_ 3) := by simpa using hB3f.set_ 5 (.int .i64 3)
         have hB2g := hB2f.far (p := ⟨w.heap.size + 1, 5, none⟩) (by show w.heap.size ≠ w.heap.size + 1; omega) (.int .i64 3))
      | (go_at_call 45; (with_reducible refine (cA3 _ hM8.1).mono ?_); rintro e w9 ⟨rfl, hm9⟩
         have hM9 := hM8.tr hm9
         have hB2h := hB2g.x hm9.2 (by omega)
         have hB3h := hB3g.x hm9.2 (by omega))
      | (go_at_call 45; (with_reducible refine (cE _ hM9.1).mono ?_); rintro e w10 ⟨rfl, hm10⟩
         have hB2i := hB2h.x hm10.2 (by omega)
         have hB3i := hB3h.x hm10.2 (by omega)
         obtain ⟨r24, r25, r26, r27, r28, r29, q24, q25, q26, q27, q28, q29⟩ := six_all hB3i
         obtain ⟨r30, r31, r32, r33, r34, r35, q30, q31, q32, q33, q34, q35⟩ := six_all hB2i))
    obtain ⟨z0, z1, z2, z3, z4, z5, -⟩ := six_all (hB2i.put6 (y0 := .string cl) (y1 := .int .i64 o_) (y2 := .int .i64 d_) (y3 := .string m_) (y4 := .slice A_ n_ c_) (y5 := .int .i64 3))
    refine bodyPost_ret (v := .agg (ruC cl o_ d_ m_ A_ n_ c_ 3)) (by simp [results, Tryz.results27, go_sem, z0, z1, z2, z3, z4, z5]) rfl (HF.out w10 o_ d_ m_ A_ n_ c_ x ?_ he4 (hM9.tr hm10))
    have hsz5 : w4.heap.size ≤ w5.heap.size := by have h5 := hm5.2.size; simp [set4at1, World.setCell] at h5; omega
    have hsz9 : w5.heap.size ≤ w9.heap.size := by have h9 := hm9.2.size; simp [World.setCell] at h9; omega
    have hsz10 := hm10.2.size
    refine RdEx.mono (fun b hb => ⟨by omega, by omega⟩) _ _ (RdEx.keep (fun p hp => ?_) _ _ hr4)
    have hgp : p.block ≠ g := by omega
    have hp4 : p.block < (set4at1 w4 (w.heap.size + 1) (.int .i64 o_) (.int .i64 d_) (.string m_) (.slice A_ n_ c_)).heap.size := by simpa [set4at1, World.setCell] using hp.2
    have hp5 : p.block < ((w5.drewN (nq1 + nq2)).setCell ⟨w.heap.size + 1, 5, none⟩ (.int .i64 3)).heap.size := by simp [World.setCell]; omega
    rw [grx_cell hm10.2 (by omega) hgp, grx_cell hm9.2 hp5 hgp, cell_far (by show p.block ≠ w.heap.size + 1; omega)]
    show w5.cell? p = _
    rw [grx_cell hm5.2 hp4 hgp, set4at1_far (by omega)]
  · go_enter Tryz.func27, Tryz.ntmps27
    go_wp2_with (first
      | (go_at_call 44; rw [HW0.out]; (with_reducible refine cI.mono ?_); rintro e w0 ⟨rfl, nq0, rfl⟩
         have hG0 := Gr.trans hGA (Gr.drewN W0 nq0))
      | (go_at_call 45; (with_reducible refine (cC3 _ (hE0.gr (Gr.drewN _ nq0))).mono ?_); rintro e w1 ⟨rfl, hm1⟩
         have hM1 := MadeS.after hG0 hm1
         have hB2b := (hB2.drewN nq0).x hm1.2 (by omega)
         have hB3b := (hB3.drewN nq0).x hm1.2 (by omega)
         have hsz1 : w.heap.size + 2 ≤ w1.heap.size := by have h1 := hm1.2.size; simp at h1; omega)
      | (go_at_call 45; (with_reducible refine (cK _ hM1.1).mono ?_); rintro e w3 ⟨rfl, hm3⟩)
      | (go_at_call 46; (with_reducible refine (cX _ hm3.1).mono ?_); rintro e w4 ⟨o_, d_, m_, A_, n_, c_, x, rfl, hr4, he4, hm4⟩
         have hB2c := (hB2b.x hm3.2 (by omega)).x hm4.2 (by omega)
         have hB3c := (hB3b.x hm3.2 (by omega)).x hm4.2 (by omega)
         obtain ⟨r6, r7, r8, r9, r10, r11, q6, q7, q8, q9, q10, q11⟩ := six_all hB3c
         have hM4 := ((hM1.tr hm3).tr hm4).set4at1 hgl (r := w.heap.size + 1) (Nat.le_succ _) (.int .i64 o_) (.int .i64 d_) (.string m_) (.slice A_ n_ c_)
         have hw3 : w.heap.size + 2 ≤ w3.heap.size := Nat.le_trans hsz1 hm3.2.size)
      | (go_at_call 45; (with_reducible refine (cT _ hM4.1).mono ?_); rintro e w5 ⟨rfl, hm5⟩
         have hM5 := hM4.tr hm5
         have hB2d := (hB2c.far4at1 (g := w.heap.size + 1) (y1 := .int .i64 o_) (y2 := .int .i64 d_) (y3 := .string m_) (y4 := .slice A_ n_ c_) (by omega)).x hm5.2 (by omega)
         have hB3d := (hB3c.put4at1 (y1 := .int .i64 o_) (y2 := .int .i64 d_) (y3 := .string m_) (y4 := .slice A_ n_ c_)).x hm5.2 (by omega))
      | (go_at_call 44; (with_reducible refine (cD1 _ hM5.1).mono ?_); rintro e w6 ⟨rfl, nq1, rfl⟩
         have hM6 := hM5.gr (Gr.drewN w5 nq1)
         have hB2e := hB2d.drewN nq1
         have hB3e := hB3d.drewN nq1
         obtain ⟨r12, r13, r14, r15, r16, r17, q12, q13, q14, q15, q16, q17⟩ := six_all hB3e
         have hM8 := hM6.far hgl (p := ⟨w.heap.size + 1, 5, none⟩) (Nat.le_succ _) (.int .i64 1)
         have hB3g : Blk ((w5.drewN nq1).setCell ⟨w.heap.size + 1, 5, none⟩ (.int .i64 1)) (w.heap.size + 1) 47 (ruC ⟨#[]⟩ o_ d_ m_ A_ n_ c_ 1) := by simpa using hB3e.set_ 5 (.int .i64 1)
         have hB2g := hB2e.far (p := ⟨w.heap.size + 1, 5, none⟩) (by show w.heap.size ≠ w.heap.size + 1; omega) (.int .i64 1))
      | (go_at_call 45; (with_reducible refine (cA1 _ hM8.1).mono ?_); rintro e w9 ⟨rfl, hm9⟩
         have hM9 := hM8.tr hm9
         have hB2h := hB2g.x hm9.2 (by omega)
         have hB3h := hB3g.x hm9.2 (by omega))
      | (go_at_call 45; (with_reducible refine (cE _ hM9.1).mono ?_); rintro e w10 ⟨rfl, hm10⟩
         have hB2i := hB2h.x hm10.2 (by omega)
         have hB3i := hB3h.x hm10.2 (by omega)
         obtain ⟨r24, r25, r26, r27, r28, r29, q24, q25, q26, q27, q28, q29⟩ := six_all hB3i
         obtain ⟨r30, r31, r32, r33, r34, r35, q30, q31, q32, q33, q34, q35⟩ := six_all hB2i))
    obtain ⟨z0, z1, z2, z3, z4, z5, -⟩ := six_all (hB2i.put6 (y0 := .string ⟨#[]⟩) (y1 := .int .i64 o_) (y2 := .int .i64 d_) (y3 := .string m_) (y4 := .slice A_ n_ c_) (y5 := .int .i64 1))
    refine bodyPost_ret (v := .agg (ruC ⟨#[]⟩ o_ d_ m_ A_ n_ c_ 1)) (by simp [results, Tryz.results27, go_sem, z0, z1, z2, z3, z4, z5]) rfl (HF.out w10 o_ d_ m_ A_ n_ c_ x ?_ he4 (hM9.tr hm10))
    have hsz5 : w4.heap.size ≤ w5.heap.size := by have h5 := hm5.2.size; simp [set4at1, World.setCell] at h5; omega
    have hsz9 : w5.heap.size ≤ w9.heap.size := by have h9 := hm9.2.size; simp [World.setCell] at h9; omega
    have hsz10 := hm10.2.size
    refine RdEx.mono (fun b hb => ⟨by omega, by omega⟩) _ _ (RdEx.keep (fun p hp => ?_) _ _ hr4)
    have hgp : p.block ≠ g := by omega
    have hp4 : p.block < (set4at1 w4 (w.heap.size + 1) (.int .i64 o_) (.int .i64 d_) (.string m_) (.slice A_ n_ c_)).heap.size := by simpa [set4at1, World.setCell] using hp.2
    have hp5 : p.block < ((w5.drewN nq1).setCell ⟨w.heap.size + 1, 5, none⟩ (.int .i64 1)).heap.size := by simp [World.setCell]; omega
    rw [grx_cell hm10.2 (by omega) hgp, grx_cell hm9.2 hp5 hgp, cell_far (by show p.block ≠ w.heap.size + 1; omega)]
    show w5.cell? p = _
    rw [grx_cell hm5.2 hp4 hgp, set4at1_far (by omega)]
  · go_enter Tryz.func27, Tryz.ntmps27
    go_wp2_with (first
      | (go_at_call 44; rw [HW0.out]; (with_reducible refine cI.mono ?_); rintro e w0 ⟨rfl, nq0, rfl⟩
         have hG0 := Gr.trans hGA (Gr.drewN W0 nq0))
      | (go_at_call 45; (with_reducible refine (cC3 _ (hE0.gr (Gr.drewN _ nq0))).mono ?_); rintro e w1 ⟨rfl, hm1⟩
         have hM1 := MadeS.after hG0 hm1
         have hB2b := (hB2.drewN nq0).x hm1.2 (by omega)
         have hB3b := (hB3.drewN nq0).x hm1.2 (by omega)
         have hsz1 : w.heap.size + 2 ≤ w1.heap.size := by have h1 := hm1.2.size; simp at h1; omega)
      | (go_at_call 45; (with_reducible refine (cK _ hM1.1).mono ?_); rintro e w3 ⟨rfl, hm3⟩)
      | (go_at_call 46; (with_reducible refine (cX _ hm3.1).mono ?_); rintro e w4 ⟨o_, d_, m_, A_, n_, c_, x, rfl, hr4, he4, hm4⟩
         have hB2c := (hB2b.x hm3.2 (by omega)).x hm4.2 (by omega)
         have hB3c := (hB3b.x hm3.2 (by omega)).x hm4.2 (by omega)
         obtain ⟨r6, r7, r8, r9, r10, r11, q6, q7, q8, q9, q10, q11⟩ := six_all hB3c
         have hM4 := ((hM1.tr hm3).tr hm4).set4at1 hgl (r := w.heap.size + 1) (Nat.le_succ _) (.int .i64 o_) (.int .i64 d_) (.string m_) (.slice A_ n_ c_)
         have hw3 : w.heap.size + 2 ≤ w3.heap.size := Nat.le_trans hsz1 hm3.2.size)
      | (go_at_call 45; (with_reducible refine (cT _ hM4.1).mono ?_); rintro e w5 ⟨rfl, hm5⟩
         have hM5 := hM4.tr hm5
         have hB2d := (hB2c.far4at1 (g := w.heap.size + 1) (y1 := .int .i64 o_) (y2 := .int .i64 d_) (y3 := .string m_) (y4 := .slice A_ n_ c_) (by omega)).x hm5.2 (by omega)
         have hB3d := (hB3c.put4at1 (y1 := .int .i64 o_) (y2 := .int .i64 d_) (y3 := .string m_) (y4 := .slice A_ n_ c_)).x hm5.2 (by omega))
      | (go_at_call 44; (with_reducible refine (cD1 _ hM5.1).mono ?_); rintro e w6 ⟨rfl, nq1, rfl⟩
         have hM6 := hM5.gr (Gr.drewN w5 nq1)
         have hB2e := hB2d.drewN nq1
         have hB3e := hB3d.drewN nq1
         obtain ⟨r12, r13, r14, r15, r16, r17, q12, q13, q14, q15, q16, q17⟩ := six_all hB3e)
      | (go_at_call 44; (with_reducible refine (cD2 _ hM6.1).mono ?_); rintro e w7 ⟨rfl, nq2, rfl⟩
         have hM7 := hM5.gr (Gr.drewN w5 (nq1 + nq2))
         have hB2f := hB2d.drewN (nq1 + nq2)
         have hB3f := hB3d.drewN (nq1 + nq2)
         obtain ⟨r18, r19, r20, r21, r22, r23, q18, q19, q20, q21, q22, q23⟩ := six_all hB3f
         have hM8 := hM7.far hgl (p := ⟨w.heap.size + 1, 5, none⟩) (Nat.le_succ _) (.int .i64 2)
         have hB3g : Blk ((w5.drewN (nq1 + nq2)).setCell ⟨w.heap.size + 1, 5, none⟩ (.int .i64 2)) (w.heap.size + 1) 47 (ruC ⟨#[]⟩ o_ d_ m_ A_ n_ c_ 2) := by simpa using hB3f.set_ 5 (.int .i64 2)
         have hB2g := hB2f.far (p := ⟨w.heap.size + 1, 5, none⟩) (by show w.heap.size ≠ w.heap.size + 1; omega) (.int .i64 2))
      | (go_at_call 45; (with_reducible refine (cA2 _ hM8.1).mono ?_); rintro e w9 ⟨rfl, hm9⟩
         have hM9 := hM8.tr hm9
         have hB2h := hB2g.x hm9.2 (by omega)
         have hB3h := hB3g.x hm9.2 (by omega))
      | (go_at_call 45; (with_reducible refine (cE _ hM9.1).mono ?_); rintro e w10 ⟨rfl, hm10⟩
         have hB2i := hB2h.x hm10.2 (by omega)
         have hB3i := hB3h.x hm10.2 (by omega)
         obtain ⟨r24, r25, r26, r27, r28, r29, q24, q25, q26, q27, q28, q29⟩ := six_all hB3i
         obtain ⟨r30, r31, r32, r33, r34, r35, q30, q31, q32, q33, q34, q35⟩ := six_all hB2i))
    obtain ⟨z0, z1, z2, z3, z4, z5, -⟩ := six_all (hB2i.put6 (y0 := .string ⟨#[]⟩) (y1 := .int .i64 o_) (y2 := .int .i64 d_) (y3 := .string m_) (y4 := .slice A_ n_ c_) (y5 := .int .i64 2))
    refine bodyPost_ret (v := .agg (ruC ⟨#[]⟩ o_ d_ m_ A_ n_ c_ 2)) (by simp [results, Tryz.results27, go_sem, z0, z1, z2, z3, z4, z5]) rfl (HF.out w10 o_ d_ m_ A_ n_ c_ x ?_ he4 (hM9.tr hm10))
    have hsz5 : w4.heap.size ≤ w5.heap.size := by have h5 := hm5.2.size; simp [set4at1, World.setCell] at h5; omega
    have hsz9 : w5.heap.size ≤ w9.heap.size := by have h9 := hm9.2.size; simp [World.setCell] at h9; omega
    have hsz10 := hm10.2.size
    refine RdEx.mono (fun b hb => ⟨by omega, by omega⟩) _ _ (RdEx.keep (fun p hp => ?_) _ _ hr4)
    have hgp : p.block ≠ g := by omega
    have hp4 : p.block < (set4at1 w4 (w.heap.size + 1) (.int .i64 o_) (.int .i64 d_) (.string m_) (.slice A_ n_ c_)).heap.size := by simpa [set4at1, World.setCell] using hp.2
    have hp5 : p.block < ((w5.drewN (nq1 + nq2)).setCell ⟨w.heap.size + 1, 5, none⟩ (.int .i64 2)).heap.size := by simp [World.setCell]; omega
    rw [grx_cell hm10.2 (by omega) hgp, grx_cell hm9.2 hp5 hgp, cell_far (by show p.block ≠ w.heap.size + 1; omega)]
    show w5.cell? p = _
    rw [grx_cell hm5.2 hp4 hgp, set4at1_far (by omega)]
  · go_enter Tryz.func27, Tryz.ntmps27
    go_wp2_with (first
      | (go_at_call 44; rw [HW0.out]; (with_reducible refine cI.mono ?_); rintro e w0 ⟨rfl, nq0, rfl⟩
         have hG0 := Gr.trans hGA (Gr.drewN W0 nq0))
      | (go_at_call 45; (with_reducible refine (cC3 _ (hE0.gr (Gr.drewN _ nq0))).mono ?_); rintro e w1 ⟨rfl, hm1⟩
         have hM1 := MadeS.after hG0 hm1
         have hB2b := (hB2.drewN nq0).x hm1.2 (by omega)
         have hB3b := (hB3.drewN nq0).x hm1.2 (by omega)
         have hsz1 : w.heap.size + 2 ≤ w1.heap.size := by have h1 := hm1.2.size; simp at h1; omega)
      | (go_at_call 45; (with_reducible refine (cK _ hM1.1).mono ?_); rintro e w3 ⟨rfl, hm3⟩)
      | (go_at_call 46; (with_reducible refine (cX _ hm3.1).mono ?_); rintro e w4 ⟨o_, d_, m_, A_, n_, c_, x, rfl, hr4, he4, hm4⟩
         have hB2c := (hB2b.x hm3.2 (by omega)).x hm4.2 (by omega)
         have hB3c := (hB3b.x hm3.2 (by omega)).x hm4.2 (by omega)
         obtain ⟨r6, r7, r8, r9, r10, r11, q6, q7, q8, q9, q10, q11⟩ := six_all hB3c
         have hM4 := ((hM1.tr hm3).tr hm4).set4at1 hgl (r := w.heap.size + 1) (Nat.le_succ _) (.int .i64 o_) (.int .i64 d_) (.string m_) (.slice A_ n_ c_)
         have hw3 : w.heap.size + 2 ≤ w3.heap.size := Nat.le_trans hsz1 hm3.2.size)
      | (go_at_call 45; (with_reducible refine (cT _ hM4.1).mono ?_); rintro e w5 ⟨rfl, hm5⟩
         have hM5 := hM4.tr hm5
         have hB2d := (hB2c.far4at1 (g := w.heap.size + 1) (y1 := .int .i64 o_) (y2 := .int .i64 d_) (y3 := .string m_) (y4 := .slice A_ n_ c_) (by omega)).x hm5.2 (by omega)
         have hB3d := (hB3c.put4at1 (y1 := .int .i64 o_) (y2 := .int .i64 d_) (y3 := .string m_) (y4 := .slice A_ n_ c_)).x hm5.2 (by omega))
      | (go_at_call 44; (with_reducible refine (cD1 _ hM5.1).mono ?_); rintro e w6 ⟨rfl, nq1, rfl⟩
         have hM6 := hM5.gr (Gr.drewN w5 nq1)
         have hB2e := hB2d.drewN nq1
         have hB3e := hB3d.drewN nq1
         obtain ⟨r12, r13, r14, r15, r16, r17, q12, q13, q14, q15, q16, q17⟩ := six_all hB3e)
      | (go_at_call 44; (with_reducible refine (cD2 _ hM6.1).mono ?_); rintro e w7 ⟨rfl, nq2, rfl⟩
         have hM7 := hM5.gr (Gr.drewN w5 (nq1 + nq2))
         have hB2f := hB2d.drewN (nq1 + nq2)
         have hB3f := hB3d.drewN (nq1 + nq2)
         obtain ⟨r18, r19, r20, r21, r22, r23, q18, q19, q20, q21, q22, q23⟩ := six_all hB3f
         have hM8 := hM7.far hgl (p := ⟨w.heap.size + 1, 5, none⟩) (Nat.le_succ _) (.int .i64 3)
         have hB3g : Blk ((w5.drewN (nq1 + nq2)).setCell ⟨w.heap.size + 1, 5, none⟩ (.int .i64 3)) (w.heap.size + 1) 47 (ruC ⟨#[]⟩ o_ d_ m_ A_ n_ c_ 3) := by simpa using hB3f.set_ 5 (.int .i64 3)
         have hB2g := hB2f.far (p := ⟨w.heap.size + 1, 5, none⟩) (by show w.heap.size ≠ w.heap.size + 1; omega) (.int .i64 3))
      | (go_at_call 45; (with_reducible refine (cA3 _ hM8.1).mono ?_); rintro e w9 ⟨rfl, hm9⟩
         have hM9 := hM8.tr hm9
         have hB2h := hB2g.x hm9.2 (by omega)
         have hB3h := hB3g.x hm9.2 (by omega))
      | (go_at_call 45; (with_reducible refine (cE _ hM9.1).mono ?_); rintro e w10 ⟨rfl, hm10⟩
         have hB2i := hB2h.x hm10.2 (by omega)
         have hB3i := hB3h.x hm10.2 (by omega)
         obtain ⟨r24, r25, r26, r27, r28, r29, q24, q25, q26, q27, q28, q29⟩ := six_all hB3i
         obtain ⟨r30, r31, r32, r33, r34, r35, q30, q31, q32, q33, q34, q35⟩ := six_all hB2i))
    obtain ⟨z0, z1, z2, z3, z4, z5, -⟩ := six_all (hB2i.put6 (y0 := .string ⟨#[]⟩) (y1 := .int .i64 o_) (y2 := .int .i64 d_) (y3 := .string m_) (y4 := .slice A_ n_ c_) (y5 := .int .i64 3))
    refine bodyPost_ret (v := .agg (ruC ⟨#[]⟩ o_ d_ m_ A_ n_ c_ 3)) (by simp [results, Tryz.results27, go_sem, z0, z1, z2, z3, z4, z5]) rfl (HF.out w10 o_ d_ m_ A_ n_ c_ x ?_ he4 (hM9.tr hm10))
    have hsz5 : w4.heap.size ≤ w5.heap.size := by have h5 := hm5.2.size; simp [set4at1, World.setCell] at h5; omega
    have hsz9 : w5.heap.size ≤ w9.heap.size := by have h9 := hm9.2.size; simp [World.setCell] at h9; omega
    have hsz10 := hm10.2.size
    refine RdEx.mono (fun b hb => ⟨by omega, by omega⟩) _ _ (RdEx.keep (fun p hp => ?_) _ _ hr4)
    have hgp : p.block ≠ g := by omega
    have hp4 : p.block < (set4at1 w4 (w.heap.size + 1) (.int .i64 o_) (.int .i64 d_) (.string m_) (.slice A_ n_ c_)).heap.size := by simpa [set4at1, World.setCell] using hp.2
    have hp5 : p.block < ((w5.drewN (nq1 + nq2)).setCell ⟨w.heap.size + 1, 5, none⟩ (.int .i64 3)).heap.size := by simp [World.setCell]; omega
    rw [grx_cell hm10.2 (by omega) hgp, grx_cell hm9.2 hp5 hgp, cell_far (by show p.block ≠ w.heap.size + 1; omega)]
    show w5.cell? p = _
    rw [grx_cell hm5.2 hp4 hgp, set4at1_far (by omega)]
end
end Go.Proofs.YtogpmihepfnoaaaGreatDoor

namespace Go.Proofs.YtogpmihepfnoaaaGreatDoor
open Go Go.RowKit Go.Sort

/-- Where the loop of run stands. -/
def RdToS (ts : List Tk) (L : Value) (E F : Int) (R : List Ru × Pst) (w : World) (g : Nat) (v : Value) (wr : World) : Prop :=
  ∃ (rs rs' : List Ru) (cs : List Value) (s : Pst) (n : Nat) (A : Option Addr) (c : Nat), v = .slice A rs'.length c ∧ RsOwn (g + 1) wr v rs' cs ∧ rs'.length = rs.length ∧ (s.err = 0 → rs' = rs) ∧ MadeS ts L E F w g s wr ∧
    R = rulesD ts n rs s ∧ (s.err = 0 → ts.length < s.pos + n) ∧ rs.length + n ≤ ts.length + 1
theorem RdToS.start {ts : List Tk} {L : Value} {E F : Int} {R : List Ru × Pst} {w : World} {g : Nat} {s : Pst} (h : EnvS ts L E F w g s) (hR : rulesD ts (ts.length + 1) [] s = R) : RdToS ts L E F R w g (.slice none 0 0) w :=
  ⟨[], [], [], s, ts.length + 1, none, 0, rfl, RsOwn.nil _ _, rfl, fun _ => rfl, MadeS.refl h, hR.symm, fun _ => by omega, by simp⟩
set_option maxRecDepth 100000 in
set_option maxHeartbeats 8000000 in
theorem srun_any (s : ByteArray) (fuel : Int) (w : World) (hm : s.size ≤ maxLen) (h1 : -9223372036854775808 ≤ fuel) (h2 : fuel ≤ 9223372036854775807) : Calls Tryz.prog 15 #[.string s, .int .i64 fuel] w fun e w' =>
    ∃ (v : Value) (u : Int), e = .returned (.tuple #[v, .int .i64 (readD s.data.toList fuel).2.1, .int .i64 (readD s.data.toList fuel).2.2.2, .int .i64 u]) ∧ ((readD s.data.toList fuel).2.2.2 = 0 → u = fuel - (readD s.data.toList fuel).2.2.1) ∧ RdRus w' (· < w'.heap.size) v (readD s.data.toList fuel).1 ∧ Gr w w' := by
  have cL := refall_any s w hm
  have hlen := lexAll_len s.data.toList
  have hsm := lexAll_small_ s.data.toList
  have hsz : s.data.toList.length = s.size := by rw [Array.length_toList]; rfl
  have hD : readD s.data.toList fuel = if (lexAll s.data.toList).2.2 ≠ 0 then ([], ((lexAll s.data.toList).2.1 : Int), 0, (lexAll s.data.toList).2.2) else
    if (rulesD (lexAll s.data.toList).1 ((lexAll s.data.toList).1.length + 1) [] ⟨0, fuel, 0⟩).2.err ≠ 0 then ([], hereD (lexAll s.data.toList).1 s.data.toList.length (rulesD (lexAll s.data.toList).1 ((lexAll s.data.toList).1.length + 1) [] ⟨0, fuel, 0⟩).2, 0, (rulesD (lexAll s.data.toList).1 ((lexAll s.data.toList).1.length + 1) [] ⟨0, fuel, 0⟩).2.err) else
    if checkD (rulesD (lexAll s.data.toList).1 ((lexAll s.data.toList).1.length + 1) [] ⟨0, fuel, 0⟩).1 ≠ 0 then ([], 0, 0, checkD (rulesD (lexAll s.data.toList).1 ((lexAll s.data.toList).1.length + 1) [] ⟨0, fuel, 0⟩).1) else ((rulesD (lexAll s.data.toList).1 ((lexAll s.data.toList).1.length + 1) [] ⟨0, fuel, 0⟩).1, (s.data.toList.length : Int), (rulesD (lexAll s.data.toList).1 ((lexAll s.data.toList).1.length + 1) [] ⟨0, fuel, 0⟩).2.fuel, 0) := rfl
  generalize readD s.data.toList fuel = D at *
  generalize lexAll s.data.toList = X at *
  obtain ⟨ts, at_, e⟩ := X
  rw [hsz] at hD
  dsimp only at *
  unfold maxLen at hm
  by_cases he : e = 0
  · subst he
    rw [if_neg (by simp)] at hD
    obtain ⟨R, hR⟩ : ∃ R, rulesD ts (ts.length + 1) [] ⟨0, fuel, 0⟩ = R := ⟨_, rfl⟩
    rw [hR] at hD
    have HR := Lib.hid hR
    have HD := Lib.hid hD
    have HSM := Lib.hid hsm
    clear hR hD hsm hsz
    go_enter Tryz.func15, Tryz.ntmps15
    go_wp2_with (go_at_call 26; (with_reducible refine cL.mono ?_); rintro e w1 ⟨L, rfl, hL1, hb1⟩; obtain ⟨AL, cL_, rfl, hcL⟩ := hL1.form)
    obtain ⟨W2, hW2⟩ : ∃ W2, w1.alloc (.cells #[.slice AL ts.length cL_, .int .i64 0, .int .i64 (s.size : Int), .int .i64 fuel, .int .i64 0, .int .i64 0] 67) = W2 := ⟨_, rfl⟩
    have hG2 : Gr w1 W2 := by rw [← hW2]; exact Gr.alloc _ _
    have hs2 : W2.heap.size = w1.heap.size + 1 := by rw [← hW2]; simp
    have hE2 : EnvS ts (.slice AL ts.length cL_) s.size fuel W2 w1.heap.size ⟨0, fuel, 0⟩ := by
      refine ⟨?_, hL1.gr (Nat.le_refl _) hG2, Nat.zero_le _, hlen, h1, h2, Int.le_refl _, HSM.out⟩
      rw [← hW2]
      dsimp only
      rw [Int.sub_self]
      exact Blk.new _ _ _
    have hst := RdToS.start hE2 HR.out
    obtain ⟨g, hg⟩ : ∃ g, w1.heap.size = g := ⟨_, rfl⟩
    rw [hW2, hg]
    rw [hg] at hE2 hst hs2
    have hgl : g < W2.heap.size := by omega
    have hwg : w.heap.size ≤ g := by rw [← hg]; exact hb1.size
    have hG0 : Gr w W2 := Gr.trans hb1 hG2
    clear hL1 hW2 hG2 hE2 cL
    go_loopw [12] (fun v12 wr => RdToS ts (.slice AL ts.length cL_) s.size fuel R W2 g v12 wr) (fun v12 _ => 700 - slLen v12)
    case atStart => exact hst
    case round =>
      clear hst
      obtain ⟨rs, rs', cs, s_, n, A, c, rfl, hX, hkl, hke, hm, hRe, hn, hkn⟩ := hrel
      obtain ⟨c0, c1, c2, c3, c4, c5, f1, f3, f4, f5⟩ := hm.1.cells
      have hpl := hm.1.pos
      by_cases he : s_.err = 0
      · rw [he] at c4
        by_cases hp : s_.pos < ts.length
        · obtain ⟨n', rfl, hst2, hn2⟩ := rulesD_step (out := rs) he hp hn
          rw [hst2] at hRe
          have hp1 : (s_.pos : Int) < (ts.length : Int) := by omega
          have hd1 : decide (s_.pos < ts.length) = true := decide_eq_true hp
          have cR := fun n => srule_any (hm.1.gr (Gr.drewN _ n))
          unfold PRuS at cR
          generalize ruleD ts s_ = o at *
          obtain ⟨⟨cl2, x2, ac2⟩, s3⟩ := o
          dsimp only at *
          have hkb : rs'.length ≤ 100000 := by omega
          have HRe := Lib.hid hRe
          have HKE := Lib.hid (fun (_ : s3.err = 0) => hke he)
          have HN := Lib.hid hn2
          have HKL := Lib.hid hkl
          clear hRe hke hn2 hn hst2 hkl he
          go_wp2
          go_quiet (fail)
          have hXn := hX.gr (Gr.drewN wr nq)
          have hMn := hm.gr (Gr.drewN wr nq)
          have cRn := cR nq
          have hgw : g < (wr.drewN nq).heap.size := hMn.1.lt
          clear c0 c1 c2 c3 c4 c5 f1 f3 f4 f5 cR hX hm hd1
          generalize wr.drewN nq = wq at *
          go_wp2_with (first
            | (go_at_call 27; (with_reducible refine cRn.mono ?_); rintro e w3 ⟨o_, d_, m_, A_, n_, c_, cl, x, ac, rfl, hcl, hr3, he3, hm3⟩
               have hGn := Gr.alloc w3 (.cells (ruC cl o_ d_ m_ A_ n_ c_ ac) 47)
               have hBn := Blk.new w3 47 (ruC cl o_ d_ m_ A_ n_ c_ ac)
               have hM4 := (hMn.tr hm3).gr hGn
               have hX4 := (hXn.x hm3.2 (by omega)).gr hGn
               have hw3 := hm3.2.size
               have hle4 : g + 1 ≤ (w3.alloc (.cells (ruC cl o_ d_ m_ A_ n_ c_ ac) 47)).heap.size := by have h5 := hGn.size; omega)
            | (at_builtin
               refine wpList_appendR _ rfl (.tmp 47) (.tmp 50) rfl (g + 1) _ rs' cs rfl hX4 ⟨cl, x, ac⟩ o_ d_ m_ A_ n_ c_ _ rfl hBn (by show cl.size ≤ 140737488351232; omega) ?_ hkb hle4 ?_
               · exact RdEx.mono (fun b hb => ⟨by omega, Nat.lt_of_lt_of_le hb.2 hGn.size, own_lt_ hXn.row b hb.1⟩) _ _ (RdEx.keep (fun p hp => hGn.cell hp.2) _ _ hr3)
               intro v6 w6 hX6 hb6
               obtain ⟨A6, c6, hv6⟩ := hX6.vform
               rw [List.length_append, List.length_singleton] at hv6
               subst hv6))
          go_roundw
          case rel => exact ⟨rs ++ [⟨cl2, x2, ac2⟩], rs' ++ [⟨cl, x, ac⟩], _, s3, n', A6, c6, by simp, hX6, by simp [HKL.out], fun h0 => by rw [he3 h0, HKE.out h0], hM4.below hgl (by omega) hb6, HRe.out, HN.out, by simp; omega⟩
          case measure => simp [slLen]; have := HKL.out; omega
        · have hp' : s_.pos = ts.length := by omega
          have he0 := hke he
          subst he0
          rw [rulesD_end (by omega)] at hRe
          subst hRe
          have hD2 := HD.out
          dsimp only at hD2
          rw [if_neg (by simp [he])] at hD2
          have hRdR := hX.rd.mono (K' := (· < wr.heap.size)) fun b hb => hb.2
          rw [hp'] at c1
          have hMW : GrX W2 wr g := hm.2
          have hd1 : decide (ts.length < s_.pos) = false := decide_eq_false (by omega)
          have hEq := hm.1
          clear hX hke hn hp hp' hpl
          go_wp2
          go_quiet (fail)
          have hRq := hRdR.gr (Gr.drewN wr nq)
          have hEn := hEq.gr (Gr.drewN wr nq)
          have hMq := GrX.tr hMW (GrX.of_gr (Gr.drewN wr nq) g)
          clear c0 c1 c2 c3 c4 c5 f1 f3 f4 f5 hRdR hMW hEq hm
          generalize wr.drewN nq = wq at *
          obtain ⟨j0, j1, j2, j3, j4, j5, -⟩ := hEn.cells
          rw [he] at j4
          have cC := rcheck_any rs' _ wq hRq
          generalize hq : checkD rs' = q at *
          have hgq := gr_of_x hG0 hMq hwg
          by_cases hq0 : q = 0
          · subst hq0
            rw [if_neg (by simp)] at hD2
            have HD2 := Lib.hid hD2
            clear hD2 HD HR he hq
            go_wp2_with (go_at_call 18; (with_reducible refine cC.mono ?_); rintro e w5 ⟨rfl, hb5⟩
                         obtain ⟨k0, k1, k2, k3, k4, k5, -⟩ := (hEn.gr hb5).cells)
            go_quiet (fail)
            go_wp2
            refine bodyPost_ret (v := .tuple #[.slice A rs'.length c, .int .i64 (s.size : Int), .int .i64 0, .int .i64 (fuel - s_.fuel)]) (by simp [results, Tryz.results15, go_sem]) rfl ⟨.slice A rs'.length c, fuel - s_.fuel, ?_, ?_, ?_, Gr.trans (Gr.trans hgq hb5) (Gr.drewN _ _)⟩
            · rw [HD2.out]
            · rw [HD2.out]; exact fun _ => rfl
            · rw [HD2.out]; exact hRq.gr (Gr.trans hb5 (Gr.drewN _ _))
          · rw [if_pos hq0] at hD2
            have e1 : (q != 0) = true := by simp [hq0]
            have HD2 := Lib.hid hD2
            have HQ0 := Lib.hid hq0
            clear hD2 HD HR he hq hq0
            go_wp2_with (go_at_call 18; (with_reducible refine cC.mono ?_); rintro e w5 ⟨rfl, hb5⟩
                         obtain ⟨k0, k1, k2, k3, k4, k5, -⟩ := (hEn.gr hb5).cells)
            go_quiet (fail)
            go_wp2
            refine bodyPost_ret (v := .tuple #[.slice none 0 0, .int .i64 0, .int .i64 q, .int .i64 (fuel - s_.fuel)]) (by simp [results, Tryz.results15, go_sem]) rfl ⟨.slice none 0 0, fuel - s_.fuel, ?_, ?_, ?_, Gr.trans (Gr.trans hgq hb5) (Gr.drewN _ _)⟩
            · rw [HD2.out]
            · rw [HD2.out]; exact fun h => absurd h HQ0.out
            · rw [HD2.out]; exact RdRus.nil _ _
      · have e1 : (s_.err == 0) = false := by simp [he]
        have e2 : (s_.err != 0) = true := by simp [he]
        have e3 : decide (s_.err = 0) = false := decide_eq_false he
        rw [rulesD_end (by omega)] at hRe
        subst hRe
        have hD2 := HD.out
        dsimp only at hD2
        rw [if_pos he] at hD2
        have hMW : GrX W2 wr g := hm.2
        have hEq := hm.1
        have HER := Lib.hid he
        have hpw : (s_.pos : Int) < (ts.length : Int) ∨ s_.pos = ts.length := by omega
        clear hX hke hn hkl hkn he
        rcases hpw with hpw | hpw
        case' inl => have hd1 : decide (s_.pos < ts.length) = true := decide_eq_true (by omega)
        case' inr => rw [hpw] at c1
        all_goals
          clear hpl
          go_wp2
          go_quiet (fail)
          have hEn := hEq.gr (Gr.drewN wr nq)
          have hMq := GrX.tr hMW (GrX.of_gr (Gr.drewN wr nq) g)
          clear c0 c1 c2 c3 c4 c5 f1 f3 f4 f5 hMW hEq hm
          generalize wr.drewN nq = wq at *
          have hgq := gr_of_x hG0 hMq hwg
          obtain ⟨k0, k1, k2, k3, k4, k5, -⟩ := hEn.cells
          have cH := fun n => shere_any (hEn.gr (Gr.drewN wq n))
          have HD2 := Lib.hid hD2
          clear hD2 HD HR
          generalize hereD ts s.size s_ = hr at *
          go_wp2
          go_quiet ((go_at_call 28; exact Calls.quiet_of (cH _)))
          go_wp2
          refine bodyPost_ret (v := .tuple #[.slice none 0 0, .int .i64 hr, .int .i64 s_.err, .int .i64 (fuel - s_.fuel)]) (by simp [results, Tryz.results15, go_sem]) rfl ⟨.slice none 0 0, fuel - s_.fuel, ?_, ?_, ?_, Gr.trans hgq (Gr.drewN _ _)⟩
          · rw [HD2.out]
          · rw [HD2.out]; exact fun h => absurd h HER.out
          · rw [HD2.out]; exact RdRus.nil _ _
  · rw [if_pos he] at hD
    have e1 : (e != 0) = true := by simp [he]
    have HD := Lib.hid hD
    have HE := Lib.hid he
    clear hD he
    go_enter Tryz.func15, Tryz.ntmps15
    go_wp2_with (go_at_call 26; (with_reducible refine cL.mono ?_); rintro e w1 ⟨L, rfl, hL1, hb1⟩)
    refine bodyPost_ret (v := .tuple #[.slice none 0 0, .int .i64 (at_ : Int), .int .i64 e, .int .i64 0]) (by simp [results, Tryz.results15, go_sem]) rfl ⟨.slice none 0 0, 0, ?_, ?_, ?_, hb1⟩
    · rw [HD.out]
    · rw [HD.out]; exact fun h => absurd h HE.out
    · rw [HD.out]; exact RdRus.nil _ _
set_option maxRecDepth 100000 in
theorem srules_any (s : ByteArray) (fuel : Int) (w : World) (hm : s.size ≤ maxLen) (h1 : -9223372036854775808 ≤ fuel) (h2 : fuel ≤ 9223372036854775807) : Calls Tryz.prog 7 #[.string s, .int .i64 fuel] w fun e w' =>
    ∃ v, e = .returned (.tuple #[v, .int .i64 (readD s.data.toList fuel).2.1, .int .i64 (readD s.data.toList fuel).2.2.2]) ∧ RdRus w' (· < w'.heap.size) v (readD s.data.toList fuel).1 ∧ Gr w w' := by
  have cR := srun_any s fuel w hm h1 h2
  generalize readD s.data.toList fuel = D at *
  obtain ⟨rs, p, l, e⟩ := D
  dsimp only at *
  clear hm
  go_enter Tryz.func7, Tryz.ntmps7
  go_wp2_with (go_at_call 15; (with_reducible refine cR.mono ?_); rintro e w1 ⟨v, u, rfl, hu, hr1, hb1⟩)
  exact bodyPost_ret (v := .tuple #[v, .int .i64 p, .int .i64 e]) (by simp [results, Tryz.results7, go_sem]) rfl ⟨v, rfl, hr1, hb1⟩
/-- With ever so much fuel it costs the same. -/
theorem cost_40 (l : List UInt8) : (if (readD l 1099511627776).2.2.2 ≠ 0 then (0, (readD l 1099511627776).2.2.2) else (1099511627776 - (readD l 1099511627776).2.2.1, 0)) = costD l := by
  unfold costD
  have hl := lexAll_len l
  have h1 := run_up (ts := (lexAll l).1) (fuel := 2147483647) (d := 1097364144129) (by decide) (run_enough (by omega))
  rw [show (2147483647 : Int) + 1097364144129 = 1099511627776 by decide] at h1
  obtain ⟨h1, h2⟩ := h1
  by_cases h0 : (lexAll l).2.2 = 0
  · have r0 : ∀ f, readD l f = if (runP (lexAll l).1 f).2.err ≠ 0 then ([], hereD (lexAll l).1 l.length (runP (lexAll l).1 f).2, 0, (runP (lexAll l).1 f).2.err) else
        if checkD (runP (lexAll l).1 f).1 ≠ 0 then ([], 0, 0, checkD (runP (lexAll l).1 f).1) else ((runP (lexAll l).1 f).1, (l.length : Int), (runP (lexAll l).1 f).2.fuel, 0) := fun f => by rw [readD_run, if_neg (by omega)]
    have a1 := r0 1099511627776
    have a2 := r0 2147483647
    rw [← h1, h2] at a1
    generalize runP (lexAll l).1 2147483647 = r at a1 a2
    obtain ⟨rs, p, f, e⟩ := r
    by_cases h3 : e = 0
    · subst h3
      by_cases h4 : checkD rs = 0
      · simp [shP, h4] at a1 a2
        rw [a1, a2]
        simp
        omega
      · simp [shP, h4] at a1 a2
        rw [a1, a2]
        simp [h4]
    · simp [shP, h3] at a1 a2
      rw [a1, a2]
      simp [h3]
  · have r0 : ∀ f, readD l f = ([], ((lexAll l).2.1 : Int), 0, (lexAll l).2.2) := fun f => by rw [readD_run, if_pos h0]
    rw [r0, r0]
    simp [h0]
set_option maxRecDepth 100000 in
theorem scost_any (s : ByteArray) (w : World) (hm : s.size ≤ maxLen) : Calls Tryz.prog 9 #[.string s] w fun e w' =>
    e = .returned (.tuple #[.int .i64 (costD s.data.toList).1, .int .i64 (costD s.data.toList).2]) ∧ Gr w w' := by
  have cR := srun_any s 1099511627776 w hm (by decide) (by decide)
  rw [← cost_40]
  generalize readD s.data.toList 1099511627776 = D at *
  obtain ⟨rs, p, l, e⟩ := D
  dsimp only at *
  clear hm
  by_cases he : e = 0
  · subst he
    rw [if_neg (by simp)]
    go_enter Tryz.func9, Tryz.ntmps9
    go_wp2_with (go_at_call 15; (with_reducible refine cR.mono ?_); rintro e w1 ⟨v, u, rfl, hu, hr1, hb1⟩; have HU := Lib.hid (hu rfl); clear hu)
    go_ret2
    exact ⟨by rw [HU.out]; rfl, hb1⟩
  · have e1 : (e != 0) = true := by simp [he]
    rw [if_pos he]
    go_enter Tryz.func9, Tryz.ntmps9
    go_wp2_with (go_at_call 15; (with_reducible refine cR.mono ?_); rintro e w1 ⟨v, u, rfl, hu, hr1, hb1⟩; clear hu)
    go_ret2
    exact ⟨rfl, hb1⟩
end Go.Proofs.YtogpmihepfnoaaaGreatDoor

namespace Go.Proofs.YtogpmihepfnoaaaGreatDoor
open Go Go.RowKit Go.Sort

set_option maxRecDepth 100000 in
set_option maxHeartbeats 8000000 in
theorem row_parserules (s : ByteArray) (fuel : Int) (w : World) (hs : s.size ≤ 140737488351232) (hw : (Lit.int .i64 fuel).wf = true) (hP : Pow w) (hE : Errs w) :
    Calls Tryz.prog 3 #[.string s, .int .i64 fuel] w fun e w' => e = .returned (.bool true) ∧ Below w.heap.size w w' := by
  have HP := Lib.hid hP
  have HE := Lib.hid hE
  have hm : s.size ≤ maxLen := by unfold maxLen; omega
  have hb : -9223372036854775808 ≤ fuel ∧ fuel ≤ 9223372036854775807 := by
    unfold Lit.wf at hw
    rw [Bool.and_eq_true, decide_eq_true_eq, decide_eq_true_eq] at hw
    exact ⟨hw.1, hw.2⟩
  obtain ⟨hf1, hf2⟩ := hb
  have cA := fun W (hg : Gr w W) => prules_any s fuel W (HP.out.below hg) (HE.out.gr hg) hm hf1 hf2
  have cB := fun W => srules_any s fuel W hm hf1 hf2
  have cC := fun W (hg : Gr w W) => pcost_any s W (HP.out.below hg) (HE.out.gr hg) hm
  have cD := fun W => scost_any s W hm
  generalize readD s.data.toList fuel = o at *
  obtain ⟨rs, p, l, e⟩ := o
  generalize costD s.data.toList = cd at *
  obtain ⟨n, f⟩ := cd
  dsimp only at *
  have cS := fun v v' W (h : RdRus W (· < W.heap.size) v rs) (h' : RdRus W (· < W.heap.size) v' rs) => rsame_any rs rs v v' W h h'
  rw [ruEq_refl] at cS
  clear hP hE hw hf1 hf2
  have hsz : s.size ≤ 9223372036854775807 := by omega
  rcases Nat.lt_or_ge 1000 s.size with h | h
  · go_enter Tryz.func3, Tryz.ntmps3
    go_wp2_with (go_at_call 5; (with_reducible refine (palive_any _ HP.out HE.out).mono ?_); rintro e w6 ⟨rfl, hb6⟩)
    go_ret
    exact ⟨rfl, hb6⟩
  · go_enter Tryz.func3, Tryz.ntmps3
    go_wp2_with (first
      | (go_at_call 6; (with_reducible refine (cA _ (Gr.refl _)).mono ?_); rintro e w1 ⟨v1, rfl, hr1, hb1⟩; obtain ⟨A1, cp1, rfl, -⟩ := hr1.form)
      | (go_at_call 7; (with_reducible refine (cB _).mono ?_); rintro e w2 ⟨v2, rfl, hr2, hb2⟩; obtain ⟨A2, cp2, rfl, -⟩ := hr2.form
         have hG2 := Gr.trans hb1 hb2)
      | (go_at_call 8; (with_reducible refine (cC _ hG2).mono ?_); rintro e w3 ⟨rfl, hb3⟩
         have hG3 := Gr.trans hG2 hb3)
      | (go_at_call 9; (with_reducible refine (cD _).mono ?_); rintro e w4 ⟨rfl, hb4⟩
         have hG4 := Gr.trans hG3 hb4)
      | (go_at_call 10; (with_reducible refine (cS _ _ _ (hr1.gr (Gr.trans hb2 (Gr.trans hb3 hb4))) (hr2.gr (Gr.trans hb3 hb4))).mono ?_); rintro e w7 ⟨rfl, hb7⟩
         have hG7 := Gr.trans hG4 hb7)
      | (go_at_call 11; (with_reducible refine (lnum_any _ _).mono ?_); rintro e w5 ⟨rfl, rfl⟩)
      | (go_at_call 5; (with_reducible refine (palive_any _ (HP.out.below hG7) (HE.out.gr hG7)).mono ?_); rintro e w6 ⟨rfl, hb6⟩))
    go_ret
    exact ⟨rfl, Gr.trans hG7 hb6⟩
theorem read_back {rs : List Ru} {t : List UInt8} (h : printD rs = (t, 0)) : ∃ l, readD t 1000 = (rs, (t.length : Int), l, 0) := by
  obtain ⟨h1, h2, h3⟩ := read_print h (fuel := 1000) (by decide)
  refine ⟨1000 - fuRs rs, ?_⟩
  rw [readD_run, if_neg (by omega), h2]
  simp [h3]
set_option maxRecDepth 100000 in
set_option maxHeartbeats 8000000 in
theorem row_parseback (rs : List Ru) (v : Value) (w : World) (h : RdRus w (· < w.heap.size) v rs) (hP : Pow w) (hE : Errs w) :
    Calls Tryz.prog 4 #[v] w fun e w' => e = .returned (.bool true) ∧ Below w.heap.size w w' := by
  have HP := Lib.hid hP
  have HE := Lib.hid hE
  have cSm := rsmall_any rs v w h
  have cPr := fun W (hg : Gr w W) => rprint_any rs v W (h.gr hg)
  have hlen : ∀ t, printD rs = (t, 0) → t.length ≤ 600 := fun t ht => by
    have h1 := (read_print ht (fuel := 1000) (by decide)).1
    exact (lexAll_err t h1).1
  have hrb := fun t (ht : printD rs = (t, 0)) => read_back ht
  generalize printD rs = o at *
  obtain ⟨t, e⟩ := o
  dsimp only at *
  clear hP hE
  by_cases he : e = 0
  · subst he
    have hl6 := hlen t rfl
    obtain ⟨l, hrd⟩ := hrb t rfl
    have hts : (ba t).size = t.length := ba_size t
    have cA := fun W (hg : Gr w W) => prules_any (ba t) 1000 W (HP.out.below hg) (HE.out.gr hg) (by rw [hts]; unfold maxLen; omega) (by decide) (by decide)
    rw [show (ba t).data.toList = t from rfl, hrd] at cA
    dsimp only at cA
    have cS := fun v v' W (h : RdRus W (· < W.heap.size) v rs) (h' : RdRus W (· < W.heap.size) v' rs) => rsame_any rs rs v v' W h h'
    rw [ruEq_refl] at cS
    have hsz : (ba t).size ≤ 600 := by rw [hts]; exact hl6
    rw [← hts] at cA
    generalize ba t = T at *
    clear hlen hrb hrd hts hl6
    go_enter Tryz.func4, Tryz.ntmps4
    go_wp2_with (first
      | (go_at_call 12; (with_reducible refine cSm.mono ?_); rintro e w1 ⟨⟨b, rfl⟩, hb1⟩; cases b)
      | (go_at_call 13; (with_reducible refine (cPr _ hb1).mono ?_); rintro e w2 ⟨rfl, hb2⟩
         have hG2 := Gr.trans hb1 hb2)
      | (go_at_call 6; (with_reducible refine (cA _ hG2).mono ?_); rintro e w3 ⟨v3, rfl, hr3, hb3⟩
         have hG3 := Gr.trans hG2 hb3)
      | (go_at_call 11; (with_reducible refine (lnum_any _ _).mono ?_); rintro e w5 ⟨rfl, rfl⟩)
      | (go_at_call 10; (with_reducible refine (cS _ _ _ hr3 (h.gr hG3)).mono ?_); rintro e w7 ⟨rfl, hb7⟩
         have hG7 := Gr.trans hG3 hb7)
      | (go_at_call 5; (with_reducible refine (palive_any _ (HP.out.below (by first | exact hG7 | exact hb1)) (HE.out.gr (by first | exact hG7 | exact hb1))).mono ?_); rintro e w6 ⟨rfl, hb6⟩))
    all_goals
      go_ret
      first | exact ⟨rfl, Gr.trans hG7 hb6⟩ | exact ⟨rfl, Gr.trans hb1 hb6⟩
  · have e1 : (e != 0) = true := by simp [he]
    generalize ba t = T at *
    clear hlen hrb he
    go_enter Tryz.func4, Tryz.ntmps4
    go_wp2_with (first
      | (go_at_call 12; (with_reducible refine cSm.mono ?_); rintro e w1 ⟨⟨b, rfl⟩, hb1⟩; cases b)
      | (go_at_call 13; (with_reducible refine (cPr _ hb1).mono ?_); rintro e w2 ⟨rfl, hb2⟩
         have hG2 := Gr.trans hb1 hb2)
      | (go_at_call 5; (with_reducible refine (palive_any _ (HP.out.below (by first | exact hG2 | exact hb1)) (HE.out.gr (by first | exact hG2 | exact hb1))).mono ?_); rintro e w6 ⟨rfl, hb6⟩))
    all_goals
      go_ret
      first | exact ⟨rfl, Gr.trans hG2 hb6⟩ | exact ⟨rfl, Gr.trans hb1 hb6⟩
end Go.Proofs.YtogpmihepfnoaaaGreatDoor
