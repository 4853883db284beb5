/- Scopes: has a node the fields of its kind? the program's answer. Scopes: the walk of the program's fields. May a scope be? the program's count: the closure, the search. Turned from RuM. May a scope be? the program's count. Scopes: the program's Check. -/
import Derived.Test.YtppnlijeonneeaaDoorPkB
namespace Go.Proofs.YtppnlijeonneeaaDoor
open Go Go.RowKit Go.Sort

/-- The fields are not those of the kind. -/
inductive FldNo (op : Int) (nm : ByteArray) (fr to_ : Int) : Prop
  | op (h : op < 1 ∨ 8 < op)
  | noname (h : op = 2 ∨ op = 3 ∨ op = 4) (h2 : nm = ⟨#[]⟩)
  | badname (h : op = 2 ∨ op = 3 ∨ op = 4) (h2 : nm.size ≠ 0) (h3 : nameD nm = false)
  | named (h : op = 1 ∨ op = 5 ∨ op = 6 ∨ op = 7 ∨ op = 8) (h2 : nm.size ≠ 0)
  | time (h : op = 5) (h2 : nm = ⟨#[]⟩) (h3 : fr < 0 ∨ (0 ≤ fr ∧ to_ < fr) ∨ (0 ≤ fr ∧ fr ≤ to_ ∧ 1099511627776 < to_))
  | span1 (h : op = 2 ∨ op = 3 ∨ op = 4) (h2 : nm.size ≠ 0) (h3 : nameD nm = true) (h4 : fr ≠ 0 ∨ (fr = 0 ∧ to_ ≠ 0))
  | span2 (h : op = 1 ∨ op = 6 ∨ op = 7 ∨ op = 8) (h2 : nm = ⟨#[]⟩) (h4 : fr ≠ 0 ∨ (fr = 0 ∧ to_ ≠ 0))
/-- The fields are those of the kind. -/
inductive FldYes (op : Int) (nm : ByteArray) (fr to_ : Int) : Prop
  | name (h : op = 2 ∨ op = 3 ∨ op = 4) (h2 : nm.size ≠ 0) (h3 : nameD nm = true) (h4 : fr = 0) (h5 : to_ = 0)
  | time (h : op = 5) (h2 : nm = ⟨#[]⟩) (h4 : 0 ≤ fr) (h5 : fr ≤ to_) (h7 : to_ ≤ 1099511627776)
  | other (h : op = 1 ∨ op = 6 ∨ op = 7 ∨ op = 8) (h2 : nm = ⟨#[]⟩) (h4 : fr = 0) (h5 : to_ = 0)
/-- The number of kids is that of the kind. -/
def KidsOk (op : Int) (len : Nat) : Prop := (2 ≤ len ∧ (op = 6 ∨ op = 7)) ∨ (len = 1 ∧ op = 8) ∨ (len = 0 ∧ op ≠ 6 ∧ op ≠ 7 ∧ op ≠ 8)
theorem WayW.fld {op fr to_ : Int} {nm : ByteArray} {len : Nat} (h : WayW op nm fr to_ len) : FldNo op nm fr to_ ∨ (FldYes op nm fr to_ ∧ ¬ KidsOk op len) := by
  unfold KidsOk
  cases h with
  | op h => exact .inl (.op h)
  | noname h h2 => exact .inl (.noname h h2)
  | badname h h2 h3 => exact .inl (.badname h h2 h3)
  | named h h2 => exact .inl (.named h h2)
  | time h h2 h3 => exact .inl (.time h h2 h3)
  | span1 h h2 h3 h4 => exact .inl (.span1 h h2 h3 h4)
  | span2 h h2 h4 => exact .inl (.span2 h h2 h4)
  | kids1 h h2 h3 h4 h5 h6 => exact .inr ⟨.name h h2 h3 h4 h5, by omega⟩
  | kids2 h h2 h4 h5 h7 h6 => exact .inr ⟨.time h h2 h4 h5 h7, by omega⟩
  | kids3 h h2 h4 h5 h6 => exact .inr ⟨.other (by omega) h2 h4 h5, by omega⟩
  | kids4 h h2 h4 h5 h6 => exact .inr ⟨.other (by omega) h2 h4 h5, by omega⟩
  | kids5 h h2 h4 h5 h6 => exact .inr ⟨.other (by omega) h2 h4 h5, by omega⟩
theorem YesW.fld {op fr to_ : Int} {nm : ByteArray} {len : Nat} (h : YesW op nm fr to_ len) : FldYes op nm fr to_ ∧ KidsOk op len := by
  unfold KidsOk
  cases h with
  | name h h2 h3 h4 h5 h6 => exact ⟨.name h h2 h3 h4 h5, by omega⟩
  | time h h2 h4 h5 h7 h6 => exact ⟨.time h h2 h4 h5 h7, by omega⟩
  | all h h2 h4 h5 h6 => exact ⟨.other (by omega) h2 h4 h5, by omega⟩
  | list h h2 h4 h5 h6 => exact ⟨.other (by omega) h2 h4 h5, by omega⟩
  | neg h h2 h4 h5 h6 => exact ⟨.other (by omega) h2 h4 h5, by omega⟩
theorem pkids_any (op : Int) (w : World) (a b : Int) (h : (op = 8 ∧ a = 1 ∧ b = 1) ∨ ((op = 6 ∨ op = 7) ∧ a = 2 ∧ b = 24) ∨ ((op = 1 ∨ op = 2 ∨ op = 3 ∨ op = 4 ∨ op = 5) ∧ a = 0 ∧ b = 0)) :
    Calls Tryd.prog 88 #[.int .i64 op] w fun e w' => e = .returned (.tuple #[.int .i64 a, .int .i64 b]) ∧ w = w' := by
  rcases h with ⟨rfl, rfl, rfl⟩ | ⟨rfl | rfl, rfl, rfl⟩ | ⟨rfl | rfl | rfl | rfl | rfl, rfl, rfl⟩
  all_goals
    go_enter Tryd.func88, Tryd.ntmps88
    go_wp2
    go_ret2
    exact ⟨rfl, rfl⟩
theorem pnamed_yes (op : Int) (w : World) (h : op = 2 ∨ op = 3 ∨ op = 4) : Calls Tryd.prog 111 #[.int .i64 op] w fun e w' => e = .returned (.bool true) ∧ w = w' := by
  rcases h with rfl | rfl | rfl
  all_goals
    go_enter Tryd.func111, Tryd.ntmps111
    go_wp2
    go_ret
    exact ⟨rfl, rfl⟩
theorem pnamed_no (op : Int) (w : World) (h : op = 1 ∨ op = 5 ∨ op = 6 ∨ op = 7 ∨ op = 8) : Calls Tryd.prog 111 #[.int .i64 op] w fun e w' => e = .returned (.bool false) ∧ w = w' := by
  rcases h with rfl | rfl | rfl | rfl | rfl
  all_goals
    go_enter Tryd.func111, Tryd.ntmps111
    go_wp2
    go_ret
    exact ⟨rfl, rfl⟩
end Go.Proofs.YtppnlijeonneeaaDoor

namespace Go.Proofs.YtppnlijeonneeaaDoor
open Go Go.RowKit Go.Sort

set_option maxRecDepth 100000 in
set_option maxHeartbeats 8000000 in
theorem pfields_no (op : Int) (nm : ByteArray) (fr to_ : Int) (A : Option Addr) (len c : Nat) (w : World) (hs : nm.size ≤ 2000) (hF : FldNo op nm fr to_) :
    Calls Tryd.prog 89 #[.agg #[.int .i64 op, .string nm, .int .i64 fr, .int .i64 to_, .slice A len c]] w fun e w' => e = .returned (.bool false) ∧ Gr w w' := by
  have cN := fun W => name_any nm W (by omega)
  have hB0 := Blk.new w 39 #[.int .i64 op, .string nm, .int .i64 fr, .int .i64 to_, .slice A len c]
  have hG0 := Gr.alloc w (.cells #[.int .i64 op, .string nm, .int .i64 fr, .int .i64 to_, .slice A len c] 39)
  cases hF with
  | op h =>
    clear cN hB0 hG0
    rcases h with h | h
    all_goals
      go_enter Tryd.func89, Tryd.ntmps89
      go_wp2
      all_goals (try (exfalso; omega))
      go_ret
      exact ⟨rfl, Gr.alloc _ _⟩
  | noname h h2 =>
    subst h2
    have cR := fun W => pnamed_yes op W (by omega)
    rw [show nameD ⟨#[]⟩ = false from rfl] at cN
    rcases h with rfl | rfl | rfl
    all_goals
      go_enter Tryd.func89, Tryd.ntmps89
      go_wp2_with (first
        | (go_at_call 111; (with_reducible refine (cR _).mono ?_); rintro e w1 ⟨rfl, rfl⟩)
        | (go_at_call 54; (with_reducible refine (cN _).mono ?_); rintro e w1 ⟨rfl, hb1⟩))
      all_goals (try (exfalso; omega))
      go_ret
      exact ⟨rfl, Gr.trans hG0 hb1⟩
  | badname h h2 h3 =>
    have cR := fun W => pnamed_yes op W (by omega)
    rw [h3] at cN
    clear h3
    rcases h with rfl | rfl | rfl
    all_goals
      go_enter Tryd.func89, Tryd.ntmps89
      go_wp2_with (first
        | (go_at_call 111; (with_reducible refine (cR _).mono ?_); rintro e w1 ⟨rfl, rfl⟩)
        | (go_at_call 54; (with_reducible refine (cN _).mono ?_); rintro e w1 ⟨rfl, hb1⟩))
      all_goals (try (exfalso; omega))
      go_ret
      exact ⟨rfl, Gr.trans hG0 hb1⟩
  | named h h2 =>
    obtain ⟨s1, s2, s3⟩ := wr_nil h2
    have cR := fun W => pnamed_no op W (by omega)
    clear cN
    rcases h with rfl | rfl | rfl | rfl | rfl
    all_goals
      go_enter Tryd.func89, Tryd.ntmps89
      go_wp2_with ((go_at_call 111; (with_reducible refine (cR _).mono ?_); rintro e w1 ⟨rfl, rfl⟩))
      all_goals (try (exfalso; omega))
      go_ret
      exact ⟨rfl, hG0⟩
  | time h h2 h3 =>
    subst h h2
    have cR := fun W => pnamed_no 5 W (by omega)
    clear cN
    rcases h3 with h | ⟨h, h'⟩ | ⟨h, h', h''⟩
    all_goals
      go_enter Tryd.func89, Tryd.ntmps89
      go_wp2_with ((go_at_call 111; (with_reducible refine (cR _).mono ?_); rintro e w1 ⟨rfl, rfl⟩))
      all_goals (try (exfalso; omega))
      go_ret
      refine ⟨?_, hG0⟩
      simp <;> omega
  | span1 h h2 h3 h4 =>
    obtain ⟨s1, s2, s3⟩ := wr_nil h2
    have cR := fun W => pnamed_yes op W (by omega)
    rw [h3] at cN
    clear h3
    rcases h4 with h4 | ⟨rfl, h4⟩
    all_goals
      have y1 := beq_eq_false_iff_ne.2 h4
      rcases h with rfl | rfl | rfl
      all_goals
        go_enter Tryd.func89, Tryd.ntmps89
        go_wp2_with (first
          | (go_at_call 111; (with_reducible refine (cR _).mono ?_); rintro e w1 ⟨rfl, rfl⟩)
          | (go_at_call 54; (with_reducible refine (cN _).mono ?_); rintro e w1 ⟨rfl, hb1⟩
             obtain ⟨r0, r1, r2, r3, r4⟩ := five_cells (hB0.below hb1 hB0.lt)))
        all_goals (try (exfalso; omega))
        go_ret
        exact ⟨rfl, Gr.trans hG0 hb1⟩
  | span2 h h2 h4 =>
    subst h2
    have cR := fun W => pnamed_no op W (by omega)
    clear cN
    rcases h4 with h4 | ⟨rfl, h4⟩
    all_goals
      have y1 := beq_eq_false_iff_ne.2 h4
      rcases h with rfl | rfl | rfl | rfl
      all_goals
        go_enter Tryd.func89, Tryd.ntmps89
        go_wp2_with ((go_at_call 111; (with_reducible refine (cR _).mono ?_); rintro e w1 ⟨rfl, rfl⟩))
        all_goals (try (exfalso; omega))
        go_ret
        exact ⟨rfl, hG0⟩
set_option maxRecDepth 100000 in
set_option maxHeartbeats 8000000 in
theorem pfields_yes (op : Int) (nm : ByteArray) (fr to_ : Int) (A : Option Addr) (len c : Nat) (w : World) (hs : nm.size ≤ 2000) (hF : FldYes op nm fr to_) :
    Calls Tryd.prog 89 #[.agg #[.int .i64 op, .string nm, .int .i64 fr, .int .i64 to_, .slice A len c]] w fun e w' => e = .returned (.bool true) ∧ Gr w w' := by
  have cN := fun W => name_any nm W (by omega)
  have hB0 := Blk.new w 39 #[.int .i64 op, .string nm, .int .i64 fr, .int .i64 to_, .slice A len c]
  have hG0 := Gr.alloc w (.cells #[.int .i64 op, .string nm, .int .i64 fr, .int .i64 to_, .slice A len c] 39)
  cases hF with
  | name h h2 h3 h4 h5 =>
    subst h4 h5
    obtain ⟨s1, s2, s3⟩ := wr_nil h2
    have cR := fun W => pnamed_yes op W (by omega)
    rw [h3] at cN
    clear h3
    rcases h with rfl | rfl | rfl
    all_goals
      go_enter Tryd.func89, Tryd.ntmps89
      go_wp2_with (first
        | (go_at_call 111; (with_reducible refine (cR _).mono ?_); rintro e w1 ⟨rfl, rfl⟩)
        | (go_at_call 54; (with_reducible refine (cN _).mono ?_); rintro e w1 ⟨rfl, hb1⟩
           obtain ⟨r0, r1, r2, r3, r4⟩ := five_cells (hB0.below hb1 hB0.lt)))
      all_goals (try (exfalso; omega))
      go_ret
      exact ⟨rfl, Gr.trans hG0 hb1⟩
  | time h h2 h4 h5 h7 =>
    subst h h2
    have cR := fun W => pnamed_no 5 W (by omega)
    clear cN
    go_enter Tryd.func89, Tryd.ntmps89
    go_wp2_with ((go_at_call 111; (with_reducible refine (cR _).mono ?_); rintro e w1 ⟨rfl, rfl⟩))
    all_goals (try (exfalso; omega))
    go_ret
    refine ⟨?_, hG0⟩
    simp <;> omega
  | other h h2 h4 h5 =>
    subst h2 h4 h5
    have cR := fun W => pnamed_no op W (by omega)
    clear cN
    rcases h with rfl | rfl | rfl | rfl
    all_goals
      go_enter Tryd.func89, Tryd.ntmps89
      go_wp2_with ((go_at_call 111; (with_reducible refine (cR _).mono ?_); rintro e w1 ⟨rfl, rfl⟩))
      all_goals (try (exfalso; omega))
      go_ret
      exact ⟨rfl, hG0⟩
end Go.Proofs.YtppnlijeonneeaaDoor

namespace Go.Proofs.YtppnlijeonneeaaDoor
open Go Go.RowKit Go.Sort

/-- All but one block stays. -/
abbrev GrX (w w' : World) (g : Nat) : Prop := w.grownBy w' (some g)
theorem GrX.of_gr {w w' : World} (h : Gr w w') (g : Nat) : GrX w w' g := ⟨h.os, h.tape, h.output, h.size, fun k hk _ => h.block k hk⟩
theorem GrX.set_ {w w' : World} {g : Nat} (h : GrX w w' g) (i : Nat) (v : Value) : GrX w (w'.setCell ⟨g, i, none⟩ v) g :=
  ⟨h.os, h.tape, h.output, by simpa [World.setCell] using h.size, fun k hk hne => (Below.heap_setCell w' ⟨g, i, none⟩ v k (by intro e; exact hne (by simp [e]))).trans (h.block k hk hne)⟩
/-- Blocks that are there, but one. -/
abbrev KX (w : World) (g b : Nat) : Prop := b < w.heap.size ∧ b ≠ g
theorem grx_cell {w w' : World} {g : Nat} (h : GrX w w' g) {p : Addr} (hp : p.block < w.heap.size) (hn : p.block ≠ g) : w'.cell? p = w.cell? p := by
  unfold World.cell?
  rw [h.block p.block hp (fun e => hn (Option.some.inj e))]
theorem RdSc.x {w w' : World} {g : Nat} {x : Sc} {v : Value} (h : RdSc w (KX w g) x v) (hx : GrX w w' g) : RdSc w' (KX w' g) x v :=
  RdSc.mono (fun _ hb => ⟨Nat.lt_of_lt_of_le hb.1 hx.size, hb.2⟩) x v (RdSc.keep (fun _ hp => grx_cell hx hp.1 hp.2) x v h)
theorem RdScL.x {w w' : World} {g : Nat} {xs : List Sc} {vs : List Value} (h : RdScL w (KX w g) xs vs) (hx : GrX w w' g) : RdScL w' (KX w' g) xs vs :=
  RdScL.mono (fun _ hb => ⟨Nat.lt_of_lt_of_le hb.1 hx.size, hb.2⟩) xs vs (RdScL.keep (fun _ hp => grx_cell hx hp.1 hp.2) xs vs h)
theorem Rk.x {w w' : World} {g size n : Nat} {A : Option Addr} {xs : List Value} (h : Rk w (KX w g) size A n xs) (hx : GrX w w' g) : Rk w' (KX w' g) size A n xs :=
  (h.keep fun _ hp => grx_cell hx hp.1 hp.2).mono fun _ hb => ⟨Nat.lt_of_lt_of_le hb.1 hx.size, hb.2⟩
/-- What the count does. -/
def PM (r : Option Nat) (g : Nat) (w : World) (b : Bool) (e : Ending) (w' : World) : Prop :=
  e = .returned (.bool (r.isSome != b)) ∧ GrX w w' g ∧ ∃ z : Int, Blk w' g 92 #[.int .i64 z] ∧ ∀ m, r = some m → z = (m : Int)
def IHM (N : Nat) : Prop := ∀ (x : Sc) (v : Value) (w : World) (g n d : Nat), SizeOf.sizeOf x ≤ N → RdSc w (KX w g) x v → nmOk x = true → Blk w g 92 #[.int .i64 (n : Int)] → n ≤ 24 → d ≤ 1000 →
    Calls Tryd.prog 62 #[.pointer (some ⟨g, 0, none⟩), v, .int .i64 (d : Int)] w (PM (mayS x n d) g w false)
theorem GrX.tr {a b c : World} {g : Nat} (h : GrX a b g) (k : GrX b c g) : GrX a c g := World.grownBy.trans h k
set_option maxRecDepth 100000 in
set_option maxHeartbeats 4000000 in
theorem clos_any (N : Nat) (ih : IHM N) (x : Sc) (v : Value) (w : World) (g m d D b3 b5 : Nat) (hN : SizeOf.sizeOf x ≤ N) (hx : RdSc w (KX w g) x v) (hnm : nmOk x = true) (hB : Blk w g 92 #[.int .i64 (m : Int)])
    (h3 : Blk w b3 90 #[.pointer (some ⟨g, 0, none⟩)]) (h5 : Blk w b5 3 #[.int .i64 (d : Int)]) (hd : d = D + 1) (hm : m ≤ 24) (hD : D ≤ 1000) :
    Calls Tryd.prog 91 #[v, .pointer (some ⟨b3, 0, none⟩), .pointer (some ⟨b5, 0, none⟩)] w (PM (mayS x m D) g w true) := by
  obtain ⟨op, nm, fr, to_, ks⟩ := x
  obtain ⟨A, c, vs, rfl, -⟩ := hx.form
  have hgr := Gr.alloc w (.cells #[.int .i64 op, .string nm, .int .i64 fr, .int .i64 to_, .slice A ks.length c] 39)
  have cM := ih (.mk op nm fr to_ ks) _ _ g m D hN (hx.x (GrX.of_gr hgr g)) hnm (hB.alloc _) hm hD
  have c3 := (h3.alloc (.cells #[.int .i64 op, .string nm, .int .i64 fr, .int .i64 to_, .slice A ks.length c] 39)).cell 0
  have c5 := (h5.alloc (.cells #[.int .i64 op, .string nm, .int .i64 fr, .int .i64 to_, .slice A ks.length c] 39)).cell 0
  have hdd : (d : Int) - 1 = (D : Int) := by omega
  generalize mayS (.mk op nm fr to_ ks) m D = q at *
  have hq : ∀ (W : World) (z : Int) (b : Bool), q.isSome = b → GrX (w.alloc (.cells #[.int .i64 op, .string nm, .int .i64 fr, .int .i64 to_, .slice A ks.length c] 39)) W g → Blk W g 92 #[.int .i64 z] → (∀ m, q = some m → z = (m : Int)) → PM q g w true (.returned (.bool (b != true))) W :=
    fun W z b hb h h2 h3 => ⟨by rw [hb], (GrX.of_gr hgr g).tr h, z, h2, h3⟩
  have HQ := Lib.hid hq
  clear hq
  unfold PM at cM
  generalize q.isSome = b at *
  clear ih hx hB h3 h5 hgr hN hm
  subst hd
  cases b
  all_goals
    go_enter Tryd.func91, Tryd.ntmps91
    go_wp2_with (go_at_call 62; (with_reducible refine cM.mono ?_); rintro e w1 ⟨rfl, hx1, z, hz, hzz⟩)
    go_ret
    exact HQ.out _ z _ rfl hx1 hz hzz
/-- What a search does: below 0 where every part may be. -/
def PI (r : Option Nat) (g : Nat) (w : World) (e : Ending) (w' : World) : Prop :=
  (∃ z : Int, e = .returned (.int .i64 z) ∧ ((0 ≤ z) ↔ r = none) ∧ -1 ≤ z) ∧ GrX w w' g ∧ ∃ z : Int, Blk w' g 92 #[.int .i64 z] ∧ ∀ m, r = some m → z = (m : Int)
set_option maxRecDepth 100000 in
set_option maxHeartbeats 4000000 in
theorem idx_any (N : Nat) (ih : IHM N) (ks : List Sc) (A : Option Addr) (c : Nat) (vs : List Value) (w : World) (g n d D b3 b5 : Nat) (hN : ∀ (k : Nat) (x : Sc), ks[k]? = some x → SizeOf.sizeOf x ≤ N) (hc : ks.length ≤ c) (hcm : c ≤ maxLen)
    (hr : Rk w (KX w g) 5 A ks.length vs) (hl : RdScL w (KX w g) ks vs) (hnk : ∀ k ∈ ks, nmOk k = true) (hB : Blk w g 92 #[.int .i64 (n : Int)])
    (h3 : Blk w b3 90 #[.pointer (some ⟨g, 0, none⟩)]) (h5 : Blk w b5 3 #[.int .i64 (d : Int)]) (hd : d = D + 1) (hn : n ≤ 24) (hD : D ≤ 1000) (hg3 : b3 ≠ g) (hg5 : b5 ≠ g) :
    Calls Tryd.prog 112 #[.slice A ks.length c, .func (.func 91) #[] #[.pointer (some ⟨b3, 0, none⟩), .pointer (some ⟨b5, 0, none⟩)]] w (PI (mayL ks n D) g w) := by
  unfold maxLen at hcm
  have HIH := Lib.hid ih
  have hOut : ∀ (W : World) (z : Int) (k : Int) (st : Option Nat), mayL ks n D = st → ((0 ≤ k) ↔ st = none) → -1 ≤ k → GrX w W g → Blk W g 92 #[.int .i64 z] → (∀ m, st = some m → z = (m : Int)) → PI (mayL ks n D) g w (.returned (.int .i64 k)) W :=
    fun W z k st h0 h1 h2 h hz hzz => ⟨⟨k, rfl, by rw [h0]; exact h1, h2⟩, h, z, hz, fun m hm => hzz m (h0 ▸ hm)⟩
  have HOut := Lib.hid hOut
  clear hOut
  generalize PI (mayL ks n D) g w = Post at *
  clear ih
  go_enter Tryd.func112, Tryd.ntmps112
  go_wp2
  go_loopw [8] (fun v8 wr => ∃ (k m : Nat), v8 = .int .i64 (k : Int) ∧ k ≤ ks.length ∧ m ≤ 24 ∧ CntTo mayL ks n D k (some m) ∧ Blk wr g 92 #[.int .i64 (m : Int)] ∧ GrX w wr g) (fun v8 _ => ks.length - (intOf v8).toNat)
  case atStart => exact ⟨0, n, rfl, Nat.zero_le _, hn, rfl, hB, World.grownBy.refl _ _⟩
  case round =>
    obtain ⟨k, m, rfl, hk, hm, hT, hBr, hx⟩ := hrel
    by_cases hlt : k < ks.length
    · obtain ⟨x, hxk⟩ : ∃ x, ks[k]? = some x := ⟨_, List.getElem?_eq_getElem hlt⟩
      obtain ⟨ad, P, v0, v1, v2, v3, v4, rfl, eP, hP, c0, c1, c2, c3, c4, hsx⟩ := kid_cells (hr.x hx) (hl.x hx) rfl k x hxk
      have cC := clos_any N HIH.out x _ wr g m d D b3 b5 (hN k x hxk) hsx (hnk x (List.mem_of_getElem? hxk)) hBr (h3.grown hx (fun e => hg3 (Option.some.inj e))) (h5.grown hx (fun e => hg5 (Option.some.inj e))) hd hm hD
      have hT2 := hT.step may_cnt hxk
      have hle : ∀ q, mayS x m D = some q → q ≤ 24 := fun q hq => by have := mayS_lt x m D q hq; omega
      unfold PM at cC
      generalize mayS x m D = st at *
      clear hT hxk hN
      cases st with
      | none =>
        have HT := Lib.hid hT2.none
        clear hT2 hle
        go_wp2_with (go_at_call 91; (with_reducible refine cC.mono ?_); rintro e w1 ⟨rfl, hx1, z, hz, hzz⟩)
        all_goals (try (exfalso; omega))
        exact HOut.out _ z _ none HT.out (by simp) (by omega) (GrX.tr hx hx1) hz (fun m h => by cases h)
      | some q =>
        have hq := hle q rfl
        have HT := Lib.hid hT2
        clear hT2 hle
        go_wp2_with (go_at_call 91; (with_reducible refine cC.mono ?_); rintro e w1 ⟨rfl, hx1, z, hz, hzz⟩)
        all_goals (try (exfalso; omega))
        go_roundw
        case rel => exact ⟨k + 1, q, by go_num, by omega, hq, HT.out, by rw [hzz q rfl] at hz; exact hz, GrX.tr hx hx1⟩
        case measure => simp [intOf]; omega
    · obtain rfl : k = ks.length := by omega
      have HT := Lib.hid (hT.end_ may_cnt)
      clear hT
      go_wp2
      all_goals (try (exfalso; omega))
      exact HOut.out _ (m : Int) (-1) (some m) HT.out (by simp) (by omega) hx hBr (fun q h => by cases h; rfl)
/-- Is there one that may not be? -/
def PC (r : Option Nat) (g : Nat) (w : World) (e : Ending) (w' : World) : Prop :=
  e = .returned (.bool r.isNone) ∧ GrX w w' g ∧ ∃ z : Int, Blk w' g 92 #[.int .i64 z] ∧ ∀ m, r = some m → z = (m : Int)
set_option maxRecDepth 100000 in
set_option maxHeartbeats 4000000 in
theorem cont_any (N : Nat) (ih : IHM N) (ks : List Sc) (A : Option Addr) (c : Nat) (vs : List Value) (w : World) (g n d D b3 b5 : Nat) (hN : ∀ (k : Nat) (x : Sc), ks[k]? = some x → SizeOf.sizeOf x ≤ N) (hc : ks.length ≤ c) (hcm : c ≤ maxLen)
    (hr : Rk w (KX w g) 5 A ks.length vs) (hl : RdScL w (KX w g) ks vs) (hnk : ∀ k ∈ ks, nmOk k = true) (hB : Blk w g 92 #[.int .i64 (n : Int)])
    (h3 : Blk w b3 90 #[.pointer (some ⟨g, 0, none⟩)]) (h5 : Blk w b5 3 #[.int .i64 (d : Int)]) (hd : d = D + 1) (hn : n ≤ 24) (hD : D ≤ 1000) (hg3 : b3 ≠ g) (hg5 : b5 ≠ g) :
    Calls Tryd.prog 90 #[.slice A ks.length c, .func (.func 91) #[] #[.pointer (some ⟨b3, 0, none⟩), .pointer (some ⟨b5, 0, none⟩)]] w (PC (mayL ks n D) g w) := by
  have cI := idx_any N ih ks A c vs w g n d D b3 b5 hN hc hcm hr hl hnk hB h3 h5 hd hn hD hg3 hg5
  clear ih hN hc hcm hr hl hnk hB h3 h5 hn hD hg3 hg5
  generalize mayL ks n D = r at *
  have hp : ∀ (W : World) (z : Int) (b : Bool), b = r.isNone → GrX w W g → Blk W g 92 #[.int .i64 z] → (∀ m, r = some m → z = (m : Int)) → PC r g w (.returned (.bool b)) W :=
    fun W z b hb h h2 h3 => ⟨by rw [hb], h, z, h2, h3⟩
  have HP := Lib.hid hp
  clear hp
  generalize PC r g w = Post at *
  unfold PI at cI
  go_enter Tryd.func90, Tryd.ntmps90
  go_wp2_with (go_at_call 112; (with_reducible refine cI.mono ?_); rintro e w1 ⟨⟨q, rfl, hq, hq1⟩, hx1, z, hz, hzz⟩)
  refine HP.out _ z _ ?_ hx1 hz hzz
  cases r <;> simp
end Go.Proofs.YtppnlijeonneeaaDoor

namespace Go.Proofs.YtppnlijeonneeaaDoor
open Go Go.RowKit Go.Sort

theorem pkids_no (op : Int) (w : World) (h6 : op ≠ 6) (h7 : op ≠ 7) (h8 : op ≠ 8) : Calls Tryd.prog 88 #[.int .i64 op] w fun e w' => e = .returned (.tuple #[.int .i64 0, .int .i64 0]) ∧ w = w' := by
  have y6 : (op == 6) = false := beq_eq_false_iff_ne.2 h6
  have y7 : (op == 7) = false := beq_eq_false_iff_ne.2 h7
  have y8 : (op == 8) = false := beq_eq_false_iff_ne.2 h8
  go_enter Tryd.func88, Tryd.ntmps88
  go_wp2
  go_ret2
  exact ⟨rfl, rfl⟩
theorem pkids_all (op : Int) : ∃ a b : Int, ((op = 8 ∧ a = 1 ∧ b = 1) ∨ ((op = 6 ∨ op = 7) ∧ a = 2 ∧ b = 24) ∨ ((op ≠ 6 ∧ op ≠ 7 ∧ op ≠ 8) ∧ a = 0 ∧ b = 0)) ∧
    ∀ w, Calls Tryd.prog 88 #[.int .i64 op] w fun e w' => e = .returned (.tuple #[.int .i64 a, .int .i64 b]) ∧ w = w' := by
  by_cases h8 : op = 8
  · exact ⟨1, 1, by omega, fun w => pkids_any op w 1 1 (by omega)⟩
  · by_cases h6 : op = 6 ∨ op = 7
    · exact ⟨2, 24, by omega, fun w => pkids_any op w 2 24 (by omega)⟩
    · exact ⟨0, 0, by omega, fun w => pkids_no op w (by omega) (by omega) h8⟩
set_option maxRecDepth 100000 in
set_option maxHeartbeats 8000000 in
theorem pmay_n : ∀ N : Nat, IHM N
  | 0 => by
    intro x v w g n d hN _ _ _ _ _
    obtain ⟨op, nm, fr, to_, ks⟩ := x
    have : 0 < SizeOf.sizeOf (Sc.mk op nm fr to_ ks) := by rw [Sc.mk.sizeOf_spec]; omega
    omega
  | N + 1 => by
    intro x v w g n d hN hx hnm hB hn hd
    have ih := pmay_n N
    obtain ⟨op, nm, fr, to_, ks⟩ := x
    obtain ⟨A, c, vs, rfl, ⟨hc, hcm⟩, hr, hl⟩ := hx.form
    clear hx
    obtain ⟨hs, hks⟩ := nmOk_mk.1 hnm
    have hnk := nmOkL_all.1 hks
    have hsz : ∀ (k : Nat) (x : Sc), ks[k]? = some x → SizeOf.sizeOf x ≤ N := by
      intro k x hx
      have h1 := List.sizeOf_lt_of_mem (List.mem_of_getElem? hx)
      have h2 : SizeOf.sizeOf (Sc.mk op nm fr to_ ks) = 1 + SizeOf.sizeOf op + SizeOf.sizeOf nm + SizeOf.sizeOf fr + SizeOf.sizeOf to_ + SizeOf.sizeOf ks := Sc.mk.sizeOf_spec op nm fr to_ ks
      omega
    have hcL : (ks.length : Int) ≤ 9223372036854775807 := by unfold maxLen at hcm; omega
    -- the world behind the boxes and the count
    obtain ⟨W3, hW3⟩ : ∃ W3, ((w.alloc (.cells #[.pointer (some ⟨g, 0, none⟩)] 90)).alloc (.cells #[.int .i64 op, .string nm, .int .i64 fr, .int .i64 to_, .slice A ks.length c] 39)).alloc (.cells #[.int .i64 (d : Int)] 3) = W3 := ⟨_, rfl⟩
    have gW3 : Gr w W3 := by rw [← hW3]; exact Gr.trans (Gr.trans (Gr.alloc _ _) (Gr.alloc _ _)) (Gr.alloc _ _)
    have hgl := hB.lt
    have s3 : W3.heap.size = w.heap.size + 3 := by rw [← hW3]; simp
    have B3 : Blk W3 w.heap.size 90 #[.pointer (some ⟨g, 0, none⟩)] := by rw [← hW3]; exact ((Blk.new w _ _).alloc _).alloc _
    have B4 : Blk W3 (w.heap.size + 1) 39 #[.int .i64 op, .string nm, .int .i64 fr, .int .i64 to_, .slice A ks.length c] := by
      rw [← hW3]
      have h := (Blk.new (w.alloc (.cells #[.pointer (some ⟨g, 0, none⟩)] 90)) 39 #[.int .i64 op, .string nm, .int .i64 fr, .int .i64 to_, .slice A ks.length c]).alloc (.cells #[.int .i64 (d : Int)] 3)
      rwa [show (w.alloc (.cells #[.pointer (some ⟨g, 0, none⟩)] 90)).heap.size = w.heap.size + 1 by simp] at h
    have B5 : Blk W3 (w.heap.size + 1 + 1) 3 #[.int .i64 (d : Int)] := by
      rw [← hW3]
      have h := Blk.new ((w.alloc (.cells #[.pointer (some ⟨g, 0, none⟩)] 90)).alloc (.cells #[.int .i64 op, .string nm, .int .i64 fr, .int .i64 to_, .slice A ks.length c] 39)) 3 #[.int .i64 (d : Int)]
      rwa [show ((w.alloc (.cells #[.pointer (some ⟨g, 0, none⟩)] 90)).alloc (.cells #[.int .i64 op, .string nm, .int .i64 fr, .int .i64 to_, .slice A ks.length c] 39)).heap.size = w.heap.size + 1 + 1 by simp] at h
    have BC : Blk W3 g 92 #[.int .i64 (n : Int)] := hB.below gW3 hgl
    obtain ⟨W4, hW4⟩ : ∃ W4, W3.setCell ⟨g, 0, none⟩ (.int .i64 ((n : Int) - 1)) = W4 := ⟨_, rfl⟩
    have C3 : Blk W4 w.heap.size 90 #[.pointer (some ⟨g, 0, none⟩)] := by rw [← hW4]; exact B3.far (by show w.heap.size ≠ g; omega) _
    have C4 : Blk W4 (w.heap.size + 1) 39 #[.int .i64 op, .string nm, .int .i64 fr, .int .i64 to_, .slice A ks.length c] := by rw [← hW4]; exact B4.far (by show w.heap.size + 1 ≠ g; omega) _
    have C5 : Blk W4 (w.heap.size + 1 + 1) 3 #[.int .i64 (d : Int)] := by rw [← hW4]; exact B5.far (by show w.heap.size + 1 + 1 ≠ g; omega) _
    have CC : Blk W4 g 92 #[.int .i64 ((n : Int) - 1)] := by rw [← hW4]; simpa using BC.set_ 0 (.int .i64 ((n : Int) - 1))
    have xW4 : GrX w W4 g := by rw [← hW4]; exact (GrX.of_gr gW3 g).set_ 0 _
    have hp : ∀ (W : World) (z : Int) (b : Bool), b = (mayS (.mk op nm fr to_ ks) n d).isSome → GrX W4 W g → Blk W g 92 #[.int .i64 z] → (∀ m, mayS (.mk op nm fr to_ ks) n d = some m → z = (m : Int)) → PM (mayS (.mk op nm fr to_ ks) n d) g w false (.returned (.bool b)) W :=
      fun W z b hb h h2 h3 => ⟨by rw [hb]; simp, GrX.tr xW4 h, z, h2, h3⟩
    have HP := Lib.hid hp
    clear hp
    have hG3 := Lib.hid gW3
    have p3 : W3.cell? ⟨w.heap.size, 0, none⟩ = some (.pointer (some ⟨g, 0, none⟩)) := B3.cell 0
    have p5 : W3.cell? ⟨w.heap.size + 1 + 1, 0, none⟩ = some (.int .i64 (d : Int)) := B5.cell 0
    have pc : W3.cell? ⟨g, 0, none⟩ = some (.int .i64 (n : Int)) := BC.cell 0
    have pf : W3.frozen? ⟨g, 0, none⟩ = false := BC.frozen 0
    have q3 : W4.cell? ⟨w.heap.size, 0, none⟩ = some (.pointer (some ⟨g, 0, none⟩)) := C3.cell 0
    have q5 : W4.cell? ⟨w.heap.size + 1 + 1, 0, none⟩ = some (.int .i64 (d : Int)) := C5.cell 0
    have qc : W4.cell? ⟨g, 0, none⟩ = some (.int .i64 ((n : Int) - 1)) := CC.cell 0
    obtain ⟨q40, q41, q42, q43, q44⟩ := five_cells C4
    have l4 : w.heap.size + 1 < W4.heap.size := C4.lt
    have cC : ∀ W, Gr W4 W → ∀ M D : Nat, (n : Int) - 1 = (M : Int) → d = D + 1 → M ≤ 24 → D ≤ 1000 → Calls Tryd.prog 90 #[.slice A ks.length c, .func (.func 91) #[] #[.pointer (some ⟨w.heap.size, 0, none⟩), .pointer (some ⟨w.heap.size + 1 + 1, 0, none⟩)]] W (PC (mayL ks M D) g W) :=
      fun W hg M D hM hd h1 h2 => cont_any N ih ks A c vs W g M d D _ _ hsz hc hcm ((hr.x xW4).x (GrX.of_gr hg g)) ((hl.x xW4).x (GrX.of_gr hg g)) hnk (by rw [← hM]; exact CC.below hg CC.lt) (C3.below hg C3.lt) (C5.below hg C5.lt) hd h1 h2 (by omega) (by omega)
    have HcC := Lib.hid cC
    clear cC ih hr hl hsz
    subst hW4 hW3
    have refl4 := World.grownBy.refl (((w.alloc (.cells #[.pointer (some ⟨g, 0, none⟩)] 90)).alloc (.cells #[.int .i64 op, .string nm, .int .i64 fr, .int .i64 to_, .slice A ks.length c] 39)).alloc (.cells #[.int .i64 (d : Int)] 3) |>.setCell ⟨g, 0, none⟩ (.int .i64 ((n : Int) - 1))) (some g)
    have hno : mayS (.mk op nm fr to_ ks) n d = none → ∀ m, mayS (.mk op nm fr to_ ks) n d = some m → ((n : Int) - 1) = (m : Int) := fun h m hm => by rw [h] at hm; cases hm
    have HNO := Lib.hid hno
    clear hno B3 B4 B5 BC C3 C4 C5 xW4 hG3 gW3 s3
    generalize hPost : PM (mayS (.mk op nm fr to_ ks) n d) g w false = Post at *
    have HCC := Lib.hid CC
    clear CC hPost
    obtain ⟨a, b, hab, cK⟩ := pkids_all op
    have hlp : (0 : Int) ≤ (ks.length : Int) := by omega
    have hout2 : ∀ (W W' : World), GrX W W g → Gr W W' → Blk W g 92 #[.int .i64 ((n : Int) - 1)] → GrX W W' g ∧ Blk W' g 92 #[.int .i64 ((n : Int) - 1)] := fun W W' _ h2 h3 => ⟨GrX.of_gr h2 g, h3.below h2 h3.lt⟩
    by_cases h0 : n = 0 ∨ d = 0
    · have hm := @mayS_0 op fr to_ nm ks n d h0
      have HM := Lib.hid hm
      have HAB := Lib.hid hab
      rcases (by simp only [beq_iff_eq]; omega : n < 1 ∨ (1 ≤ n ∧ ((d : Int) == 0) = true)) with h | ⟨h, h'⟩
      all_goals
        clear h0 hm hab hlp
        go_enter Tryd.func62, Tryd.ntmps62
        go_wp2_with (go_at_call 88; (with_reducible refine (cK _).mono ?_); rintro e w1 ⟨rfl, rfl⟩)
        all_goals (try (exfalso; omega))
        exact HP.out _ _ _ (by rw [HM.out]; try rfl) refl4 HCC.out (HNO.out HM.out)
    · have hn1 : 1 ≤ n := by omega
      have hd1 : 1 ≤ d := by omega
      have hd2 : ((d : Int) == 0) = false := by simp; omega
      have hd3 : decide (d = 0) = false := decide_eq_false (by omega)
      rcases way_no (op := op) (nm := nm) (fr := fr) (to_ := to_) (ks := ks) h0 with ⟨hW, hm⟩ | ⟨hY, hm⟩
      · have HM := Lib.hid hm
        clear h0 hm
        rcases hW.fld with hF | ⟨hF, hk⟩
        · have cF := fun W => pfields_no op nm fr to_ A ks.length c W hs hF
          clear hW hF hab hlp
          go_enter Tryd.func62, Tryd.ntmps62
          go_wp2_with (first
            | (go_at_call 88; (with_reducible refine (cK _).mono ?_); rintro e w1 ⟨rfl, rfl⟩)
            | (go_at_call 89; (with_reducible refine (cF _).mono ?_); rintro e w1 ⟨rfl, hb1⟩
               have r3 := (hb1.cell (p := ⟨w.heap.size + 1, 4, none⟩) l4).trans q44))
          all_goals (try (exfalso; omega))
          exact HP.out _ _ _ (by rw [HM.out]; try rfl) (GrX.of_gr hb1 g) (HCC.out.below hb1 HCC.out.lt) (HNO.out HM.out)
        · have cF := fun W => pfields_yes op nm fr to_ A ks.length c W hs hF
          have hk2 : (ks.length : Int) < a ∨ (a ≤ (ks.length : Int) ∧ b < (ks.length : Int)) := by unfold KidsOk at hk; omega
          clear hW hF hab hlp hk
          rcases hk2 with h | ⟨h, h'⟩
          all_goals
            go_enter Tryd.func62, Tryd.ntmps62
            go_wp2_with (first
              | (go_at_call 88; (with_reducible refine (cK _).mono ?_); rintro e w1 ⟨rfl, rfl⟩)
              | (go_at_call 89; (with_reducible refine (cF _).mono ?_); rintro e w1 ⟨rfl, hb1⟩
                 have r3 := (hb1.cell (p := ⟨w.heap.size + 1, 4, none⟩) l4).trans q44))
            all_goals (try (exfalso; omega))
            exact HP.out _ _ _ (by rw [HM.out]; try rfl) (GrX.of_gr hb1 g) (HCC.out.below hb1 HCC.out.lt) (HNO.out HM.out)
      · obtain ⟨hF, hk⟩ := hY.fld
        have cF := fun W => pfields_yes op nm fr to_ A ks.length c W hs hF
        have hka : a ≤ (ks.length : Int) := by unfold KidsOk at hk; omega
        by_cases hkb : b < (ks.length : Int)
        · have hm24 : 24 < ks.length := by unfold KidsOk at hk; omega
          rw [mayL_many (by omega)] at hm
          have HM := Lib.hid hm
          clear hY hF hab hlp hk hm hm24 h0
          go_enter Tryd.func62, Tryd.ntmps62
          go_wp2_with (first
            | (go_at_call 88; (with_reducible refine (cK _).mono ?_); rintro e w1 ⟨rfl, rfl⟩)
            | (go_at_call 89; (with_reducible refine (cF _).mono ?_); rintro e w1 ⟨rfl, hb1⟩
               have r3 := (hb1.cell (p := ⟨w.heap.size + 1, 4, none⟩) l4).trans q44))
          all_goals (try (exfalso; omega))
          exact HP.out _ _ _ (by rw [HM.out]; try rfl) (GrX.of_gr hb1 g) (HCC.out.below hb1 HCC.out.lt) (HNO.out HM.out)
        · obtain ⟨M, hM⟩ : ∃ M, n - 1 = M := ⟨_, rfl⟩
          obtain ⟨D, hD⟩ : ∃ D, d - 1 = D := ⟨_, rfl⟩
          rw [hM, hD] at hm
          have hM2 : (n : Int) - 1 = (M : Int) := by omega
          have hdD : d = D + 1 := by omega
          have hD1 : D ≤ 1000 := by omega
          have hM1 : M ≤ 24 := by omega
          have cC := fun W hg => HcC.out W hg M D hM2 hdD hM1 hD1
          have hkb' : (ks.length : Int) ≤ b := by omega
          have hpp : ∀ (z : Int) (r : Option Nat), mayL ks M D = r → (∀ m, r = some m → z = (m : Int)) → ∀ m, mayS (.mk op nm fr to_ ks) n d = some m → z = (m : Int) := fun z r hr h m h2 => h m (by rw [← hr, ← hm, h2])
          have hmb : (mayS (.mk op nm fr to_ ks) n d).isSome = !(mayL ks M D).isNone := by rw [hm]; cases mayL ks M D <;> rfl
          have HPP := Lib.hid hpp
          have HMB := Lib.hid hmb
          unfold PC at cC
          generalize hq : mayL ks M D = q at *
          have HQ := Lib.hid hq
          clear hpp hmb hm hq hM hD hdD hD1 hM1 hM2 hY hF hab hlp hk h0 hkb
          cases q
          all_goals
            go_enter Tryd.func62, Tryd.ntmps62
            go_wp2_with (first
              | (go_at_call 88; (with_reducible refine (cK _).mono ?_); rintro e w1 ⟨rfl, rfl⟩)
              | (go_at_call 89; (with_reducible refine (cF _).mono ?_); rintro e w1 ⟨rfl, hb1⟩
                 have r3 := (hb1.cell (p := ⟨w.heap.size + 1, 4, none⟩) l4).trans q44)
              | (go_at_call 90; (with_reducible refine (cC _ hb1).mono ?_); rintro e w2 ⟨rfl, hx1, z, hz, hzz⟩))
            all_goals (try (exfalso; omega))
            exact HP.out _ z _ (by rw [HMB.out]; try rfl) (GrX.tr (GrX.of_gr hb1 g) hx1) hz (HPP.out z _ rfl hzz)
end Go.Proofs.YtppnlijeonneeaaDoor

namespace Go.Proofs.YtppnlijeonneeaaDoor
open Go Go.RowKit Go.Sort

theorem gr_x {w w2 w' : World} {g : Nat} (hg : Gr w w2) (hx : GrX w2 w' g) (h : w.heap.size ≤ g) : Gr w w' :=
  ⟨hx.os.trans hg.os, hx.tape.trans hg.tape, hx.output.trans hg.output, Nat.le_trans hg.size hx.size, fun k hk => (hx.block k (by have := hg.size; omega) (fun e => by have := Option.some.inj e; omega)).trans (hg.block k hk)⟩
def errW (r : Option Nat) : Int := if r.isSome = true then 0 else 1
set_option maxRecDepth 100000 in
set_option maxHeartbeats 4000000 in
theorem scheck_any (x : Sc) (v : Value) (w : World) (hx : RdSc w (· < w.heap.size) x v) (hnm : nmOk x = true) : Calls Tryd.prog 44 #[v] w fun e w' => e = .returned (.int .i64 (errW (mayS x 24 8))) ∧ Gr w w' := by
  have hM := pmay_n (SizeOf.sizeOf x) x
  obtain ⟨op, nm, fr, to_, ks⟩ := x
  obtain ⟨A, c, vs, rfl, _⟩ := hx.form
  have g1 := Gr.alloc w (.cells #[.int .i64 op, .string nm, .int .i64 fr, .int .i64 to_, .slice A ks.length c] 39)
  have g2 := Gr.alloc (w.alloc (.cells #[.int .i64 op, .string nm, .int .i64 fr, .int .i64 to_, .slice A ks.length c] 39)) (.cells #[.int .i64 24] 92)
  have hB := Blk.new (w.alloc (.cells #[.int .i64 op, .string nm, .int .i64 fr, .int .i64 to_, .slice A ks.length c] 39)) 92 #[.int .i64 24]
  have hs1 : (w.alloc (.cells #[.int .i64 op, .string nm, .int .i64 fr, .int .i64 to_, .slice A ks.length c] 39)).heap.size = w.heap.size + 1 := by simp
  rw [hs1] at hB
  have hG := Gr.trans g1 g2
  have hx2 := RdSc.mono (K' := KX ((w.alloc (.cells #[.int .i64 op, .string nm, .int .i64 fr, .int .i64 to_, .slice A ks.length c] 39)).alloc (.cells #[.int .i64 24] 92)) (w.heap.size + 1)) (fun b hb => ⟨Nat.lt_of_lt_of_le hb hG.size, by have : b < w.heap.size := hb; omega⟩) _ _ (RdSc.keep (fun p hp => hG.cell hp) _ _ hx)
  have cM : Calls Tryd.prog 62 #[.pointer (some ⟨w.heap.size + 1, 0, none⟩), .agg #[.int .i64 op, .string nm, .int .i64 fr, .int .i64 to_, .slice A ks.length c], .int .i64 8] ((w.alloc (.cells #[.int .i64 op, .string nm, .int .i64 fr, .int .i64 to_, .slice A ks.length c] 39)).alloc (.cells #[.int .i64 24] 92)) (PM (mayS (.mk op nm fr to_ ks) 24 8) (w.heap.size + 1) ((w.alloc (.cells #[.int .i64 op, .string nm, .int .i64 fr, .int .i64 to_, .slice A ks.length c] 39)).alloc (.cells #[.int .i64 24] 92)) false) := hM _ _ (w.heap.size + 1) 24 8 (Nat.le_refl _) hx2 hnm hB (by omega) (by omega)
  unfold PM at cM
  have hq : ∀ (W : World) (b : Bool), (mayS (.mk op nm fr to_ ks) 24 8).isSome = b → GrX ((w.alloc (.cells #[.int .i64 op, .string nm, .int .i64 fr, .int .i64 to_, .slice A ks.length c] 39)).alloc (.cells #[.int .i64 24] 92)) W (w.heap.size + 1) → (errW (mayS (.mk op nm fr to_ ks) 24 8) = if b = true then 0 else 1) ∧ Gr w W := fun W b hb hX => ⟨by unfold errW; rw [hb], gr_x hG hX (by omega)⟩
  have HQ := Lib.hid hq
  clear hq
  generalize mayS (.mk op nm fr to_ ks) 24 8 = q at *
  generalize hb : q.isSome = b at *
  have HB := Lib.hid hb
  generalize errW q = z at *
  clear hM g1 g2 hB hG hx2 hx hb
  cases b
  all_goals
    go_enter Tryd.func44, Tryd.ntmps44
    go_wp2_with (go_at_call 62; go_loud ((with_reducible refine cM.mono ?_); rintro e w1 ⟨rfl, hx1, _⟩))
    all_goals (try (exfalso; omega))
    go_ret
    obtain ⟨h1, h2⟩ := HQ.out _ _ rfl hx1
    exact ⟨by rw [h1]; rfl, h2⟩
end Go.Proofs.YtppnlijeonneeaaDoor
