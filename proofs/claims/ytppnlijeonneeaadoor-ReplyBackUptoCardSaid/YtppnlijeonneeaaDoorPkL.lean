/- Answers: the law's small. Answers: the page's example. Answers: the law ReplyTexts. An argument that is an answer: what a datum that is read says of memory, and how large it may be under the row's bound. Answers: the law ReplyBack. -/
import Derived.Test.YtppnlijeonneeaaDoorPkK
import Derived.Lib.SlBytesConst
import Derived.Lib.QuietBelow
import Derived.Test.YtppnlijeonneeaaDoorPkD
import Derived.Test.YtppnlijeonneeaaDoorRows
namespace Go.Proofs.YtppnlijeonneeaaDoor
open Go Go.RowKit Go.Sort

def totW {α : Type} (f : α → Nat) : List α → Nat
  | [] => 0
  | x :: l => f x + totW f l
theorem totW_snoc {α : Type} (f : α → Nat) (l : List α) (x : α) : totW f (l ++ [x]) = totW f l + f x := by
  induction l with
  | nil => simp [totW]
  | cons y l ih => rw [List.cons_append, totW, totW, ih]; omega
theorem totW_take {α : Type} (f : α → Nat) {l : List α} {k : Nat} {x : α} (h : l[k]? = some x) : totW f (l.take (k + 1)) = totW f (l.take k) + f x := by
  obtain ⟨hl, e⟩ := List.getElem?_eq_some_iff.1 h
  rw [List.take_succ_eq_append_getElem hl, e, totW_snoc]
theorem totW_le {α : Type} (f : α → Nat) (l : List α) : ∀ k, totW f (l.take k) ≤ totW f l := by
  induction l with
  | nil => intro k; simp
  | cons y l ih =>
    intro k
    cases k with
    | zero => exact Nat.zero_le _
    | succ k =>
      have := ih k
      rw [List.take_succ_cons, totW, totW]
      omega
theorem ledW_tot (c : UInt8) : ∀ l : List (List UInt8), (ledW c l).length = 2 * l.length + totW List.length l
  | [] => rfl
  | x :: l => by
    rw [ledW_cons, totW]
    simp only [List.length_cons, List.length_append]
    rw [ledW_tot c l]
    omega
theorem tot_map {α : Type} (g : α → List UInt8) : ∀ l : List α, totW List.length (l.map g) = totW (fun a => (g a).length) l
  | [] => rfl
  | x :: l => by rw [List.map_cons, totW, totW, tot_map g l]
theorem tot_two {α : Type} (f : α → Nat) : ∀ l : List α, totW (fun a => 2 * f a) l = 2 * totW f l
  | [] => rfl
  | x :: l => by rw [totW, totW, tot_two f l]; omega
theorem sz_tot (r : Rep) : szW r = 2 * r.nms.length + totW ByteArray.size r.nms + (2 * r.held.length + totW ByteArray.size r.held) + (2 * r.lst.length + 2 * totW List.length r.lst) := by
  unfold szW
  rw [ledW_tot, ledW_tot, ledW_tot]
  have e1 : totW List.length r.nl = totW ByteArray.size r.nms := by
    unfold Rep.nl
    rw [tot_map]
    congr 1
  have e2 : totW List.length r.hl = totW ByteArray.size r.held := by
    unfold Rep.hl
    rw [tot_map]
    congr 1
  have e3 : totW List.length r.xl = 2 * totW List.length r.lst := by
    unfold Rep.xl
    rw [tot_map, ← tot_two]
    congr 1
    funext a
    rw [hexL_len]
  rw [e1, e2, e3]
  simp [Rep.nl, Rep.hl, Rep.xl]
/-- An answer is not too much to be looked at. -/
def bulkR (r : Rep) : Prop := r.nms.length ≤ 1048576 ∧ r.held.length ≤ 1048576 ∧ r.lst.length ≤ 1048576 ∧ totW ByteArray.size r.nms ≤ 1048576 ∧ totW ByteArray.size r.held ≤ 1048576 ∧ totW List.length r.lst ≤ 1048576
theorem num_anyR (n : Int) (w : World) : Calls Tryd.prog 14 #[.int .i64 n] w fun e w' => e = .returned (.int .i64 n) ∧ w' = w := by
  go_enter Tryd.func14, Tryd.ntmps14
  go_wp2
  go_ret
  exact ⟨rfl, rfl⟩
def smallB (r : Rep) : Bool := decide (r.nms.length ≤ 30 ∧ r.held.length ≤ 30 ∧ r.lst.length ≤ 30 ∧ totW ByteArray.size r.nms + totW ByteArray.size r.held + totW List.length r.lst ≤ 1500)
theorem smallB_sz {r : Rep} (h : smallB r = true) : szW r ≤ 4000 := by
  obtain ⟨h1, h2, h3, h4⟩ := of_decide_eq_true h
  rw [sz_tot]
  omega
set_option maxRecDepth 100000 in
set_option maxHeartbeats 8000000 in
theorem small_any (r : Rep) (v : Value) (w : World) (hr : RdRep w (· < w.heap.size) r v) (hbk : bulkR r) :
    Calls Tryd.prog 7 #[v] w fun e w' => e = .returned (.bool (smallB r)) ∧ Gr w w' := by
  obtain ⟨er, n, nms, held, lst⟩ := r
  obtain ⟨v1, v2, v3, rfl, ⟨A1, c1, rfl, q1, k1⟩, ⟨A2, c2, rfl, q2, k2⟩, ⟨A3, c3, vs, rfl, q3, k3, l3⟩⟩ := hr
  obtain ⟨b1, b2, b3, b4, b5, b6⟩ := hbk
  dsimp only at *
  have q1m := q1.2
  have q2m := q2.2
  have q3m := q3.2
  unfold maxLen at q1m q2m q3m
  have q1l := q1.1
  have q2l := q2.1
  have q3l := q3.1
  have g1 := Gr.alloc w (.cells #[.int .i64 er, .int .i64 n, .slice A1 nms.length c1, .slice A2 held.length c2, .slice A3 lst.length c3] 26)
  have hX := Blk.new w 26 #[.int .i64 er, .int .i64 n, .slice A1 nms.length c1, .slice A2 held.length c2, .slice A3 lst.length c3]
  obtain ⟨s0, s1, s2, s3, s4⟩ := five_cells hX
  have HT1 := Lib.hid (fun k x (h : nms[k]? = some x) => totW_take ByteArray.size h)
  have HT2 := Lib.hid (fun k x (h : held[k]? = some x) => totW_take ByteArray.size h)
  have HT3 := Lib.hid (fun k x (h : lst[k]? = some x) => totW_take List.length h)
  have HL1 := Lib.hid (fun k => Nat.le_trans (totW_le ByteArray.size nms k) b4)
  have HL2 := Lib.hid (fun k => Nat.le_trans (totW_le ByteArray.size held k) b5)
  have HL3 := Lib.hid (fun k => Nat.le_trans (totW_le List.length lst k) b6)
  have HE1 := Lib.hid (show totW ByteArray.size (nms.take nms.length) = totW ByteArray.size nms by rw [List.take_length])
  have HE2 := Lib.hid (show totW ByteArray.size (held.take held.length) = totW ByteArray.size held by rw [List.take_length])
  have HE3 := Lib.hid (show totW List.length (lst.take lst.length) = totW List.length lst by rw [List.take_length])
  have SB0 := Lib.hid (show 30 < nms.length ∨ 30 < held.length ∨ 30 < lst.length → smallB ⟨er, n, nms, held, lst⟩ = false from fun h => decide_eq_false (by rintro ⟨h1, h2, h3, _⟩; dsimp only at h1 h2 h3; omega))
  have SB1 := Lib.hid (show nms.length ≤ 30 → held.length ≤ 30 → lst.length ≤ 30 → ∀ a b c : Nat, a = totW ByteArray.size nms → b = totW ByteArray.size held → c = totW List.length lst → smallB ⟨er, n, nms, held, lst⟩ = decide ((a : Int) + (b : Int) + (c : Int) ≤ 1500) from fun h1 h2 h3 a b c ha hb hc => by
    subst ha hb hc
    unfold smallB
    refine decide_eq_decide.2 ⟨fun h => by have := h.2.2.2; dsimp only at this; omega, fun h => ⟨h1, h2, h3, by dsimp only; omega⟩⟩)
  have hfin : ∀ b : Bool, smallB ⟨er, n, nms, held, lst⟩ = b → Ending.returned (.bool b) = .returned (.bool (smallB ⟨er, n, nms, held, lst⟩)) ∧ Gr w (w.alloc (.cells #[.int .i64 er, .int .i64 n, .slice A1 nms.length c1, .slice A2 held.length c2, .slice A3 lst.length c3] 26)) := fun b hb => ⟨by rw [hb], g1⟩
  obtain ⟨Post, hPost⟩ : ∃ Post : Ending → World → Prop, Post = fun e w' => e = .returned (.bool (smallB ⟨er, n, nms, held, lst⟩)) ∧ Gr w w' := ⟨_, rfl⟩
  clear q1 q2 q3
  obtain ⟨W0, hW0⟩ : ∃ W0, w.alloc (.cells #[.int .i64 er, .int .i64 n, .slice A1 nms.length c1, .slice A2 held.length c2, .slice A3 lst.length c3] 26) = W0 := ⟨_, rfl⟩
  rw [hW0] at g1 hX s0 s1 s2 s3 s4 hfin
  rw [← hPost]
  have hfin2 : ∀ b : Bool, smallB ⟨er, n, nms, held, lst⟩ = b → Post (.returned (.bool b)) W0 := by rw [hPost]; exact hfin
  have HFin := Lib.hid hfin2
  clear hfin hfin2 hPost
  go_enter Tryd.func7, Tryd.ntmps7
  go_wp2
  go_loopw [3, 4] (fun v3 v4 wr => ∃ k : Nat, v4 = .int .i64 (k : Int) ∧ v3 = .int .i64 ((totW ByteArray.size (nms.take k) : Nat) : Int) ∧ k ≤ nms.length ∧ k ≤ 40 ∧ W0 = wr) (fun _ v4 _ => nms.length - (intOf v4).toNat)
  case atStart => exact ⟨0, rfl, rfl, Nat.zero_le _, Nat.zero_le _, rfl⟩
  case round =>
    obtain ⟨k, rfl, rfl, hk, hk4, rfl⟩ := hrel
    have hl1 := HL1.out k
    by_cases hlt : k < nms.length ∧ k < 40
    · obtain ⟨hlt, hlt4⟩ := hlt
      obtain ⟨x, hxk⟩ : ∃ x, nms[k]? = some x := ⟨_, List.getElem?_eq_getElem hlt⟩
      obtain ⟨ad, rfl, hab, hcell⟩ := k1.2 (by omega)
      have p0 := (g1.cell (p := ad.add k) (by rw [block_of_add]; exact hab)).trans (hcell k (.string x) (by rw [List.getElem?_map, hxk]; rfl))
      have hT := HT1.out k x hxk
      have hl2 := HL1.out (k + 1)
      rw [hT] at hl2
      have HT := Lib.hid hT
      clear hT hcell hxk
      generalize totW ByteArray.size (nms.take k) = m at *
      go_wp2
      all_goals (try (exfalso; omega))
      go_roundw
      case rel => exact ⟨k + 1, by go_num, by rw [HT.out]; go_num, by omega, by omega, by first | rfl | trivial⟩
      case measure => simp [intOf]; omega
    · have HM1 : Hid (nms.length ≤ 40 → totW ByteArray.size (nms.take k) = totW ByteArray.size nms) := Lib.hid (fun h => by
        obtain rfl : k = nms.length := by omega
        exact HE1.out)
      have hl1' := HL1.out k
      generalize totW ByteArray.size (nms.take k) = M1 at *
      rcases (by omega : (k = nms.length ∧ ¬ k < nms.length) ∨ (k = 40 ∧ k < nms.length)) with ⟨-, hx⟩ | ⟨rfl, hx⟩
      · go_wp2
        all_goals (try (exfalso; omega))
        go_loopw [3, 5] (fun v3 v5 wr => ∃ k : Nat, v5 = .int .i64 (k : Int) ∧ v3 = .int .i64 ((M1 + totW ByteArray.size (held.take k) : Nat) : Int) ∧ k ≤ held.length ∧ k ≤ 40 ∧ W0 = wr) (fun _ v5 _ => held.length - (intOf v5).toNat)
        case atStart => exact ⟨0, rfl, by simp [totW], Nat.zero_le _, Nat.zero_le _, rfl⟩
        case round =>
          obtain ⟨k, rfl, rfl, hk, hk4, rfl⟩ := hrel
          have hl2 := HL2.out k
          by_cases hlt : k < held.length ∧ k < 40
          · obtain ⟨hlt, hlt4⟩ := hlt
            obtain ⟨x, hxk⟩ : ∃ x, held[k]? = some x := ⟨_, List.getElem?_eq_getElem hlt⟩
            obtain ⟨ad, rfl, hab, hcell⟩ := k2.2 (by omega)
            have p0 := (g1.cell (p := ad.add k) (by rw [block_of_add]; exact hab)).trans (hcell k (.string x) (by rw [List.getElem?_map, hxk]; rfl))
            have hT := HT2.out k x hxk
            have hl2 := HL2.out (k + 1)
            rw [hT] at hl2
            have HT := Lib.hid hT
            clear hT hcell hxk
            generalize totW ByteArray.size (held.take k) = m at *
            go_wp2
            all_goals (try (exfalso; omega))
            go_roundw
            case rel => exact ⟨k + 1, by go_num, by rw [HT.out]; go_num, by omega, by omega, by first | rfl | trivial⟩
            case measure => simp [intOf]; omega
          · have HM2 : Hid (held.length ≤ 40 → totW ByteArray.size (held.take k) = totW ByteArray.size held) := Lib.hid (fun h => by
              obtain rfl : k = held.length := by omega
              exact HE2.out)
            have hl2' := HL2.out k
            generalize totW ByteArray.size (held.take k) = M2 at *
            rcases (by omega : (k = held.length ∧ ¬ k < held.length) ∨ (k = 40 ∧ k < held.length)) with ⟨-, hx⟩ | ⟨rfl, hx⟩
            · go_wp2
              all_goals (try (exfalso; omega))
              go_loopw [3, 6] (fun v3 v6 wr => ∃ k : Nat, v6 = .int .i64 (k : Int) ∧ v3 = .int .i64 ((M1 + M2 + totW List.length (lst.take k) : Nat) : Int) ∧ k ≤ lst.length ∧ k ≤ 40 ∧ W0 = wr) (fun _ v6 _ => lst.length - (intOf v6).toNat)
              case atStart => exact ⟨0, rfl, by simp [totW], Nat.zero_le _, Nat.zero_le _, rfl⟩
              case round =>
                obtain ⟨k, rfl, rfl, hk, hk4, rfl⟩ := hrel
                have hl3 := HL3.out k
                by_cases hlt : k < lst.length ∧ k < 40
                · obtain ⟨hlt, hlt4⟩ := hlt
                  obtain ⟨x, hxk⟩ : ∃ x, lst[k]? = some x := ⟨_, List.getElem?_eq_getElem hlt⟩
                  obtain ⟨u, hu, hRk⟩ := RkLs.at_ lst vs k x l3 hxk
                  obtain ⟨Au, cu, rfl, hcu, -⟩ := hRk
                  obtain ⟨ad, rfl, hab, hcell⟩ := k3.2 (by omega)
                  have p0 := (g1.cell (p := ad.add k) (by rw [block_of_add]; exact hab)).trans (hcell k _ hu)
                  have hT := HT3.out k x hxk
                  have hl2 := HL3.out (k + 1)
                  rw [hT] at hl2
                  have HT := Lib.hid hT
                  clear hT hcell hxk hu hcu
                  generalize totW List.length (lst.take k) = m at *
                  go_wp2
                  all_goals (try (exfalso; omega))
                  go_roundw
                  case rel => exact ⟨k + 1, by go_num, by rw [HT.out]; go_num, by omega, by omega, by first | rfl | trivial⟩
                  case measure => simp [intOf]; omega
                · have HM3 : Hid (lst.length ≤ 40 → totW List.length (lst.take k) = totW List.length lst) := Lib.hid (fun h => by
                    obtain rfl : k = lst.length := by omega
                    exact HE3.out)
                  have hl3' := HL3.out k
                  generalize totW List.length (lst.take k) = M3 at *
                  rcases (by omega : (k = lst.length ∧ ¬ k < lst.length) ∨ (k = 40 ∧ k < lst.length)) with ⟨-, hx⟩ | ⟨rfl, hx⟩
                  · have hm3 : M1 + M2 + M3 ≤ 3145728 := by omega
                    rcases (by omega : 30 < nms.length ∨ (nms.length ≤ 30 ∧ 30 < held.length) ∨ (nms.length ≤ 30 ∧ held.length ≤ 30 ∧ 30 < lst.length) ∨ (nms.length ≤ 30 ∧ held.length ≤ 30 ∧ lst.length ≤ 30)) with ha | ⟨ha, hb⟩ | ⟨ha, hb, hc⟩ | ⟨ha, hb, hc⟩
                    · go_wp2
                      all_goals (try (exfalso; omega))
                      all_goals (exact HFin.out false (SB0.out (by omega)))
                    · go_wp2
                      all_goals (try (exfalso; omega))
                      all_goals (exact HFin.out false (SB0.out (by omega)))
                    · go_wp2
                      all_goals (try (exfalso; omega))
                      all_goals (exact HFin.out false (SB0.out (by omega)))
                    · go_wp2
                      all_goals (try (exfalso; omega))
                      all_goals (exact HFin.out (decide ((M1 : Int) + (M2 : Int) + (M3 : Int) ≤ 1500)) (SB1.out ha hb hc _ _ _ (HM1.out (by omega)) (HM2.out (by omega)) (HM3.out (by omega))))
                  · have hm3 : M1 + M2 + M3 ≤ 3145728 := by omega
                    rcases (by omega : 30 < nms.length ∨ (nms.length ≤ 30 ∧ 30 < held.length) ∨ (nms.length ≤ 30 ∧ held.length ≤ 30 ∧ 30 < lst.length) ∨ (nms.length ≤ 30 ∧ held.length ≤ 30 ∧ lst.length ≤ 30)) with ha | ⟨ha, hb⟩ | ⟨ha, hb, hc⟩ | ⟨ha, hb, hc⟩
                    · go_wp2
                      all_goals (try (exfalso; omega))
                      all_goals (exact HFin.out false (SB0.out (by omega)))
                    · go_wp2
                      all_goals (try (exfalso; omega))
                      all_goals (exact HFin.out false (SB0.out (by omega)))
                    · go_wp2
                      all_goals (try (exfalso; omega))
                      all_goals (exact HFin.out false (SB0.out (by omega)))
                    · go_wp2
                      all_goals (try (exfalso; omega))
                      all_goals (exact HFin.out (decide ((M1 : Int) + (M2 : Int) + (M3 : Int) ≤ 1500)) (SB1.out ha hb hc _ _ _ (HM1.out (by omega)) (HM2.out (by omega)) (HM3.out (by omega))))
            · go_wp2
              all_goals (try (exfalso; omega))
              go_loopw [3, 6] (fun v3 v6 wr => ∃ k : Nat, v6 = .int .i64 (k : Int) ∧ v3 = .int .i64 ((M1 + M2 + totW List.length (lst.take k) : Nat) : Int) ∧ k ≤ lst.length ∧ k ≤ 40 ∧ W0 = wr) (fun _ v6 _ => lst.length - (intOf v6).toNat)
              case atStart => exact ⟨0, rfl, by simp [totW], Nat.zero_le _, Nat.zero_le _, rfl⟩
              case round =>
                obtain ⟨k, rfl, rfl, hk, hk4, rfl⟩ := hrel
                have hl3 := HL3.out k
                by_cases hlt : k < lst.length ∧ k < 40
                · obtain ⟨hlt, hlt4⟩ := hlt
                  obtain ⟨x, hxk⟩ : ∃ x, lst[k]? = some x := ⟨_, List.getElem?_eq_getElem hlt⟩
                  obtain ⟨u, hu, hRk⟩ := RkLs.at_ lst vs k x l3 hxk
                  obtain ⟨Au, cu, rfl, hcu, -⟩ := hRk
                  obtain ⟨ad, rfl, hab, hcell⟩ := k3.2 (by omega)
                  have p0 := (g1.cell (p := ad.add k) (by rw [block_of_add]; exact hab)).trans (hcell k _ hu)
                  have hT := HT3.out k x hxk
                  have hl2 := HL3.out (k + 1)
                  rw [hT] at hl2
                  have HT := Lib.hid hT
                  clear hT hcell hxk hu hcu
                  generalize totW List.length (lst.take k) = m at *
                  go_wp2
                  all_goals (try (exfalso; omega))
                  go_roundw
                  case rel => exact ⟨k + 1, by go_num, by rw [HT.out]; go_num, by omega, by omega, by first | rfl | trivial⟩
                  case measure => simp [intOf]; omega
                · have HM3 : Hid (lst.length ≤ 40 → totW List.length (lst.take k) = totW List.length lst) := Lib.hid (fun h => by
                    obtain rfl : k = lst.length := by omega
                    exact HE3.out)
                  have hl3' := HL3.out k
                  generalize totW List.length (lst.take k) = M3 at *
                  rcases (by omega : (k = lst.length ∧ ¬ k < lst.length) ∨ (k = 40 ∧ k < lst.length)) with ⟨-, hx⟩ | ⟨rfl, hx⟩
                  · have hm3 : M1 + M2 + M3 ≤ 3145728 := by omega
                    rcases (by omega : 30 < nms.length ∨ (nms.length ≤ 30 ∧ 30 < held.length) ∨ (nms.length ≤ 30 ∧ held.length ≤ 30 ∧ 30 < lst.length) ∨ (nms.length ≤ 30 ∧ held.length ≤ 30 ∧ lst.length ≤ 30)) with ha | ⟨ha, hb⟩ | ⟨ha, hb, hc⟩ | ⟨ha, hb, hc⟩
                    · go_wp2
                      all_goals (try (exfalso; omega))
                      all_goals (exact HFin.out false (SB0.out (by omega)))
                    · go_wp2
                      all_goals (try (exfalso; omega))
                      all_goals (exact HFin.out false (SB0.out (by omega)))
                    · go_wp2
                      all_goals (try (exfalso; omega))
                      all_goals (exact HFin.out false (SB0.out (by omega)))
                    · go_wp2
                      all_goals (try (exfalso; omega))
                      all_goals (exact HFin.out (decide ((M1 : Int) + (M2 : Int) + (M3 : Int) ≤ 1500)) (SB1.out ha hb hc _ _ _ (HM1.out (by omega)) (HM2.out (by omega)) (HM3.out (by omega))))
                  · have hm3 : M1 + M2 + M3 ≤ 3145728 := by omega
                    rcases (by omega : 30 < nms.length ∨ (nms.length ≤ 30 ∧ 30 < held.length) ∨ (nms.length ≤ 30 ∧ held.length ≤ 30 ∧ 30 < lst.length) ∨ (nms.length ≤ 30 ∧ held.length ≤ 30 ∧ lst.length ≤ 30)) with ha | ⟨ha, hb⟩ | ⟨ha, hb, hc⟩ | ⟨ha, hb, hc⟩
                    · go_wp2
                      all_goals (try (exfalso; omega))
                      all_goals (exact HFin.out false (SB0.out (by omega)))
                    · go_wp2
                      all_goals (try (exfalso; omega))
                      all_goals (exact HFin.out false (SB0.out (by omega)))
                    · go_wp2
                      all_goals (try (exfalso; omega))
                      all_goals (exact HFin.out false (SB0.out (by omega)))
                    · go_wp2
                      all_goals (try (exfalso; omega))
                      all_goals (exact HFin.out (decide ((M1 : Int) + (M2 : Int) + (M3 : Int) ≤ 1500)) (SB1.out ha hb hc _ _ _ (HM1.out (by omega)) (HM2.out (by omega)) (HM3.out (by omega))))
      · go_wp2
        all_goals (try (exfalso; omega))
        go_loopw [3, 5] (fun v3 v5 wr => ∃ k : Nat, v5 = .int .i64 (k : Int) ∧ v3 = .int .i64 ((M1 + totW ByteArray.size (held.take k) : Nat) : Int) ∧ k ≤ held.length ∧ k ≤ 40 ∧ W0 = wr) (fun _ v5 _ => held.length - (intOf v5).toNat)
        case atStart => exact ⟨0, rfl, by simp [totW], Nat.zero_le _, Nat.zero_le _, rfl⟩
        case round =>
          obtain ⟨k, rfl, rfl, hk, hk4, rfl⟩ := hrel
          have hl2 := HL2.out k
          by_cases hlt : k < held.length ∧ k < 40
          · obtain ⟨hlt, hlt4⟩ := hlt
            obtain ⟨x, hxk⟩ : ∃ x, held[k]? = some x := ⟨_, List.getElem?_eq_getElem hlt⟩
            obtain ⟨ad, rfl, hab, hcell⟩ := k2.2 (by omega)
            have p0 := (g1.cell (p := ad.add k) (by rw [block_of_add]; exact hab)).trans (hcell k (.string x) (by rw [List.getElem?_map, hxk]; rfl))
            have hT := HT2.out k x hxk
            have hl2 := HL2.out (k + 1)
            rw [hT] at hl2
            have HT := Lib.hid hT
            clear hT hcell hxk
            generalize totW ByteArray.size (held.take k) = m at *
            go_wp2
            all_goals (try (exfalso; omega))
            go_roundw
            case rel => exact ⟨k + 1, by go_num, by rw [HT.out]; go_num, by omega, by omega, by first | rfl | trivial⟩
            case measure => simp [intOf]; omega
          · have HM2 : Hid (held.length ≤ 40 → totW ByteArray.size (held.take k) = totW ByteArray.size held) := Lib.hid (fun h => by
              obtain rfl : k = held.length := by omega
              exact HE2.out)
            have hl2' := HL2.out k
            generalize totW ByteArray.size (held.take k) = M2 at *
            rcases (by omega : (k = held.length ∧ ¬ k < held.length) ∨ (k = 40 ∧ k < held.length)) with ⟨-, hx⟩ | ⟨rfl, hx⟩
            · go_wp2
              all_goals (try (exfalso; omega))
              go_loopw [3, 6] (fun v3 v6 wr => ∃ k : Nat, v6 = .int .i64 (k : Int) ∧ v3 = .int .i64 ((M1 + M2 + totW List.length (lst.take k) : Nat) : Int) ∧ k ≤ lst.length ∧ k ≤ 40 ∧ W0 = wr) (fun _ v6 _ => lst.length - (intOf v6).toNat)
              case atStart => exact ⟨0, rfl, by simp [totW], Nat.zero_le _, Nat.zero_le _, rfl⟩
              case round =>
                obtain ⟨k, rfl, rfl, hk, hk4, rfl⟩ := hrel
                have hl3 := HL3.out k
                by_cases hlt : k < lst.length ∧ k < 40
                · obtain ⟨hlt, hlt4⟩ := hlt
                  obtain ⟨x, hxk⟩ : ∃ x, lst[k]? = some x := ⟨_, List.getElem?_eq_getElem hlt⟩
                  obtain ⟨u, hu, hRk⟩ := RkLs.at_ lst vs k x l3 hxk
                  obtain ⟨Au, cu, rfl, hcu, -⟩ := hRk
                  obtain ⟨ad, rfl, hab, hcell⟩ := k3.2 (by omega)
                  have p0 := (g1.cell (p := ad.add k) (by rw [block_of_add]; exact hab)).trans (hcell k _ hu)
                  have hT := HT3.out k x hxk
                  have hl2 := HL3.out (k + 1)
                  rw [hT] at hl2
                  have HT := Lib.hid hT
                  clear hT hcell hxk hu hcu
                  generalize totW List.length (lst.take k) = m at *
                  go_wp2
                  all_goals (try (exfalso; omega))
                  go_roundw
                  case rel => exact ⟨k + 1, by go_num, by rw [HT.out]; go_num, by omega, by omega, by first | rfl | trivial⟩
                  case measure => simp [intOf]; omega
                · have HM3 : Hid (lst.length ≤ 40 → totW List.length (lst.take k) = totW List.length lst) := Lib.hid (fun h => by
                    obtain rfl : k = lst.length := by omega
                    exact HE3.out)
                  have hl3' := HL3.out k
                  generalize totW List.length (lst.take k) = M3 at *
                  rcases (by omega : (k = lst.length ∧ ¬ k < lst.length) ∨ (k = 40 ∧ k < lst.length)) with ⟨-, hx⟩ | ⟨rfl, hx⟩
                  · have hm3 : M1 + M2 + M3 ≤ 3145728 := by omega
                    rcases (by omega : 30 < nms.length ∨ (nms.length ≤ 30 ∧ 30 < held.length) ∨ (nms.length ≤ 30 ∧ held.length ≤ 30 ∧ 30 < lst.length) ∨ (nms.length ≤ 30 ∧ held.length ≤ 30 ∧ lst.length ≤ 30)) with ha | ⟨ha, hb⟩ | ⟨ha, hb, hc⟩ | ⟨ha, hb, hc⟩
                    · go_wp2
                      all_goals (try (exfalso; omega))
                      all_goals (exact HFin.out false (SB0.out (by omega)))
                    · go_wp2
                      all_goals (try (exfalso; omega))
                      all_goals (exact HFin.out false (SB0.out (by omega)))
                    · go_wp2
                      all_goals (try (exfalso; omega))
                      all_goals (exact HFin.out false (SB0.out (by omega)))
                    · go_wp2
                      all_goals (try (exfalso; omega))
                      all_goals (exact HFin.out (decide ((M1 : Int) + (M2 : Int) + (M3 : Int) ≤ 1500)) (SB1.out ha hb hc _ _ _ (HM1.out (by omega)) (HM2.out (by omega)) (HM3.out (by omega))))
                  · have hm3 : M1 + M2 + M3 ≤ 3145728 := by omega
                    rcases (by omega : 30 < nms.length ∨ (nms.length ≤ 30 ∧ 30 < held.length) ∨ (nms.length ≤ 30 ∧ held.length ≤ 30 ∧ 30 < lst.length) ∨ (nms.length ≤ 30 ∧ held.length ≤ 30 ∧ lst.length ≤ 30)) with ha | ⟨ha, hb⟩ | ⟨ha, hb, hc⟩ | ⟨ha, hb, hc⟩
                    · go_wp2
                      all_goals (try (exfalso; omega))
                      all_goals (exact HFin.out false (SB0.out (by omega)))
                    · go_wp2
                      all_goals (try (exfalso; omega))
                      all_goals (exact HFin.out false (SB0.out (by omega)))
                    · go_wp2
                      all_goals (try (exfalso; omega))
                      all_goals (exact HFin.out false (SB0.out (by omega)))
                    · go_wp2
                      all_goals (try (exfalso; omega))
                      all_goals (exact HFin.out (decide ((M1 : Int) + (M2 : Int) + (M3 : Int) ≤ 1500)) (SB1.out ha hb hc _ _ _ (HM1.out (by omega)) (HM2.out (by omega)) (HM3.out (by omega))))
            · go_wp2
              all_goals (try (exfalso; omega))
              go_loopw [3, 6] (fun v3 v6 wr => ∃ k : Nat, v6 = .int .i64 (k : Int) ∧ v3 = .int .i64 ((M1 + M2 + totW List.length (lst.take k) : Nat) : Int) ∧ k ≤ lst.length ∧ k ≤ 40 ∧ W0 = wr) (fun _ v6 _ => lst.length - (intOf v6).toNat)
              case atStart => exact ⟨0, rfl, by simp [totW], Nat.zero_le _, Nat.zero_le _, rfl⟩
              case round =>
                obtain ⟨k, rfl, rfl, hk, hk4, rfl⟩ := hrel
                have hl3 := HL3.out k
                by_cases hlt : k < lst.length ∧ k < 40
                · obtain ⟨hlt, hlt4⟩ := hlt
                  obtain ⟨x, hxk⟩ : ∃ x, lst[k]? = some x := ⟨_, List.getElem?_eq_getElem hlt⟩
                  obtain ⟨u, hu, hRk⟩ := RkLs.at_ lst vs k x l3 hxk
                  obtain ⟨Au, cu, rfl, hcu, -⟩ := hRk
                  obtain ⟨ad, rfl, hab, hcell⟩ := k3.2 (by omega)
                  have p0 := (g1.cell (p := ad.add k) (by rw [block_of_add]; exact hab)).trans (hcell k _ hu)
                  have hT := HT3.out k x hxk
                  have hl2 := HL3.out (k + 1)
                  rw [hT] at hl2
                  have HT := Lib.hid hT
                  clear hT hcell hxk hu hcu
                  generalize totW List.length (lst.take k) = m at *
                  go_wp2
                  all_goals (try (exfalso; omega))
                  go_roundw
                  case rel => exact ⟨k + 1, by go_num, by rw [HT.out]; go_num, by omega, by omega, by first | rfl | trivial⟩
                  case measure => simp [intOf]; omega
                · have HM3 : Hid (lst.length ≤ 40 → totW List.length (lst.take k) = totW List.length lst) := Lib.hid (fun h => by
                    obtain rfl : k = lst.length := by omega
                    exact HE3.out)
                  have hl3' := HL3.out k
                  generalize totW List.length (lst.take k) = M3 at *
                  rcases (by omega : (k = lst.length ∧ ¬ k < lst.length) ∨ (k = 40 ∧ k < lst.length)) with ⟨-, hx⟩ | ⟨rfl, hx⟩
                  · have hm3 : M1 + M2 + M3 ≤ 3145728 := by omega
                    rcases (by omega : 30 < nms.length ∨ (nms.length ≤ 30 ∧ 30 < held.length) ∨ (nms.length ≤ 30 ∧ held.length ≤ 30 ∧ 30 < lst.length) ∨ (nms.length ≤ 30 ∧ held.length ≤ 30 ∧ lst.length ≤ 30)) with ha | ⟨ha, hb⟩ | ⟨ha, hb, hc⟩ | ⟨ha, hb, hc⟩
                    · go_wp2
                      all_goals (try (exfalso; omega))
                      all_goals (exact HFin.out false (SB0.out (by omega)))
                    · go_wp2
                      all_goals (try (exfalso; omega))
                      all_goals (exact HFin.out false (SB0.out (by omega)))
                    · go_wp2
                      all_goals (try (exfalso; omega))
                      all_goals (exact HFin.out false (SB0.out (by omega)))
                    · go_wp2
                      all_goals (try (exfalso; omega))
                      all_goals (exact HFin.out (decide ((M1 : Int) + (M2 : Int) + (M3 : Int) ≤ 1500)) (SB1.out ha hb hc _ _ _ (HM1.out (by omega)) (HM2.out (by omega)) (HM3.out (by omega))))
                  · have hm3 : M1 + M2 + M3 ≤ 3145728 := by omega
                    rcases (by omega : 30 < nms.length ∨ (nms.length ≤ 30 ∧ 30 < held.length) ∨ (nms.length ≤ 30 ∧ held.length ≤ 30 ∧ 30 < lst.length) ∨ (nms.length ≤ 30 ∧ held.length ≤ 30 ∧ lst.length ≤ 30)) with ha | ⟨ha, hb⟩ | ⟨ha, hb, hc⟩ | ⟨ha, hb, hc⟩
                    · go_wp2
                      all_goals (try (exfalso; omega))
                      all_goals (exact HFin.out false (SB0.out (by omega)))
                    · go_wp2
                      all_goals (try (exfalso; omega))
                      all_goals (exact HFin.out false (SB0.out (by omega)))
                    · go_wp2
                      all_goals (try (exfalso; omega))
                      all_goals (exact HFin.out false (SB0.out (by omega)))
                    · go_wp2
                      all_goals (try (exfalso; omega))
                      all_goals (exact HFin.out (decide ((M1 : Int) + (M2 : Int) + (M3 : Int) ≤ 1500)) (SB1.out ha hb hc _ _ _ (HM1.out (by omega)) (HM2.out (by omega)) (HM3.out (by omega))))
end Go.Proofs.YtppnlijeonneeaaDoor

namespace Go.Proofs.YtppnlijeonneeaaDoor
open Go Go.RowKit Go.Sort

def exR : Rep := ⟨0, 2, [⟨#[114, 49]⟩], [⟨#[114, 50]⟩], [[97]]⟩
abbrev exL : List UInt8 := [111, 107, 32, 50, 32, 43, 114, 49, 32, 33, 114, 50, 32, 61, 54, 49]
theorem ex_text : textO exR = exL := by
  rw [textO_ok rfl]
  unfold headR
  rw [show Lib.itoa exR.n = [50] by
    show Lib.itoa 2 = [50]
    rw [Lib.itoa, if_neg (by omega)]
    exact Lib.decDigits_one (by decide)]
  rfl
theorem ex_may : mayR exR := ⟨by decide, by decide, by decide, by decide, fun h => absurd rfl h, by decide, by decide⟩
theorem ex_ok : OkR exL exR := ⟨by decide, ex_may, ex_text⟩
theorem ex_parse : parseO candP exL = (exR, 0) := parseO_ok ex_ok ex_ok.cp
theorem rk_oneK {W : World} {K : Nat → Prop} {g : Nat} {T : TypeId} {u : Value} {fz : Nat × Nat} (h : W.heap[g]? = some (.cells #[u] T fz)) (hK : K g) : Rk W K 1 (some ⟨g, 0, none⟩) 1 [u] := by
  refine ⟨rfl, fun _ => ⟨_, rfl, hK, fun j x hx => ?_⟩⟩
  have e : (⟨g, 0, none⟩ : Addr).add j = ⟨g, j, none⟩ := by
    unfold Addr.add
    split
    · rename_i h0; simp_all
    · simp
  rw [e, cell_of_row W g j _ T fz h, ← Array.getElem?_toList]
  exact hx
theorem ex_rd {W : World} {g1 g2 g3 g4 : Nat} (h1 : Blk W g1 9 #[.string ⟨#[114, 49]⟩]) (h2 : Blk W g2 9 #[.string ⟨#[114, 50]⟩]) (h3 : W.heap[g3]? = some (.cells #[.int .u8 97] 5 (1, 2))) (h4 : Blk W g4 49 #[.slice (some ⟨g3, 0, none⟩) 1 1]) :
    RdRep W (· < W.heap.size) exR (.agg #[.int .i64 0, .int .i64 2, .slice (some ⟨g1, 0, none⟩) 1 1, .slice (some ⟨g2, 0, none⟩) 1 1, .slice (some ⟨g4, 0, none⟩) 1 1]) :=
  ⟨_, _, _, rfl, ⟨_, 1, rfl, ⟨Nat.le_refl _, by unfold maxLen; decide⟩, rk_oneK h1 h1.lt⟩, ⟨_, 1, rfl, ⟨Nat.le_refl _, by unfold maxLen; decide⟩, rk_oneK h2 h2.lt⟩,
    ⟨_, 1, _, rfl, ⟨Nat.le_refl _, by unfold maxLen; decide⟩, rk_oneK h4 h4.lt, _, [], rfl, ⟨_, 1, rfl, Nat.le_refl _, rk_oneK h3 (Array.getElem?_eq_some_iff.1 h3).1⟩, rfl⟩⟩
theorem rd_ex {W : World} {K : Nat → Prop} {v : Value} (h : RdRep W K exR v) : ∃ A1 c1 A2 c2 A3 c3, v = .agg #[.int .i64 0, .int .i64 2, .slice A1 1 c1, .slice A2 1 c2, .slice A3 1 c3] := by
  obtain ⟨v1, v2, v3, rfl, ⟨A1, c1, rfl, -⟩, ⟨A2, c2, rfl, -⟩, ⟨A3, c3, vs, rfl, -⟩⟩ := h
  exact ⟨A1, c1, A2, c2, A3, c3, rfl⟩
set_option maxRecDepth 100000 in
set_option maxHeartbeats 4000000 in
theorem livR_any (w : World) (hV : WVars w) : Calls Tryd.prog 8 #[] w fun e w' => e = .returned (.bool true) ∧ Gr w w' := by
  have cP := fun W (hg : Gr w W) => pparse_any exL W (hV.gr hg) (by decide)
  rw [ex_parse] at cP
  unfold PParR at cP
  have cT : ∀ W v, Gr w W → RdRep W (· < W.heap.size) exR v → Calls Tryd.prog 11 #[v] W fun e w' => e = .returned (.string (wa exL)) ∧ Gr W w' := fun W v hg hr => by
    have := ptextO_any exR v W (hV.gr hg).1 hr (by decide) (by decide) (by decide) (by decide) (by rw [ex_text]; decide)
    rwa [ex_text] at this
  have z1 : (w.alloc (.cells #[.string ⟨#[114, 49]⟩] 9)).heap.size = w.heap.size + 1 := by simp
  have z2 : ((w.alloc (.cells #[.string ⟨#[114, 49]⟩] 9)).alloc (.cells #[.string ⟨#[114, 50]⟩] 9)).heap.size = w.heap.size + 1 + 1 := by simp
  have z3 : (((w.alloc (.cells #[.string ⟨#[114, 49]⟩] 9)).alloc (.cells #[.string ⟨#[114, 50]⟩] 9)).alloc (.cells #[.int .u8 97] 5 (1, 2))).heap.size = w.heap.size + 1 + 1 + 1 := by simp
  have b1 : Blk ((((w.alloc (.cells #[.string ⟨#[114, 49]⟩] 9)).alloc (.cells #[.string ⟨#[114, 50]⟩] 9)).alloc (.cells #[.int .u8 97] 5 (1, 2))).alloc (.cells #[.slice (some ⟨w.heap.size + 1 + 1, 0, none⟩) 1 1] 49)) w.heap.size 9 #[.string ⟨#[114, 49]⟩] := (((Blk.new w _ _).alloc _).alloc _).alloc _
  have b2 : Blk ((((w.alloc (.cells #[.string ⟨#[114, 49]⟩] 9)).alloc (.cells #[.string ⟨#[114, 50]⟩] 9)).alloc (.cells #[.int .u8 97] 5 (1, 2))).alloc (.cells #[.slice (some ⟨w.heap.size + 1 + 1, 0, none⟩) 1 1] 49)) (w.heap.size + 1) 9 #[.string ⟨#[114, 50]⟩] := by
    have := ((Blk.new (w.alloc (.cells #[.string ⟨#[114, 49]⟩] 9)) 9 #[.string ⟨#[114, 50]⟩]).alloc (.cells #[.int .u8 97] 5 (1, 2))).alloc (.cells #[.slice (some ⟨w.heap.size + 1 + 1, 0, none⟩) 1 1] 49)
    rwa [z1] at this
  have b3 : ((((w.alloc (.cells #[.string ⟨#[114, 49]⟩] 9)).alloc (.cells #[.string ⟨#[114, 50]⟩] 9)).alloc (.cells #[.int .u8 97] 5 (1, 2))).alloc (.cells #[.slice (some ⟨w.heap.size + 1 + 1, 0, none⟩) 1 1] 49)).heap[w.heap.size + 1 + 1]? = some (.cells #[.int .u8 97] 5 (1, 2)) := by
    have h0 : (((w.alloc (.cells #[.string ⟨#[114, 49]⟩] 9)).alloc (.cells #[.string ⟨#[114, 50]⟩] 9)).alloc (.cells #[.int .u8 97] 5 (1, 2))).heap[w.heap.size + 1 + 1]? = some (.cells #[.int .u8 97] 5 (1, 2)) := by
      have := heap_alloc_new ((w.alloc (.cells #[.string ⟨#[114, 49]⟩] 9)).alloc (.cells #[.string ⟨#[114, 50]⟩] 9)) (.cells #[.int .u8 97] 5 (1, 2))
      rwa [z2] at this
    exact (Below.heap_alloc _ _ _ (Array.getElem?_eq_some_iff.1 h0).1).trans h0
  have b4 : Blk ((((w.alloc (.cells #[.string ⟨#[114, 49]⟩] 9)).alloc (.cells #[.string ⟨#[114, 50]⟩] 9)).alloc (.cells #[.int .u8 97] 5 (1, 2))).alloc (.cells #[.slice (some ⟨w.heap.size + 1 + 1, 0, none⟩) 1 1] 49)) (w.heap.size + 1 + 1 + 1) 49 #[.slice (some ⟨w.heap.size + 1 + 1, 0, none⟩) 1 1] := by
    have := Blk.new (((w.alloc (.cells #[.string ⟨#[114, 49]⟩] 9)).alloc (.cells #[.string ⟨#[114, 50]⟩] 9)).alloc (.cells #[.int .u8 97] 5 (1, 2))) 49 #[.slice (some ⟨w.heap.size + 1 + 1, 0, none⟩) 1 1]
    rwa [z3] at this
  have hG4 : Gr w ((((w.alloc (.cells #[.string ⟨#[114, 49]⟩] 9)).alloc (.cells #[.string ⟨#[114, 50]⟩] 9)).alloc (.cells #[.int .u8 97] 5 (1, 2))).alloc (.cells #[.slice (some ⟨w.heap.size + 1 + 1, 0, none⟩) 1 1] 49)) := Gr.trans (Gr.trans (Gr.trans (Gr.alloc _ _) (Gr.alloc _ _)) (Gr.alloc _ _)) (Gr.alloc _ _)
  have cT4 := cT _ _ hG4 (ex_rd b1 b2 b3 b4)
  have hcv : (convert 49 49 (.slice (some ⟨w.heap.size + 1 + 1, 0, none⟩) 1 1)).run Tryd.prog (((w.alloc (.cells #[.string ⟨#[114, 49]⟩] 9)).alloc (.cells #[.string ⟨#[114, 50]⟩] 9)).alloc (.cells #[.int .u8 97] 5)) = .ok (.slice (some ⟨w.heap.size + 1 + 1, 0, none⟩) 1 1) (((w.alloc (.cells #[.string ⟨#[114, 49]⟩] 9)).alloc (.cells #[.string ⟨#[114, 50]⟩] 9)).alloc (.cells #[.int .u8 97] 5 (1, 2))) := by
    have := Lib.run_convert_bytes_const (P := Tryd.prog) ((w.alloc (.cells #[.string ⟨#[114, 49]⟩] 9)).alloc (.cells #[.string ⟨#[114, 50]⟩] 9)) 49 5 #[.int .u8 97] 1 1 Tryd.underlying49 Tryd.underlying5
    rw [z2] at this
    exact this
  clear b1 b2 b3 b4 z1 z2 z3
  rw [show wa exL = ⟨#[111, 107, 32, 50, 32, 43, 114, 49, 32, 33, 114, 50, 32, 61, 54, 49]⟩ from rfl] at cP cT4
  have cQ := fun W => num_anyR 0 W
  go_enter Tryd.func8, Tryd.ntmps8
  go_wp2_with (first
    | (go_at_call 11; (with_reducible refine cT4.mono ?_); rintro e w1 ⟨rfl, hb1⟩
       have hG5 := Gr.trans hG4 hb1)
    | (go_at_call 9; (with_reducible refine (cP _ hG5).mono ?_); rintro e w2 ⟨v, rfl, hrd, hb2⟩
       obtain ⟨A1, c1, A2, c2, A3, c3, rfl⟩ := rd_ex hrd
       have hG6 := Gr.trans hG5 hb2
       have hG7 := Gr.trans hG6 (Gr.alloc w2 (.cells #[.int .i64 0, .int .i64 2, .slice A1 1 c1, .slice A2 1 c2, .slice A3 1 c3] 26)))
    | (go_at_call 14; (with_reducible refine (cQ _).mono ?_); rintro e w3 ⟨rfl, rfl⟩))
  all_goals (try (exfalso; omega))
  go_ret
  exact ⟨rfl, hG7⟩
end Go.Proofs.YtppnlijeonneeaaDoor

namespace Go.Proofs.YtppnlijeonneeaaDoor
open Go Go.RowKit Go.Sort

theorem rd_form {W : World} {K : Nat → Prop} {r : Rep} {v : Value} (h : RdRep W K r v) : ∃ A1 c1 A2 c2 A3 c3, v = .agg #[.int .i64 r.err, .int .i64 r.n, .slice A1 r.nms.length c1, .slice A2 r.held.length c2, .slice A3 r.lst.length c3] := by
  obtain ⟨v1, v2, v3, rfl, ⟨A1, c1, rfl, -⟩, ⟨A2, c2, rfl, -⟩, ⟨A3, c3, vs, rfl, -⟩⟩ := h
  exact ⟨A1, c1, A2, c2, A3, c3, rfl⟩
theorem nms_ok {r : Rep} (h : szW r ≤ 100000) : nmsOk r.nms ∧ nmsOk r.held ∧ ∀ x ∈ r.lst, x.length ≤ 1073741824 := by
  obtain ⟨_, _, _, h4, h5, h6⟩ := sz_lens r
  exact ⟨fun a ha => by have := h4 a ha; omega, fun a ha => by have := h5 a ha; omega, fun x hx => by have := h6 x hx; omega⟩
theorem parse_sz (l : List UInt8) (h : l.length ≤ 5000) : szW (parseO candP l).1 ≤ 10000 := by
  by_cases hk : ∃ r, OkR l r
  · obtain ⟨r, hr⟩ := hk
    rw [parseO_ok hr hr.cp]
    have h1 := hr.2.2
    have h2 : szW r ≤ (textO r).length ∨ szW r = 0 := by
      by_cases he : r.err = 0
      · left
        rw [textO_ok he]
        unfold headR szW
        simp only [List.length_append]
        omega
      · right
        obtain ⟨_, _, _, _, h5, _⟩ := hr.2.1
        obtain ⟨_, e2, e3, e4⟩ := h5 he
        unfold szW Rep.nl Rep.hl Rep.xl
        rw [e2, e3, e4]
        rfl
    rw [h1] at h2
    show szW r ≤ 10000
    omega
  · rw [parseO_no (fun r hr => hk ⟨r, hr⟩)]
    exact Nat.zero_le _
set_option maxRecDepth 100000 in
set_option maxHeartbeats 16000000 in
theorem law_replytexts (r : Rep) (v : Value) (s : ByteArray) (w : World) (hV : WVars w) (hr : RdRep w (· < w.heap.size) r v) (hbk : bulkR r) (he0 : -9223372036854775808 ≤ r.err) (he1 : r.err ≤ 9223372036854775807) (h0 : -9223372036854775808 ≤ r.n) (h1 : r.n ≤ 9223372036854775807) (hsm : s.size ≤ maxLen) :
    Calls Tryd.prog 3 #[v, .string s] w fun e w' => e = .returned (.bool true) ∧ Gr w w' := by
  unfold maxLen at hsm
  obtain ⟨l, rfl⟩ : ∃ l, s = wa l := ⟨s.data.toList, (data_wa s).symm⟩
  have hsl : (wa l).size = l.length := wa_size l
  obtain ⟨A1, c1, A2, c2, A3, c3, rfl⟩ := rd_form hr
  have g1 := Gr.alloc w (.cells #[.int .i64 r.err, .int .i64 r.n, .slice A1 r.nms.length c1, .slice A2 r.held.length c2, .slice A3 r.lst.length c3] 26)
  have hB1 := Blk.new w 26 #[.int .i64 r.err, .int .i64 r.n, .slice A1 r.nms.length c1, .slice A2 r.held.length c2, .slice A3 r.lst.length c3]
  have hr1 := hr.gr g1
  have cS := small_any r _ _ hr1 hbk
  have cL := fun W (hg : Gr w W) => livR_any W (hV.gr hg)
  cases hb : smallB r with
  | false =>
    rw [hb] at cS
    go_enter Tryd.func3, Tryd.ntmps3
    go_wp2_with (first
      | (go_at_call 7; (with_reducible refine cS.mono ?_); rintro e w2 ⟨rfl, hb2⟩
         have g2 := Gr.trans g1 hb2)
      | (go_at_call 8; (with_reducible refine (cL _ g2).mono ?_); rintro e w3 ⟨rfl, hb3⟩))
    all_goals (try (exfalso; omega))
    go_ret
    exact ⟨rfl, Gr.trans g2 hb3⟩
  | true =>
    rw [hb] at cS
    by_cases hl : 5000 < l.length
    · have hl2 : 5000 < (wa l).size := by omega
      generalize wa l = s at *
      go_enter Tryd.func3, Tryd.ntmps3
      go_wp2_with (first
        | (go_at_call 7; (with_reducible refine cS.mono ?_); rintro e w2 ⟨rfl, hb2⟩
           have g2 := Gr.trans g1 hb2)
        | (go_at_call 8; (with_reducible refine (cL _ g2).mono ?_); rintro e w3 ⟨rfl, hb3⟩))
      all_goals (try (exfalso; omega))
      go_ret
      exact ⟨rfl, Gr.trans g2 hb3⟩
    · have hl2 : (wa l).size ≤ 5000 := by omega
      have hsz := smallB_sz hb
      have cP := fun W (hg : Gr w W) => pparse_any l W (hV.gr hg) (by omega)
      have cR := fun W => rparse_any l W (by omega)
      have hpz := parse_sz l (by omega)
      obtain ⟨x, E, hxE⟩ : ∃ x E, parseO candP l = (x, E) := ⟨_, _, rfl⟩
      have hxs : szW x ≤ 10000 := by rw [hxE] at hpz; exact hpz
      rw [hxE] at cP cR
      unfold PParR at cP cR
      dsimp only at cP cR
      clear hxE hpz hb
      generalize wa l = s at *
      have cT1 := fun W v (hg : Gr w W) (h : RdRep W (· < W.heap.size) r v) => ptextO_any r v W (hV.gr hg).1 h he0 he1 h0 h1 (by have := textO_sz r he0 he1 h0 h1; omega)
      have cT2 := fun W v (h : RdRep W (· < W.heap.size) r v) => rtextO_any r v W h he0 he1 h0 h1 (by have := textO_sz r he0 he1 h0 h1; omega)
      have nr := nms_ok (r := r) (by omega)
      have nx := nms_ok (r := x) (by omega)
      have cN := fun W => num_anyR E W
      generalize textO r = T at *
      go_enter Tryd.func3, Tryd.ntmps3
      go_wp2_with (first
        | (go_at_call 7; (with_reducible refine cS.mono ?_); rintro e w2 ⟨rfl, hb2⟩
           have g2 := Gr.trans g1 hb2)
        | (go_at_call 9; (with_reducible refine (cP _ g2).mono ?_); rintro e w3 ⟨u, rfl, hu3, hb3⟩
           obtain ⟨D1, d1, D2, d2, D3, d3, rfl⟩ := rd_form hu3
           have gn3 := Gr.alloc w3 (.cells #[.int .i64 x.err, .int .i64 x.n, .slice D1 x.nms.length d1, .slice D2 x.held.length d2, .slice D3 x.lst.length d3] 26)
           have hBx := Blk.new w3 26 #[.int .i64 x.err, .int .i64 x.n, .slice D1 x.nms.length d1, .slice D2 x.held.length d2, .slice D3 x.lst.length d3]
           have hu4 := hu3.gr gn3
           have g4 := Gr.trans (Gr.trans g2 hb3) gn3)
        | (go_at_call 10; (with_reducible refine (cR _).mono ?_); rintro e w5 ⟨y, rfl, hy5, hb5⟩
           obtain ⟨F1, f1, F2, f2, F3, f3, rfl⟩ := rd_form hy5
           have gn5 := Gr.alloc w5 (.cells #[.int .i64 x.err, .int .i64 x.n, .slice F1 x.nms.length f1, .slice F2 x.held.length f2, .slice F3 x.lst.length f3] 26)
           have hBy := Blk.new w5 26 #[.int .i64 x.err, .int .i64 x.n, .slice F1 x.nms.length f1, .slice F2 x.held.length f2, .slice F3 x.lst.length f3]))
      all_goals (try (exfalso; omega))
      obtain ⟨W7, hW7⟩ : ∃ W7, w5.alloc (.cells #[.int .i64 x.err, .int .i64 x.n, .slice F1 x.nms.length f1, .slice F2 x.held.length f2, .slice F3 x.lst.length f3] 26) = W7 := ⟨_, rfl⟩
      rw [hW7] at gn5 hBy ⊢
      have gX := Gr.trans hb5 gn5
      have gA := Gr.trans hb2 (Gr.trans hb3 (Gr.trans gn3 gX))
      have hrA := hr1.gr gA
      have hBA := hB1.below gA hB1.lt
      have huA := hu4.gr gX
      have hBXA := hBx.below gX hBx.lt
      have hyA := hy5.gr gn5
      have GA := Gr.trans g1 gA
      obtain ⟨i0, i1, i2, i3, i4⟩ := five_cells hBA
      obtain ⟨j0, j1, j2, j3, j4⟩ := five_cells hBXA
      obtain ⟨m0, m1, m2, m3, m4⟩ := five_cells hBy
      have qi0 := cell_regrown i0
      have qi1 := cell_regrown i1
      have qi2 := cell_regrown i2
      have qi3 := cell_regrown i3
      have qi4 := cell_regrown i4
      have qj0 := cell_regrown j0
      have qj1 := cell_regrown j1
      have qj2 := cell_regrown j2
      have qj3 := cell_regrown j3
      have qj4 := cell_regrown j4
      have qm0 := cell_regrown m0
      have qm1 := cell_regrown m1
      have qm2 := cell_regrown m2
      have qm3 := cell_regrown m3
      have qm4 := cell_regrown m4
      have k1 : ∀ d os, Calls Tryd.prog 11 #[(.agg #[.int .i64 r.err, .int .i64 r.n, .slice A1 r.nms.length c1, .slice A2 r.held.length c2, .slice A3 r.lst.length c3])] (grow (redrawn W7 d) os) fun e w'' => e = .returned (.string (wa T)) ∧ ∃ p : Regrown, w'' = grow (redrawn W7 p.d) p.os := fun d os => Calls.regrown_of (cT1 _ _ (Gr.trans GA (below_regrown W7 d os)) (hrA.gr (below_regrown W7 d os)))
      have k2 : ∀ d os, Calls Tryd.prog 12 #[(.agg #[.int .i64 r.err, .int .i64 r.n, .slice A1 r.nms.length c1, .slice A2 r.held.length c2, .slice A3 r.lst.length c3])] (grow (redrawn W7 d) os) fun e w'' => e = .returned (.string (wa T)) ∧ ∃ p : Regrown, w'' = grow (redrawn W7 p.d) p.os := fun d os => Calls.regrown_of (cT2 _ _ (hrA.gr (below_regrown W7 d os)))
      have k3 : ∀ d os, Calls Tryd.prog 13 #[(.agg #[.int .i64 x.err, .int .i64 x.n, .slice D1 x.nms.length d1, .slice D2 x.held.length d2, .slice D3 x.lst.length d3]), (.agg #[.int .i64 x.err, .int .i64 x.n, .slice F1 x.nms.length f1, .slice F2 x.held.length f2, .slice F3 x.lst.length f3])] (grow (redrawn W7 d) os) fun e w'' => e = .returned (.bool true) ∧ ∃ p : Regrown, w'' = grow (redrawn W7 p.d) p.os := fun d os => Calls.regrown_of (by have h := rsameR_any x x _ _ _ (huA.gr (below_regrown W7 d os)) (hyA.gr (below_regrown W7 d os)) nx.2.2; rw [repEq_refl] at h; exact h)
      have k4 : ∀ d os, Calls Tryd.prog 14 #[.int .i64 E] (grow (redrawn W7 d) os) fun e w'' => e = .returned (.int .i64 E) ∧ ∃ p : Regrown, w'' = grow (redrawn W7 p.d) p.os := fun d os => (cN _).mono fun _ _ h => ⟨h.1, ⟨d, os⟩, h.2⟩
      have k5 : ∀ d os, Calls Tryd.prog 15 #[(.agg #[.int .i64 r.err, .int .i64 r.n, .slice A1 r.nms.length c1, .slice A2 r.held.length c2, .slice A3 r.lst.length c3]), (.agg #[.int .i64 x.err, .int .i64 x.n, .slice D1 x.nms.length d1, .slice D2 x.held.length d2, .slice D3 x.lst.length d3])] (grow (redrawn W7 d) os) fun e w'' => e = .returned (.bool (repEq r x)) ∧ ∃ p : Regrown, w'' = grow (redrawn W7 p.d) p.os := fun d os => Calls.regrown_of (psameR_any r x _ _ _ (hrA.gr (below_regrown W7 d os)) (huA.gr (below_regrown W7 d os)))
      have k6 : ∀ d os, Calls Tryd.prog 13 #[(.agg #[.int .i64 r.err, .int .i64 r.n, .slice A1 r.nms.length c1, .slice A2 r.held.length c2, .slice A3 r.lst.length c3]), (.agg #[.int .i64 x.err, .int .i64 x.n, .slice D1 x.nms.length d1, .slice D2 x.held.length d2, .slice D3 x.lst.length d3])] (grow (redrawn W7 d) os) fun e w'' => e = .returned (.bool (repEq r x)) ∧ ∃ p : Regrown, w'' = grow (redrawn W7 p.d) p.os := fun d os => Calls.regrown_of (rsameR_any r x _ _ _ (hrA.gr (below_regrown W7 d os)) (huA.gr (below_regrown W7 d os)) nr.2.2)
      have k7 : ∀ d os, Calls Tryd.prog 15 #[(.agg #[.int .i64 r.err, .int .i64 r.n, .slice A1 r.nms.length c1, .slice A2 r.held.length c2, .slice A3 r.lst.length c3]), (.agg #[.int .i64 r.err, .int .i64 r.n, .slice A1 r.nms.length c1, .slice A2 r.held.length c2, .slice A3 r.lst.length c3])] (grow (redrawn W7 d) os) fun e w'' => e = .returned (.bool true) ∧ ∃ p : Regrown, w'' = grow (redrawn W7 p.d) p.os := fun d os => Calls.regrown_of (by have h := psameR_any r r _ _ _ (hrA.gr (below_regrown W7 d os)) (hrA.gr (below_regrown W7 d os)); rw [repEq_refl] at h; exact h)
      have k8 : ∀ d os, Calls Tryd.prog 8 #[] (grow (redrawn W7 d) os) fun e w'' => e = .returned (.bool true) ∧ ∃ p : Regrown, w'' = grow (redrawn W7 p.d) p.os := fun d os => Calls.regrown_of (cL _ (Gr.trans GA (below_regrown W7 d os)))
      generalize repEq r x = qq at *
      generalize wa T = tt at *
      refine wp_region_quiet_below (by kernel_rfl) (by kernel_rfl) ?_
      repeat (go_big_quiet_step (with_reducible first | exact k1 _ _ | exact k2 _ _ | exact k3 _ _ | exact k4 _ _ | exact k5 _ _ | exact k6 _ _ | exact k7 _ _ | exact k8 _ _))
      refine wpQuiet_nil ?_
      intro _ hw'
      obtain ⟨⟨dq, osq⟩, hw''⟩ := hw'
      subst hw''
      go_wp2
      go_ret
      exact ⟨rfl, Gr.trans GA (below_regrown W7 dq osq)⟩
end Go.Proofs.YtppnlijeonneeaaDoor

namespace Go.Proofs.YtppnlijeonneeaaDoor
open Go Go.RowKit Go.Deep Go.ChangeShapes Go.WideShapes

theorem pickW {α β : Type} : ∀ (xs : List β) (P : Nat → α → β → Prop), (∀ i y, xs[i]? = some y → ∃ x, P i x y) → ∃ l : List α, l.length = xs.length ∧ ∀ (i : Nat) x y, l[i]? = some x → xs[i]? = some y → P i x y
  | [], _, _ => ⟨[], rfl, fun i x y h => by simp at h⟩
  | y :: xs, P, h => by
    obtain ⟨x, hx⟩ := h 0 y rfl
    obtain ⟨l, hl, hp⟩ := pickW xs (fun i => P (i + 1)) (fun i z hz => h (i + 1) z (by simpa using hz))
    refine ⟨x :: l, by simp [hl], fun i x' y' h1 h2 => ?_⟩
    cases i with
    | zero =>
      simp only [List.getElem?_cons_zero, Option.some.injEq] at h1 h2
      subst h1 h2
      exact hx
    | succ i =>
      simp only [List.getElem?_cons_succ] at h1 h2
      exact hp i x' y' h1 h2
theorem tot_bulk {α H : Type} (f : α → Nat) : ∀ (l : List α) (xs : List (DataW H × List MemPlace)), l.length = xs.length → (∀ (i : Nat) x y, l[i]? = some x → xs[i]? = some y → f x + 1 ≤ Rows.uptoBulk y.1) → l.length + totW f l ≤ Rows.uptoBulkAll (xs.map (·.1))
  | [], [], _, _ => by simp [totW]
  | x :: l, [], h, _ => by simp at h
  | [], y :: xs, h, _ => by simp at h
  | x :: l, y :: xs, h, hp => by
    have h0 := hp 0 x y rfl rfl
    have ih := tot_bulk f l xs (by simpa using h) (fun i a b h1 h2 => hp (i + 1) a b (by simpa using h1) (by simpa using h2))
    simp only [totW, List.map_cons, Rows.uptoBulkAll, List.length_cons]
    omega
section
variable {H : Type} {enc : TypeId × Value → H} {w : World} {spare : Nat → Bool} {held : Bool} {fuel : Nat} {v : Value} {x : DataW H × List MemPlace}
theorem cellsU8 : Tryd.prog.cellsOf 5 = 1 := by kernel_rfl
theorem cellsBy : Tryd.prog.cellsOf 49 = 1 := by kernel_rfl
theorem cellsNm : Tryd.prog.cellsOf 23 = 1 := by kernel_rfl
theorem cellsLs : Tryd.prog.cellsOf 24 = 1 := by kernel_rfl
theorem cellsEr : Tryd.prog.cellsOf 22 = 1 := by kernel_rfl
theorem cellsRp : Tryd.prog.cellsOf 26 = 5 := by kernel_rfl
theorem rkb_of_trod (h : DataW.trod enc Tryd.prog w 0 spare held fuel 49 [v] = some x) : ∃ l : List UInt8, RkB w (· < w.heap.size) v l ∧ l.length + 1 ≤ Rows.uptoBulk x.1 := by
  rcases open_ints Tryd.underlying49 Tryd.underlying5 cellsU8 h with ⟨hcs, hx⟩ | ⟨a, n, c, zs, hcs, _, hnc, _, hz, hx, hcell, hwf⟩
  · simp only [List.cons.injEq, and_true] at hcs
    subst hcs hx
    exact ⟨[], ⟨none, 0, rfl, Nat.le_refl _, Rk.nil _ _ _ _⟩, by simp [Rows.uptoBulk]⟩
  · simp only [List.cons.injEq, and_true] at hcs
    subst hcs hx
    have hzl : n ≤ zs.length := by rw [hz]; split <;> omega
    have hlen : ((zs.take n).map fun z => UInt8.ofNat z.toNat).length = n := by simp; omega
    refine ⟨(zs.take n).map fun z => UInt8.ofNat z.toNat, ⟨some a, c, by rw [hlen], by omega, ?_⟩, ?_⟩
    · rw [hlen]
      refine ⟨by rw [bvs_length, hlen]; omega, fun h0 => ⟨a, rfl, ?_, fun j u hu => ?_⟩⟩
      · have := block_lt_of_cell (hcell 0 (by omega))
        rwa [block_of_add] at this
      have hj : j < n := by
        have := (List.getElem?_eq_some_iff.1 hu).1
        rw [bvs_length, hlen] at this
        exact this
      rw [hcell j (by omega)]
      have hzj : zs[j]? = some (zs[j]'(by omega)) := List.getElem?_eq_getElem (by omega)
      have hwfj := (Lit.wf_int_iff .u8 _).1 (hwf (zs[j]'(by omega)) (List.getElem_mem _))
      have h0 : 0 ≤ zs[j]'(by omega) := hwfj.1
      have h1 : zs[j]'(by omega) ≤ 255 := hwfj.2
      rw [← hu]
      simp only [bvs, List.getElem?_map, List.getElem?_take, if_pos hj, hzj, Option.map_some, List.getD_eq_getElem?_getD, Option.getD_some]
      rw [bv_nat _ (by omega), Int.toNat_of_nonneg h0]
    · rw [hlen]
      have hb : ∀ l : List (DataW H), l.length ≤ Rows.uptoBulkAll l := fun l => by
        have := tot_bulk (fun _ : Unit => 0) (List.replicate l.length ()) (l.map fun d => (d, [])) (by simp) (fun i x y _ h2 => by
          have : ∀ d : DataW H, 1 ≤ Rows.uptoBulk d := fun d => by
            cases d with
            | lit l => cases l <;> simp [Rows.uptoBulk]
            | _ => simp [Rows.uptoBulk]
          exact this _)
        simp only [List.length_replicate, List.map_map] at this
        rw [show (fun x : DataW H × List MemPlace => x.1) ∘ (fun d : DataW H => (d, ([] : List MemPlace))) = id from rfl, List.map_id] at this
        omega
      have := hb (lits (H := H) .u8 (zs.take n))
      simp only [Rows.uptoBulk]
      unfold lits at this ⊢
      rw [List.length_map, List.length_take] at this
      omega
theorem rkt_of_trod (h : DataW.trod enc Tryd.prog w 0 spare held fuel 23 [v] = some x) : ∃ l : List ByteArray, RkT w (· < w.heap.size) v l ∧ l.length + totW ByteArray.size l + 1 ≤ Rows.uptoBulk x.1 := by
  rcases DataW.trod_slice Tryd.underlying23 h with ⟨hcs, hx⟩ | ⟨a, len, cap, elems, rest, n', hn', hcs, hx, _, hlc, hcm, hel, hall, _, _⟩
  · simp only [List.cons.injEq, and_true] at hcs
    subst hcs hx
    exact ⟨[], ⟨none, 0, rfl, ⟨Nat.le_refl _, Nat.zero_le _⟩, Rk.nil _ _ _ _⟩, by simp [Rows.uptoBulk, totW]⟩
  · simp only [List.cons.injEq, and_true] at hcs
    subst hcs hx
    obtain ⟨l, hl, hp⟩ := pickW (α := ByteArray) elems (fun i b y => w.cell? (a.add i) = some (.string b) ∧ y.1 = .lit (.string b.data.toList)) (fun i y hy => by
      have hi : i < len := by rw [← hel]; exact (List.getElem?_eq_some_iff.1 hy).1
      have h1 := hall i hi
      rw [hy, Option.bind_eq_some_iff, cellsStr] at h1
      obtain ⟨cs', hc', ht'⟩ := h1
      obtain ⟨_, hcl, hat⟩ := World.cells?_some hc'
      obtain ⟨s, e, hy2, _⟩ := DataW.trod_string Tryd.underlying9 ht'
      subst e
      refine ⟨s, ?_, by rw [hy2]⟩
      have := hat 0 (by omega)
      simpa [Addr.add] using this)
    have hll : l.length = len := by omega
    subst hll
    refine ⟨l, ⟨some a, cap, rfl, ⟨hlc, hcm⟩, ⟨by simp, fun h0 => ⟨a, rfl, ?_, fun j u hu => ?_⟩⟩⟩, ?_⟩
    · have := block_lt_of_cell (hp 0 l[0] elems[0] (List.getElem?_eq_getElem (by omega)) (List.getElem?_eq_getElem (by omega))).1
      rwa [block_of_add] at this
    · rw [List.getElem?_map, Option.map_eq_some_iff] at hu
      obtain ⟨b, hb, rfl⟩ := hu
      have hj := (List.getElem?_eq_some_iff.1 hb).1
      exact (hp j b _ hb (List.getElem?_eq_getElem (by omega))).1
    · have := tot_bulk ByteArray.size l elems hl (fun i b y h1 h2 => by
        rw [(hp i b y h1 h2).2]
        simp [Rows.uptoBulk])
      simp only [Rows.uptoBulk]
      omega
theorem rkls_of {K : Nat → Prop} : ∀ (l : List (List UInt8 × Value)), (∀ p ∈ l, RkB w K p.2 p.1) → RkLs w K (l.map Prod.fst) (l.map Prod.snd)
  | [], _ => rfl
  | p :: l, h => ⟨p.2, l.map Prod.snd, rfl, h p (by simp), rkls_of l fun q hq => h q (by simp [hq])⟩
theorem rkl_of_trod (h : DataW.trod enc Tryd.prog w 0 spare held fuel 24 [v] = some x) : ∃ l : List (List UInt8), RkL w (· < w.heap.size) v l ∧ l.length + totW List.length l + 1 ≤ Rows.uptoBulk x.1 := by
  rcases DataW.trod_slice Tryd.underlying24 h with ⟨hcs, hx⟩ | ⟨a, len, cap, elems, rest, n', hn', hcs, hx, _, hlc, hcm, hel, hall, _, _⟩
  · simp only [List.cons.injEq, and_true] at hcs
    subst hcs hx
    exact ⟨[], ⟨none, 0, [], rfl, ⟨Nat.le_refl _, Nat.zero_le _⟩, Rk.nil _ _ _ _, rfl⟩, by simp [Rows.uptoBulk, totW]⟩
  · simp only [List.cons.injEq, and_true] at hcs
    subst hcs hx
    obtain ⟨l, hl, hp⟩ := pickW (α := List UInt8 × Value) elems (fun i b y => w.cell? (a.add i) = some b.2 ∧ RkB w (· < w.heap.size) b.2 b.1 ∧ b.1.length + 1 ≤ Rows.uptoBulk y.1) (fun i y hy => by
      have hi : i < len := by rw [← hel]; exact (List.getElem?_eq_some_iff.1 hy).1
      have h1 := hall i hi
      rw [hy, Option.bind_eq_some_iff, cellsBy] at h1
      obtain ⟨cs', hc', ht'⟩ := h1
      obtain ⟨_, hcl, hat⟩ := World.cells?_some hc'
      match cs', hcl with
      | [c0], _ =>
        obtain ⟨b, hb, hs⟩ := rkb_of_trod ht'
        refine ⟨(b, c0), ?_, hb, hs⟩
        have := hat 0 (by simp)
        simpa [Addr.add] using this)
    have hll : l.length = len := by omega
    subst hll
    refine ⟨l.map Prod.fst, ⟨some a, cap, l.map Prod.snd, by simp, ⟨by simpa using hlc, hcm⟩, ⟨by simp, fun h0 => ⟨a, rfl, ?_, fun j u hu => ?_⟩⟩, rkls_of l fun p hq => ?_⟩, ?_⟩
    · rw [List.length_map] at h0
      have := block_lt_of_cell (hp 0 l[0] elems[0] (List.getElem?_eq_getElem (by omega)) (List.getElem?_eq_getElem (by omega))).1
      rwa [block_of_add] at this
    · rw [List.getElem?_map, Option.map_eq_some_iff] at hu
      obtain ⟨b, hb, rfl⟩ := hu
      have hj := (List.getElem?_eq_some_iff.1 hb).1
      exact (hp j b _ hb (List.getElem?_eq_getElem (by omega))).1
    · obtain ⟨j, hj, e⟩ := List.getElem_of_mem hq
      exact (hp j p _ (by rw [← e]; exact List.getElem?_eq_getElem hj) (List.getElem?_eq_getElem (by omega))).2.1
    · have := tot_bulk (fun p : List UInt8 × Value => p.1.length) l elems hl (fun i b y h1 h2 => (hp i b y h1 h2).2.2)
      have e : ∀ l : List (List UInt8 × Value), totW List.length (l.map Prod.fst) = totW (fun p : List UInt8 × Value => p.1.length) l := fun l => by
        induction l with
        | nil => rfl
        | cons p l ih => simp only [List.map_cons, totW, ih]
      rw [e, List.length_map]
      simp only [Rows.uptoBulk]
      omega
set_option maxRecDepth 100000 in
theorem rep_of_trod {cs : List Value} (h : DataW.trod enc Tryd.prog w 0 spare held fuel 26 cs = some x) :
    ∃ (r : Rep) (v1 v2 v3 : Value), cs = [.int .i64 r.err, .int .i64 r.n, v1, v2, v3] ∧ RdRep w (· < w.heap.size) r (.agg #[.int .i64 r.err, .int .i64 r.n, v1, v2, v3]) ∧ (-9223372036854775808 ≤ r.err ∧ r.err ≤ 9223372036854775807) ∧ (-9223372036854775808 ≤ r.n ∧ r.n ≤ 9223372036854775807) ∧
      r.nms.length + totW ByteArray.size r.nms + (r.held.length + totW ByteArray.size r.held) + (r.lst.length + totW List.length r.lst) ≤ Rows.uptoBulk x.1 := by
  obtain ⟨xs, n, hn, hx, hl, hlen, hf⟩ := DataW.trod_struct Tryd.underlying26 h
  rw [cellsRp] at hl
  match cs, hl with
  | [c0, c1, c2, c3, c4], _ =>
    match xs, hlen with
    | [y0, y1, y2, y3, y4], _ =>
      have t0 : DataW.trod enc Tryd.prog w 0 spare held n 22 [c0] = some y0 := by have := hf 0 _ rfl; simpa [cellsEr] using this
      have t1 : DataW.trod enc Tryd.prog w 0 spare held n 3 [c1] = some y1 := by have := hf 1 _ rfl; simpa [cellsIn] using this
      have t2 : DataW.trod enc Tryd.prog w 0 spare held n 23 [c2] = some y2 := by have := hf 2 _ rfl; simpa [cellsNm] using this
      have t3 : DataW.trod enc Tryd.prog w 0 spare held n 23 [c3] = some y3 := by have := hf 3 _ rfl; simpa [cellsNm] using this
      have t4 : DataW.trod enc Tryd.prog w 0 spare held n 24 [c4] = some y4 := by have := hf 4 _ rfl; simpa [cellsLs] using this
      obtain ⟨er, e0, _, w0⟩ := DataW.trod_int Tryd.underlying22 t0
      obtain ⟨nn, e1, _, w1⟩ := DataW.trod_int Tryd.underlying3 t1
      simp only [List.cons.injEq, and_true] at e0 e1
      subst e0 e1 hx
      obtain ⟨l2, h2, s2⟩ := rkt_of_trod t2
      obtain ⟨l3, h3, s3⟩ := rkt_of_trod t3
      obtain ⟨l4, h4, s4⟩ := rkl_of_trod t4
      refine ⟨⟨er, nn, l2, l3, l4⟩, c2, c3, c4, rfl, ⟨c2, c3, c4, rfl, h2, h3, h4⟩, (Lit.wf_int_iff .i64 _).1 w0, (Lit.wf_int_iff .i64 _).1 w1, ?_⟩
      simp only [List.map_cons, List.map_nil, Rows.uptoBulk, Rows.uptoBulkAll]
      omega
end
set_option maxRecDepth 100000 in
theorem rep_of_Trod {H : Type} {enc : TypeId × Value → H} {w : World} {spare : Nat → Bool} {held : Bool} {r : Reach} {b0 : Nat} {v : Value} {d : DataW H} {p : List MemPlace} {ds : List (DataW H)} (hv : Value.okWide Tryd.prog w r b0 26 v) (h : DataW.Trod enc Tryd.prog w 0 spare held 26 v d p)
    (hb : Rows.uptoSmall H (d :: ds) = true) :
    ∃ x : Rep, RdRep w (· < w.heap.size) x v ∧ bulkR x ∧ (-9223372036854775808 ≤ x.err ∧ x.err ≤ 9223372036854775807) ∧ (-9223372036854775808 ≤ x.n ∧ x.n ≤ 9223372036854775807) := by
  obtain ⟨cs, rfl, hsz⟩ := okWide_struct Tryd.underlying26 hv
  obtain ⟨fuel, hf⟩ := h
  obtain ⟨x, v1, v2, v3, hcs, hr, h1, h2, h3⟩ := rep_of_trod hf
  have hb' : Rows.uptoBulk d + Rows.uptoBulkAll ds ≤ 1048576 := of_decide_eq_true (show decide (Rows.uptoBulkAll (d :: ds) ≤ 1048576) = true from hb)
  obtain rfl : cs = #[.int .i64 x.err, .int .i64 x.n, v1, v2, v3] := by simpa [Value.cells] using congrArg List.toArray hcs
  dsimp only at h3
  refine ⟨x, hr, ?_, h1, h2⟩
  unfold bulkR
  omega
end Go.Proofs.YtppnlijeonneeaaDoor

namespace Go.Proofs.YtppnlijeonneeaaDoor
open Go Go.RowKit Go.Sort

theorem smallB_sz2 {r : Rep} (h : smallB r = true) : szW r ≤ 3500 := by
  obtain ⟨h1, h2, h3, h4⟩ := of_decide_eq_true h
  rw [sz_tot]
  omega
abbrev repCells (r : Rep) (A1 : Option Addr) (c1 : Nat) (A2 : Option Addr) (c2 : Nat) (A3 : Option Addr) (c3 : Nat) : Array Value := #[.int .i64 r.err, .int .i64 r.n, .slice A1 r.nms.length c1, .slice A2 r.held.length c2, .slice A3 r.lst.length c3]

set_option maxRecDepth 100000 in
set_option maxHeartbeats 16000000 in
theorem back_out (r : Rep) (v : Value) (s : ByteArray) (w : World) (hV : WVars w) (hr : RdRep w (· < w.heap.size) r v) (hbk : bulkR r) (hb : smallB r = false) :
    Calls Tryd.prog 4 #[v, .string s] w fun e w' => e = .returned (.bool true) ∧ Gr w w' := by
  obtain ⟨A1, c1, A2, c2, A3, c3, rfl⟩ := rd_form hr
  have g1 := Gr.alloc w (.cells #[.int .i64 r.err, .int .i64 r.n, .slice A1 r.nms.length c1, .slice A2 r.held.length c2, .slice A3 r.lst.length c3] 26)
  have hB1 := Blk.new w 26 #[.int .i64 r.err, .int .i64 r.n, .slice A1 r.nms.length c1, .slice A2 r.held.length c2, .slice A3 r.lst.length c3]
  have hr1 := hr.gr g1
  have cS := small_any r _ _ hr1 hbk
  have cL := fun W (hg : Gr w W) => livR_any W (hV.gr hg)
  rw [hb] at cS
  go_enter Tryd.func4, Tryd.ntmps4
  go_wp2_with (first
    | (go_at_call 7; (with_reducible refine cS.mono ?_); rintro e w2 ⟨rfl, hb2⟩
       have g2 := Gr.trans g1 hb2)
    | (go_at_call 8; (with_reducible refine (cL _ g2).mono ?_); rintro e w9 ⟨rfl, hb9⟩))
  all_goals (try (exfalso; omega))
  go_ret
  exact ⟨rfl, Gr.trans g2 hb9⟩
set_option maxRecDepth 100000 in
set_option maxHeartbeats 16000000 in
theorem back_long (r : Rep) (v : Value) (s : ByteArray) (w : World) (hV : WVars w) (hr : RdRep w (· < w.heap.size) r v) (hbk : bulkR r) (hb : smallB r = true) (hl : 5000 < s.size) (hsm : s.size ≤ maxLen) :
    Calls Tryd.prog 4 #[v, .string s] w fun e w' => e = .returned (.bool true) ∧ Gr w w' := by
  obtain ⟨A1, c1, A2, c2, A3, c3, rfl⟩ := rd_form hr
  have g1 := Gr.alloc w (.cells #[.int .i64 r.err, .int .i64 r.n, .slice A1 r.nms.length c1, .slice A2 r.held.length c2, .slice A3 r.lst.length c3] 26)
  have hB1 := Blk.new w 26 #[.int .i64 r.err, .int .i64 r.n, .slice A1 r.nms.length c1, .slice A2 r.held.length c2, .slice A3 r.lst.length c3]
  have hr1 := hr.gr g1
  have cS := small_any r _ _ hr1 hbk
  have cL := fun W (hg : Gr w W) => livR_any W (hV.gr hg)
  rw [hb] at cS
  unfold maxLen at hsm
  go_enter Tryd.func4, Tryd.ntmps4
  go_wp2_with (first
    | (go_at_call 7; (with_reducible refine cS.mono ?_); rintro e w2 ⟨rfl, hb2⟩
       have g2 := Gr.trans g1 hb2)
    | (go_at_call 8; (with_reducible refine (cL _ g2).mono ?_); rintro e w9 ⟨rfl, hb9⟩))
  all_goals (try (exfalso; omega))
  go_ret
  exact ⟨rfl, Gr.trans g2 hb9⟩
set_option maxRecDepth 100000 in
set_option maxHeartbeats 16000000 in
theorem back_not_no (r : Rep) (v : Value) (s : ByteArray) (w : World) (hV : WVars w) (hr : RdRep w (· < w.heap.size) r v) (hbk : bulkR r) (hb : smallB r = true) (hs : s.size ≤ 5000) (hd : decide (mayR r) = false) (x : Rep) (E : Int)
    (cP : ∀ W, Gr w W → Calls Tryd.prog 9 #[.string s] W (PParR (x, E) W)) (hE : E ≠ 0) :
    Calls Tryd.prog 4 #[v, .string s] w fun e w' => e = .returned (.bool true) ∧ Gr w w' := by
  obtain ⟨A1, c1, A2, c2, A3, c3, rfl⟩ := rd_form hr
  have g1 := Gr.alloc w (.cells #[.int .i64 r.err, .int .i64 r.n, .slice A1 r.nms.length c1, .slice A2 r.held.length c2, .slice A3 r.lst.length c3] 26)
  have hB1 := Blk.new w 26 #[.int .i64 r.err, .int .i64 r.n, .slice A1 r.nms.length c1, .slice A2 r.held.length c2, .slice A3 r.lst.length c3]
  have hr1 := hr.gr g1
  have cS := small_any r _ _ hr1 hbk
  have cL := fun W (hg : Gr w W) => livR_any W (hV.gr hg)
  rw [hb] at cS
  have hsz := smallB_sz hb
  have nr := nms_ok (r := r) (by omega)
  have cM := fun W v (h : RdRep W (· < W.heap.size) r v) => rmayR_any r v W h nr.1 nr.2.1
  rw [hd] at cM
  unfold PParR at cP
  dsimp only at cP
  have cN := fun W => num_anyR E W
  clear hb hd hbk
  go_enter Tryd.func4, Tryd.ntmps4
  go_wp2_with (first
    | (go_at_call 7; (with_reducible refine cS.mono ?_); rintro e w2 ⟨rfl, hb2⟩
       have g2 := Gr.trans g1 hb2
       have r2 := hr1.gr hb2
       obtain ⟨i0, i1, i2, i3, i4⟩ := five_cells (hB1.below hb2 hB1.lt))
    | (go_at_call 16; (with_reducible refine (cM _ _ r2).mono ?_); rintro e w3 ⟨rfl, hb3⟩
       have g3 := Gr.trans g2 hb3
       have r3 := r2.gr hb3
       obtain ⟨j0, j1, j2, j3, j4⟩ := five_cells (hB1.below (Gr.trans hb2 hb3) hB1.lt))
    | (go_at_call 9; (with_reducible refine (cP _ g3).mono ?_); rintro e w7 ⟨y, rfl, hy7, hb7⟩
       obtain ⟨F1, f1, F2, f2, F3, f3, rfl⟩ := rd_form hy7
       have gn7 := Gr.alloc w7 (.cells #[.int .i64 x.err, .int .i64 x.n, .slice F1 x.nms.length f1, .slice F2 x.held.length f2, .slice F3 x.lst.length f3] 26)
       have y7 := hy7.gr gn7
       have g7 := Gr.trans (Gr.trans g3 hb7) gn7)
    | (go_at_call 14; (with_reducible refine (cN _).mono ?_); rintro e w11 ⟨rfl, hw11⟩; subst hw11)
    | (go_at_call 8; (with_reducible refine (cL _ g7).mono ?_); rintro e w9 ⟨rfl, hb9⟩))
  all_goals (try (exfalso; omega))
  go_ret
  exact ⟨by simp, Gr.trans g7 hb9⟩
set_option maxRecDepth 100000 in
set_option maxHeartbeats 16000000 in
theorem back_not_ok (r : Rep) (v : Value) (s : ByteArray) (w : World) (hV : WVars w) (hr : RdRep w (· < w.heap.size) r v) (hbk : bulkR r) (hb : smallB r = true) (hs : s.size ≤ 5000) (hd : decide (mayR r) = false) (x : Rep) (E : Int)
    (cP : ∀ W, Gr w W → Calls Tryd.prog 9 #[.string s] W (PParR (x, E) W)) (hE : E = 0) (T2 : ByteArray) (cT2 : ∀ W v, Gr w W → RdRep W (· < W.heap.size) x v → Calls Tryd.prog 11 #[v] W fun e w' => e = .returned (.string T2) ∧ Gr W w') (hT2 : T2 = s) :
    Calls Tryd.prog 4 #[v, .string s] w fun e w' => e = .returned (.bool true) ∧ Gr w w' := by
  subst hE
  obtain ⟨A1, c1, A2, c2, A3, c3, rfl⟩ := rd_form hr
  have g1 := Gr.alloc w (.cells #[.int .i64 r.err, .int .i64 r.n, .slice A1 r.nms.length c1, .slice A2 r.held.length c2, .slice A3 r.lst.length c3] 26)
  have hB1 := Blk.new w 26 #[.int .i64 r.err, .int .i64 r.n, .slice A1 r.nms.length c1, .slice A2 r.held.length c2, .slice A3 r.lst.length c3]
  have hr1 := hr.gr g1
  have cS := small_any r _ _ hr1 hbk
  have cL := fun W (hg : Gr w W) => livR_any W (hV.gr hg)
  rw [hb] at cS
  have hsz := smallB_sz hb
  have nr := nms_ok (r := r) (by omega)
  have cM := fun W v (h : RdRep W (· < W.heap.size) r v) => rmayR_any r v W h nr.1 nr.2.1
  rw [hd] at cM
  unfold PParR at cP
  dsimp only at cP
  have cN := fun W => num_anyR 0 W
  clear hb hd hbk
  go_enter Tryd.func4, Tryd.ntmps4
  go_wp2_with (first
    | (go_at_call 7; (with_reducible refine cS.mono ?_); rintro e w2 ⟨rfl, hb2⟩
       have g2 := Gr.trans g1 hb2
       have r2 := hr1.gr hb2
       obtain ⟨i0, i1, i2, i3, i4⟩ := five_cells (hB1.below hb2 hB1.lt))
    | (go_at_call 16; (with_reducible refine (cM _ _ r2).mono ?_); rintro e w3 ⟨rfl, hb3⟩
       have g3 := Gr.trans g2 hb3
       have r3 := r2.gr hb3
       obtain ⟨j0, j1, j2, j3, j4⟩ := five_cells (hB1.below (Gr.trans hb2 hb3) hB1.lt))
    | (go_at_call 9; (with_reducible refine (cP _ g3).mono ?_); rintro e w7 ⟨y, rfl, hy7, hb7⟩
       obtain ⟨F1, f1, F2, f2, F3, f3, rfl⟩ := rd_form hy7
       have gn7 := Gr.alloc w7 (.cells #[.int .i64 x.err, .int .i64 x.n, .slice F1 x.nms.length f1, .slice F2 x.held.length f2, .slice F3 x.lst.length f3] 26)
       have y7 := hy7.gr gn7
       have g7 := Gr.trans (Gr.trans g3 hb7) gn7)
    | (go_at_call 14; (with_reducible refine (cN _).mono ?_); rintro e w11 ⟨rfl, hw11⟩; subst hw11)
    | (go_at_call 11; (with_reducible refine (cT2 _ _ g7 y7).mono ?_); rintro e w8 ⟨rfl, hb8⟩
       have g8 := Gr.trans g7 hb8)
    | (go_at_call 8; (with_reducible refine (cL _ g8).mono ?_); rintro e w9 ⟨rfl, hb9⟩))
  all_goals (try (exfalso; omega))
  go_ret
  exact ⟨by simp, Gr.trans g8 hb9⟩
set_option maxRecDepth 100000 in
set_option maxHeartbeats 16000000 in
theorem back_may_no (r : Rep) (v : Value) (s : ByteArray) (w : World) (hV : WVars w) (hr : RdRep w (· < w.heap.size) r v) (hbk : bulkR r) (hb : smallB r = true) (hs : s.size ≤ 5000) (hd : decide (mayR r) = true) (x : Rep) (E : Int)
    (cP : ∀ W, Gr w W → Calls Tryd.prog 9 #[.string s] W (PParR (x, E) W)) (hE : E ≠ 0)
    (T : ByteArray) (cT : ∀ W v, Gr w W → RdRep W (· < W.heap.size) r v → Calls Tryd.prog 11 #[v] W fun e w' => e = .returned (.string T) ∧ Gr W w') (cQ : ∀ W, Gr w W → Calls Tryd.prog 9 #[.string T] W (PParR (r, 0) W)) :
    Calls Tryd.prog 4 #[v, .string s] w fun e w' => e = .returned (.bool true) ∧ Gr w w' := by
  obtain ⟨A1, c1, A2, c2, A3, c3, rfl⟩ := rd_form hr
  have g1 := Gr.alloc w (.cells #[.int .i64 r.err, .int .i64 r.n, .slice A1 r.nms.length c1, .slice A2 r.held.length c2, .slice A3 r.lst.length c3] 26)
  have hB1 := Blk.new w 26 #[.int .i64 r.err, .int .i64 r.n, .slice A1 r.nms.length c1, .slice A2 r.held.length c2, .slice A3 r.lst.length c3]
  have hr1 := hr.gr g1
  have cS := small_any r _ _ hr1 hbk
  have cL := fun W (hg : Gr w W) => livR_any W (hV.gr hg)
  rw [hb] at cS
  have hsz := smallB_sz hb
  have nr := nms_ok (r := r) (by omega)
  have cM := fun W v (h : RdRep W (· < W.heap.size) r v) => rmayR_any r v W h nr.1 nr.2.1
  rw [hd] at cM
  unfold PParR at cP
  dsimp only at cP
  have cN := fun W => num_anyR E W
  unfold PParR at cQ
  dsimp only at cQ
  have cN0 := fun W => num_anyR 0 W
  have cE := fun W v u (h1 : RdRep W (· < W.heap.size) r v) (h2 : RdRep W (· < W.heap.size) r u) => psameR_any r r v u W h1 h2
  rw [repEq_refl] at cE
  clear hb hd hbk
  go_enter Tryd.func4, Tryd.ntmps4
  go_wp2_with (first
    | (go_at_call 7; (with_reducible refine cS.mono ?_); rintro e w2 ⟨rfl, hb2⟩
       have g2 := Gr.trans g1 hb2
       have r2 := hr1.gr hb2
       obtain ⟨i0, i1, i2, i3, i4⟩ := five_cells (hB1.below hb2 hB1.lt))
    | (go_at_call 16; (with_reducible refine (cM _ _ r2).mono ?_); rintro e w3 ⟨rfl, hb3⟩
       have g3 := Gr.trans g2 hb3
       have r3 := r2.gr hb3
       obtain ⟨j0, j1, j2, j3, j4⟩ := five_cells (hB1.below (Gr.trans hb2 hb3) hB1.lt))
    | (go_at_call 11; (with_reducible refine (cT _ _ g3 r3).mono ?_); rintro e w4 ⟨rfl, hb4⟩
       have g4 := Gr.trans g3 hb4
       have r4 := r3.gr hb4
       have b4 := hB1.below (Gr.trans (Gr.trans hb2 hb3) hb4) hB1.lt)
    | (go_at_call 9; (with_reducible refine (cQ _ g4).mono ?_); rintro e w5 ⟨u, rfl, hu5, hb5⟩
       obtain ⟨D1, d1, D2, d2, D3, d3, rfl⟩ := rd_form hu5
       have gn5 := Gr.alloc w5 (.cells #[.int .i64 r.err, .int .i64 r.n, .slice D1 r.nms.length d1, .slice D2 r.held.length d2, .slice D3 r.lst.length d3] 26)
       have u5 := hu5.gr gn5
       have g5 := Gr.trans (Gr.trans g4 hb5) gn5
       have r5 := r4.gr (Gr.trans hb5 gn5)
       have b5 := b4.below (Gr.trans hb5 gn5) b4.lt
       obtain ⟨k0, k1, k2, k3, k4⟩ := five_cells (b5))
    | (go_at_call 14; (with_reducible refine (cN0 _).mono ?_); rintro e w10 ⟨rfl, hw10⟩; subst hw10)
    | (go_at_call 15; (with_reducible refine (cE _ _ _ u5 r5).mono ?_); rintro e w6 ⟨rfl, hb6⟩
       have g6 := Gr.trans g5 hb6)
    | (go_at_call 9; (with_reducible refine (cP _ g6).mono ?_); rintro e w7 ⟨y, rfl, hy7, hb7⟩
       obtain ⟨F1, f1, F2, f2, F3, f3, rfl⟩ := rd_form hy7
       have gn7 := Gr.alloc w7 (.cells #[.int .i64 x.err, .int .i64 x.n, .slice F1 x.nms.length f1, .slice F2 x.held.length f2, .slice F3 x.lst.length f3] 26)
       have y7 := hy7.gr gn7
       have g7 := Gr.trans (Gr.trans g6 hb7) gn7)
    | (go_at_call 14; (with_reducible refine (cN _).mono ?_); rintro e w11 ⟨rfl, hw11⟩; subst hw11)
    | (go_at_call 8; (with_reducible refine (cL _ g7).mono ?_); rintro e w9 ⟨rfl, hb9⟩))
  all_goals (try (exfalso; omega))
  go_ret
  exact ⟨by simp, Gr.trans g7 hb9⟩
set_option maxRecDepth 100000 in
set_option maxHeartbeats 16000000 in
theorem back_may_ok (r : Rep) (v : Value) (s : ByteArray) (w : World) (hV : WVars w) (hr : RdRep w (· < w.heap.size) r v) (hbk : bulkR r) (hb : smallB r = true) (hs : s.size ≤ 5000) (hd : decide (mayR r) = true) (x : Rep) (E : Int)
    (cP : ∀ W, Gr w W → Calls Tryd.prog 9 #[.string s] W (PParR (x, E) W)) (hE : E = 0) (T2 : ByteArray) (cT2 : ∀ W v, Gr w W → RdRep W (· < W.heap.size) x v → Calls Tryd.prog 11 #[v] W fun e w' => e = .returned (.string T2) ∧ Gr W w') (hT2 : T2 = s)
    (T : ByteArray) (cT : ∀ W v, Gr w W → RdRep W (· < W.heap.size) r v → Calls Tryd.prog 11 #[v] W fun e w' => e = .returned (.string T) ∧ Gr W w') (cQ : ∀ W, Gr w W → Calls Tryd.prog 9 #[.string T] W (PParR (r, 0) W)) :
    Calls Tryd.prog 4 #[v, .string s] w fun e w' => e = .returned (.bool true) ∧ Gr w w' := by
  subst hE
  obtain ⟨A1, c1, A2, c2, A3, c3, rfl⟩ := rd_form hr
  have g1 := Gr.alloc w (.cells #[.int .i64 r.err, .int .i64 r.n, .slice A1 r.nms.length c1, .slice A2 r.held.length c2, .slice A3 r.lst.length c3] 26)
  have hB1 := Blk.new w 26 #[.int .i64 r.err, .int .i64 r.n, .slice A1 r.nms.length c1, .slice A2 r.held.length c2, .slice A3 r.lst.length c3]
  have hr1 := hr.gr g1
  have cS := small_any r _ _ hr1 hbk
  have cL := fun W (hg : Gr w W) => livR_any W (hV.gr hg)
  rw [hb] at cS
  have hsz := smallB_sz hb
  have nr := nms_ok (r := r) (by omega)
  have cM := fun W v (h : RdRep W (· < W.heap.size) r v) => rmayR_any r v W h nr.1 nr.2.1
  rw [hd] at cM
  unfold PParR at cP
  dsimp only at cP
  have cN := fun W => num_anyR 0 W
  unfold PParR at cQ
  dsimp only at cQ
  have cN0 := fun W => num_anyR 0 W
  have cE := fun W v u (h1 : RdRep W (· < W.heap.size) r v) (h2 : RdRep W (· < W.heap.size) r u) => psameR_any r r v u W h1 h2
  rw [repEq_refl] at cE
  clear hb hd hbk
  go_enter Tryd.func4, Tryd.ntmps4
  go_wp2_with (first
    | (go_at_call 7; (with_reducible refine cS.mono ?_); rintro e w2 ⟨rfl, hb2⟩
       have g2 := Gr.trans g1 hb2
       have r2 := hr1.gr hb2
       obtain ⟨i0, i1, i2, i3, i4⟩ := five_cells (hB1.below hb2 hB1.lt))
    | (go_at_call 16; (with_reducible refine (cM _ _ r2).mono ?_); rintro e w3 ⟨rfl, hb3⟩
       have g3 := Gr.trans g2 hb3
       have r3 := r2.gr hb3
       obtain ⟨j0, j1, j2, j3, j4⟩ := five_cells (hB1.below (Gr.trans hb2 hb3) hB1.lt))
    | (go_at_call 11; (with_reducible refine (cT _ _ g3 r3).mono ?_); rintro e w4 ⟨rfl, hb4⟩
       have g4 := Gr.trans g3 hb4
       have r4 := r3.gr hb4
       have b4 := hB1.below (Gr.trans (Gr.trans hb2 hb3) hb4) hB1.lt)
    | (go_at_call 9; (with_reducible refine (cQ _ g4).mono ?_); rintro e w5 ⟨u, rfl, hu5, hb5⟩
       obtain ⟨D1, d1, D2, d2, D3, d3, rfl⟩ := rd_form hu5
       have gn5 := Gr.alloc w5 (.cells #[.int .i64 r.err, .int .i64 r.n, .slice D1 r.nms.length d1, .slice D2 r.held.length d2, .slice D3 r.lst.length d3] 26)
       have u5 := hu5.gr gn5
       have g5 := Gr.trans (Gr.trans g4 hb5) gn5
       have r5 := r4.gr (Gr.trans hb5 gn5)
       have b5 := b4.below (Gr.trans hb5 gn5) b4.lt
       obtain ⟨k0, k1, k2, k3, k4⟩ := five_cells (b5))
    | (go_at_call 14; (with_reducible refine (cN0 _).mono ?_); rintro e w10 ⟨rfl, hw10⟩; subst hw10)
    | (go_at_call 15; (with_reducible refine (cE _ _ _ u5 r5).mono ?_); rintro e w6 ⟨rfl, hb6⟩
       have g6 := Gr.trans g5 hb6)
    | (go_at_call 9; (with_reducible refine (cP _ g6).mono ?_); rintro e w7 ⟨y, rfl, hy7, hb7⟩
       obtain ⟨F1, f1, F2, f2, F3, f3, rfl⟩ := rd_form hy7
       have gn7 := Gr.alloc w7 (.cells #[.int .i64 x.err, .int .i64 x.n, .slice F1 x.nms.length f1, .slice F2 x.held.length f2, .slice F3 x.lst.length f3] 26)
       have y7 := hy7.gr gn7
       have g7 := Gr.trans (Gr.trans g6 hb7) gn7)
    | (go_at_call 14; (with_reducible refine (cN _).mono ?_); rintro e w11 ⟨rfl, hw11⟩; subst hw11)
    | (go_at_call 11; (with_reducible refine (cT2 _ _ g7 y7).mono ?_); rintro e w8 ⟨rfl, hb8⟩
       have g8 := Gr.trans g7 hb8)
    | (go_at_call 8; (with_reducible refine (cL _ g8).mono ?_); rintro e w9 ⟨rfl, hb9⟩))
  all_goals (try (exfalso; omega))
  go_ret
  exact ⟨by simp, Gr.trans g8 hb9⟩
theorem law_replyback (r : Rep) (v : Value) (s : ByteArray) (w : World) (hV : WVars w) (hr : RdRep w (· < w.heap.size) r v) (hbk : bulkR r) (he0 : -9223372036854775808 ≤ r.err) (he1 : r.err ≤ 9223372036854775807) (h0 : -9223372036854775808 ≤ r.n) (h1 : r.n ≤ 9223372036854775807) (hsm : s.size ≤ maxLen) :
    Calls Tryd.prog 4 #[v, .string s] w fun e w' => e = .returned (.bool true) ∧ Gr w w' := by
  cases hb : smallB r with
  | false => exact back_out r v s w hV hr hbk hb
  | true =>
    by_cases hl : 5000 < s.size
    · exact back_long r v s w hV hr hbk hb hl hsm
    · obtain ⟨l, rfl⟩ : ∃ l, s = wa l := ⟨s.data.toList, (data_wa s).symm⟩
      have hsl : (wa l).size = l.length := wa_size l
      have hll : l.length ≤ 5000 := by omega
      have hz := smallB_sz2 hb
      have htz := textO_sz r he0 he1 h0 h1
      have cP := fun W (hg : Gr w W) => pparse_any l W (hV.gr hg) hll
      have hbk2 := parseO_back candP l
      have cT := fun W v (hg : Gr w W) (h : RdRep W (· < W.heap.size) r v) => ptextO_any r v W (hV.gr hg).1 h he0 he1 h0 h1 (by omega)
      obtain ⟨x, E, hxE⟩ : ∃ x E, parseO candP l = (x, E) := ⟨_, _, rfl⟩
      rw [hxE] at cP hbk2
      by_cases hE : E = 0
      · have hok : OkR l x := hbk2 hE
        have hx2 := hok.2.1
        have cT2 := fun W v (hg : Gr w W) (h : RdRep W (· < W.heap.size) x v) => ptextO_any x v W (hV.gr hg).1 h (by unfold mayR at hx2; omega) (by unfold mayR at hx2; omega) (by unfold mayR at hx2; omega) (by unfold mayR at hx2; omega) (by rw [hok.2.2]; omega)
        by_cases hm : mayR r
        · have hq : OkR (textO r) r := ⟨by omega, hm, rfl⟩
          have cQ := fun W (hg : Gr w W) => pparse_any (textO r) W (hV.gr hg) (by omega)
          rw [parseO_ok hq hq.cp] at cQ
          exact back_may_ok r v _ w hV hr hbk hb (by omega) (decide_eq_true hm) x E cP hE _ cT2 (by rw [hok.2.2]) _ cT cQ
        · exact back_not_ok r v _ w hV hr hbk hb (by omega) (decide_eq_false hm) x E cP hE _ cT2 (by rw [hok.2.2])
      · by_cases hm : mayR r
        · have hq : OkR (textO r) r := ⟨by omega, hm, rfl⟩
          have cQ := fun W (hg : Gr w W) => pparse_any (textO r) W (hV.gr hg) (by omega)
          rw [parseO_ok hq hq.cp] at cQ
          exact back_may_no r v _ w hV hr hbk hb (by omega) (decide_eq_true hm) x E cP hE _ cT cQ
        · exact back_not_no r v _ w hV hr hbk hb (by omega) (decide_eq_false hm) x E cP hE
theorem row_replytexts (r : Rep) (v : Value) (s : ByteArray) (W : World) (hr : RdRep W (· < W.heap.size) r v) (hbk : bulkR r) (he : -9223372036854775808 ≤ r.err ∧ r.err ≤ 9223372036854775807) (hn : -9223372036854775808 ≤ r.n ∧ r.n ≤ 9223372036854775807) (hs : s.size ≤ 140737488351232) (hP : Pow W) (hE : Errs W) (hS : W.ShapedOpen Tryd.prog) :
    Calls Tryd.prog 3 #[v, .string s] W fun e w' => e = .returned (.bool true) ∧ Below W.heap.size W w' := law_replytexts r v s W (wvars_of hP hE hS) hr hbk he.1 he.2 hn.1 hn.2 (by unfold maxLen; omega)
theorem row_replyback (r : Rep) (v : Value) (s : ByteArray) (W : World) (hr : RdRep W (· < W.heap.size) r v) (hbk : bulkR r) (he : -9223372036854775808 ≤ r.err ∧ r.err ≤ 9223372036854775807) (hn : -9223372036854775808 ≤ r.n ∧ r.n ≤ 9223372036854775807) (hs : s.size ≤ 140737488351232) (hP : Pow W) (hE : Errs W) (hS : W.ShapedOpen Tryd.prog) :
    Calls Tryd.prog 4 #[v, .string s] W fun e w' => e = .returned (.bool true) ∧ Below W.heap.size W w' := law_replyback r v s W (wvars_of hP hE hS) hr hbk he.1 he.2 hn.1 hn.2 (by unfold maxLen; omega)
end Go.Proofs.YtppnlijeonneeaaDoor
