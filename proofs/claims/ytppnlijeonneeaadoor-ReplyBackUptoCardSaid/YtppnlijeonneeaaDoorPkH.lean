/- Answers: are two the same? both sides. Printed by wip/tools/genwqh.py. Answers: may one be? both sides. Answers: the reference's Text, May. Answers: the reference's Text. Printed by wip/tools/genwql.py. Answers: the program's reader of digits. -/
import Derived.Test.YtppnlijeonneeaaDoorPkG
import Derived.Test.YtppnlijeonneeaaDoorEvText
import Derived.Lib.QuietBelow
import Derived.Test.YtppnlijeonneeaaDoorEvMay
import Derived.Test.YtppnlijeonneeaaDoorShelf8
namespace Go.Proofs.YtppnlijeonneeaaDoor
open Go Go.RowKit Go.Sort

theorem take_eqW {α : Type} {l m : List α} {k : Nat} {x y : α} (hT : l.take k = m.take k) (hx : l[k]? = some x) (hy : m[k]? = some y) (e : x = y) : l.take (k + 1) = m.take (k + 1) := by
  obtain ⟨h1, e1⟩ := List.getElem?_eq_some_iff.1 hx
  obtain ⟨h2, e2⟩ := List.getElem?_eq_some_iff.1 hy
  rw [List.take_succ_eq_append_getElem h1, List.take_succ_eq_append_getElem h2, hT, e1, e2, e]
theorem at_neW {α : Type} {l m : List α} {k : Nat} {x y : α} (hx : l[k]? = some x) (hy : m[k]? = some y) (e : x ≠ y) : l ≠ m := by
  intro h
  rw [h, hy] at hx
  exact e (Option.some.inj hx).symm
theorem take_allW {α : Type} {l m : List α} (hT : l.take l.length = m.take l.length) (hl : l.length = m.length) : l = m := by
  rw [List.take_of_length_le (Nat.le_refl _), List.take_of_length_le (by omega)] at hT
  exact hT
section
variable {w : World}
set_option maxRecDepth 100000 in
set_option maxHeartbeats 2000000 in
theorem slicesEq_any (l m : List ByteArray) (A B : Option Addr) (c c' : Nat) (hc : l.length ≤ c) (hcm : c ≤ maxLen) (_hc' : m.length ≤ c') (_hcm' : c' ≤ maxLen) (hl : Rk w (· < w.heap.size) 1 A l.length (l.map Value.string)) (hm : Rk w (· < w.heap.size) 1 B m.length (m.map Value.string)) :
    Calls Tryd.prog 39 #[.slice A l.length c, .slice B m.length c'] w fun e w' => e = .returned (.bool (decide (l = m))) ∧ Gr w w' := by
  unfold maxLen at hcm _hcm'
  by_cases hlen : l.length = m.length
  · have HL := Lib.hid hlen
    have h1 : (((l.length : Nat) : Int) != ((m.length : Nat) : Int)) = false := by simp [hlen]
    generalize hE : decide (l = m) = E
    have HE1 := Lib.hid (fun (h : l = m) => (by rw [← hE, decide_eq_true h] : E = true))
    have HE0 := Lib.hid (fun (h : l ≠ m) => (by rw [← hE, decide_eq_false h] : E = false))
    clear hE hlen
    go_enter Tryd.func39, Tryd.ntmps39
    go_wp2
    go_loopw [13] (fun v wr => ∃ k : Nat, v = .int .i64 (k : Int) ∧ k ≤ l.length ∧ l.take k = m.take k ∧ Gr w wr) (fun v _ => l.length - (intOf v).toNat)
    case atStart => exact ⟨0, rfl, Nat.zero_le _, by simp, Gr.refl _⟩
    case round =>
      obtain ⟨k, rfl, hk, hT, hgw⟩ := hrel
      by_cases hlt : k < l.length
      · obtain ⟨x, hxk⟩ : ∃ x, l[k]? = some x := ⟨_, List.getElem?_eq_getElem hlt⟩
        have hlt' : k < m.length := by rw [← HL.out]; exact hlt
        obtain ⟨y, hyk⟩ : ∃ y, m[k]? = some y := ⟨_, List.getElem?_eq_getElem hlt'⟩
        obtain ⟨ad, rfl, hab, hcell⟩ := hl.2 (by omega)
        obtain ⟨bd, rfl, hbb, hcell'⟩ := hm.2 (by omega)
        have p0 := (hgw.cell (p := ad.add k) (by rw [block_of_add]; exact hab)).trans (hcell k (.string x) (by rw [List.getElem?_map, hxk]; rfl))
        have p1 := (hgw.cell (p := bd.add k) (by rw [block_of_add]; exact hbb)).trans (hcell' k (.string y) (by rw [List.getElem?_map, hyk]; rfl))
        by_cases hxy : x = y
        · have HT := Lib.hid (take_eqW hT hxk hyk hxy)
          subst hxy
          clear hT hxk hyk hcell hcell' hab hbb
          go_wp2
          go_quiet (fail)
          go_wp2
          go_roundw
          case rel => exact ⟨k + 1, by go_num, hlt, HT.out, Gr.trans hgw (Gr.drewN _ _)⟩
          case measure => simp [intOf]; omega
        · have HN := Lib.hid (HE0.out (at_neW hxk hyk hxy))
          obtain ⟨n1, n2⟩ := str_neqW hxy
          clear hT hxk hyk hcell hcell' hab hbb hxy
          go_wp2
          go_quiet (fail)
          go_wp2
          go_ret
          exact ⟨ret_bool HN.out.symm, Gr.trans hgw (Gr.drewN _ _)⟩
      · obtain rfl : k = l.length := by omega
        have HN := Lib.hid (HE1.out (take_allW hT HL.out))
        clear hT
        go_wp2
        go_ret
        exact ⟨ret_bool HN.out.symm, hgw⟩
  · have h1 : (((l.length : Nat) : Int) != ((m.length : Nat) : Int)) = true := by simp; omega
    have h2 : decide (l = m) = false := decide_eq_false (fun e => hlen (by rw [e]))
    rw [h2]
    clear hlen h2
    go_enter Tryd.func39, Tryd.ntmps39
    go_wp2
    go_ret
    exact ⟨rfl, Gr.refl _⟩
set_option maxRecDepth 100000 in
set_option maxHeartbeats 2000000 in
theorem sameNames_any (l m : List ByteArray) (A B : Option Addr) (c c' : Nat) (hc : l.length ≤ c) (hcm : c ≤ maxLen) (_hc' : m.length ≤ c') (_hcm' : c' ≤ maxLen) (hl : Rk w (· < w.heap.size) 1 A l.length (l.map Value.string)) (hm : Rk w (· < w.heap.size) 1 B m.length (m.map Value.string)) :
    Calls Tryd.prog 37 #[.slice A l.length c, .slice B m.length c'] w fun e w' => e = .returned (.bool (decide (l = m))) ∧ Gr w w' := by
  unfold maxLen at hcm _hcm'
  by_cases hlen : l.length = m.length
  · have HL := Lib.hid hlen
    have h1 : (((l.length : Nat) : Int) != ((m.length : Nat) : Int)) = false := by simp [hlen]
    generalize hE : decide (l = m) = E
    have HE1 := Lib.hid (fun (h : l = m) => (by rw [← hE, decide_eq_true h] : E = true))
    have HE0 := Lib.hid (fun (h : l ≠ m) => (by rw [← hE, decide_eq_false h] : E = false))
    clear hE hlen
    go_enter Tryd.func37, Tryd.ntmps37
    go_wp2
    go_loopw [5] (fun v wr => ∃ k : Nat, v = .int .i64 (k : Int) ∧ k ≤ l.length ∧ l.take k = m.take k ∧ Gr w wr) (fun v _ => l.length - (intOf v).toNat)
    case atStart => exact ⟨0, rfl, Nat.zero_le _, by simp, Gr.refl _⟩
    case round =>
      obtain ⟨k, rfl, hk, hT, hgw⟩ := hrel
      by_cases hlt : k < l.length
      · obtain ⟨x, hxk⟩ : ∃ x, l[k]? = some x := ⟨_, List.getElem?_eq_getElem hlt⟩
        have hlt' : k < m.length := by rw [← HL.out]; exact hlt
        obtain ⟨y, hyk⟩ : ∃ y, m[k]? = some y := ⟨_, List.getElem?_eq_getElem hlt'⟩
        obtain ⟨ad, rfl, hab, hcell⟩ := hl.2 (by omega)
        obtain ⟨bd, rfl, hbb, hcell'⟩ := hm.2 (by omega)
        have p0 := (hgw.cell (p := ad.add k) (by rw [block_of_add]; exact hab)).trans (hcell k (.string x) (by rw [List.getElem?_map, hxk]; rfl))
        have p1 := (hgw.cell (p := bd.add k) (by rw [block_of_add]; exact hbb)).trans (hcell' k (.string y) (by rw [List.getElem?_map, hyk]; rfl))
        by_cases hxy : x = y
        · have HT := Lib.hid (take_eqW hT hxk hyk hxy)
          subst hxy
          clear hT hxk hyk hcell hcell' hab hbb
          go_wp2
          go_quiet (fail)
          go_wp2
          go_roundw
          case rel => exact ⟨k + 1, by go_num, hlt, HT.out, Gr.trans hgw (Gr.drewN _ _)⟩
          case measure => simp [intOf]; omega
        · have HN := Lib.hid (HE0.out (at_neW hxk hyk hxy))
          obtain ⟨n1, n2⟩ := str_neqW hxy
          clear hT hxk hyk hcell hcell' hab hbb hxy
          go_wp2
          go_quiet (fail)
          go_wp2
          go_ret
          exact ⟨ret_bool HN.out.symm, Gr.trans hgw (Gr.drewN _ _)⟩
      · obtain rfl : k = l.length := by omega
        have HN := Lib.hid (HE1.out (take_allW hT HL.out))
        clear hT
        go_wp2
        go_ret
        exact ⟨ret_bool HN.out.symm, hgw⟩
  · have h1 : (((l.length : Nat) : Int) != ((m.length : Nat) : Int)) = true := by simp; omega
    have h2 : decide (l = m) = false := decide_eq_false (fun e => hlen (by rw [e]))
    rw [h2]
    clear hlen h2
    go_enter Tryd.func37, Tryd.ntmps37
    go_wp2
    go_ret
    exact ⟨rfl, Gr.refl _⟩
set_option maxRecDepth 100000 in
theorem bytesEq_any (l m : List UInt8) (v v' : Value) (hl : RdB w w.heap.size v l) (hm : RdB w w.heap.size v' m) : Calls Tryd.prog 41 #[v, v'] w fun e w' => e = .returned (.bool (decide (l = m))) ∧ Gr w w' := by
  have s1 := str_rdW hl
  have s2 := str_rdW hm
  obtain ⟨A, c, rfl, hc, -⟩ := hl
  obtain ⟨B, c', rfl, hc', -⟩ := hm
  by_cases e : l = m
  · subst e
    rw [decide_eq_true rfl]
    go_enter Tryd.func41, Tryd.ntmps41
    go_wp2
    go_ret
    exact ⟨rfl, Gr.refl _⟩
  · rw [decide_eq_false e]
    have hne : (⟨l.toArray⟩ : ByteArray) ≠ ⟨m.toArray⟩ := fun h => e (wa_inj h)
    obtain ⟨n1, n2⟩ := str_neqW hne
    generalize (⟨l.toArray⟩ : ByteArray) = a at *
    generalize (⟨m.toArray⟩ : ByteArray) = b at *
    clear hne
    go_enter Tryd.func41, Tryd.ntmps41
    go_wp2
    go_ret
    exact ⟨rfl, Gr.refl _⟩
set_option maxRecDepth 100000 in
set_option maxHeartbeats 2000000 in
theorem eqFunc_any (l m : List (List UInt8)) (A B : Option Addr) (c c' : Nat) (vs vs' : List Value) (hc : l.length ≤ c) (hcm : c ≤ maxLen) (_hc' : m.length ≤ c') (_hcm' : c' ≤ maxLen) (hl : Rk w (· < w.heap.size) 1 A l.length vs) (hll : RkLs w (· < w.heap.size) l vs) (hm : Rk w (· < w.heap.size) 1 B m.length vs') (hml : RkLs w (· < w.heap.size) m vs') :
    Calls Tryd.prog 40 #[.slice A l.length c, .slice B m.length c', .func (.func 41) #[] #[]] w fun e w' => e = .returned (.bool (decide (l = m))) ∧ Gr w w' := by
  unfold maxLen at hcm _hcm'
  by_cases hlen : l.length = m.length
  · have HL := Lib.hid hlen
    have h1 : (((l.length : Nat) : Int) != ((m.length : Nat) : Int)) = false := by simp [hlen]
    generalize hE : decide (l = m) = E
    have HE1 := Lib.hid (fun (h : l = m) => (by rw [← hE, decide_eq_true h] : E = true))
    have HE0 := Lib.hid (fun (h : l ≠ m) => (by rw [← hE, decide_eq_false h] : E = false))
    clear hE hlen
    go_enter Tryd.func40, Tryd.ntmps40
    go_wp2
    go_loopw [17] (fun v wr => ∃ k : Nat, v = .int .i64 (k : Int) ∧ k ≤ l.length ∧ l.take k = m.take k ∧ Gr w wr) (fun v _ => l.length - (intOf v).toNat)
    case atStart => exact ⟨0, rfl, Nat.zero_le _, by simp, Gr.refl _⟩
    case round =>
      obtain ⟨k, rfl, hk, hT, hgw⟩ := hrel
      by_cases hlt : k < l.length
      · obtain ⟨x, hxk⟩ : ∃ x, l[k]? = some x := ⟨_, List.getElem?_eq_getElem hlt⟩
        have hlt' : k < m.length := by rw [← HL.out]; exact hlt
        obtain ⟨y, hyk⟩ : ∃ y, m[k]? = some y := ⟨_, List.getElem?_eq_getElem hlt'⟩
        obtain ⟨u, hu, hru⟩ := RkLs.at_ l vs k x hll hxk
        obtain ⟨u', hu', hru'⟩ := RkLs.at_ m vs' k y hml hyk
        obtain ⟨ad, rfl, hab, hcell⟩ := hl.2 (by omega)
        obtain ⟨bd, rfl, hbb, hcell'⟩ := hm.2 (by omega)
        have p0 := (hgw.cell (p := ad.add k) (by rw [block_of_add]; exact hab)).trans (hcell k u hu)
        have p1 := (hgw.cell (p := bd.add k) (by rw [block_of_add]; exact hbb)).trans (hcell' k u' hu')
        have r0 : RdB wr wr.heap.size u x := ((hru.rd (fun _ h => h)).gr (Nat.le_refl _) hgw).more hgw.size
        have r1 : RdB wr wr.heap.size u' y := ((hru'.rd (fun _ h => h)).gr (Nat.le_refl _) hgw).more hgw.size
        have cB := bytesEq_any x y u u' r0 r1
        obtain ⟨Au, cu, rfl, hcu, -⟩ := hru
        obtain ⟨Bu, cu', rfl, hcu', -⟩ := hru'
        by_cases hxy : x = y
        · have HT := Lib.hid (take_eqW hT hxk hyk hxy)
          simp only [decide_eq_true hxy] at cB
          clear hT hxk hyk hcell hcell' hab hbb hxy hu hu' hcu hcu'
          go_wp2_with (go_at_call 41; (with_reducible refine cB.mono ?_); rintro e w3 ⟨rfl, hb3⟩)
          go_roundw
          case rel => exact ⟨k + 1, by go_num, hlt, HT.out, Gr.trans hgw hb3⟩
          case measure => simp [intOf]; omega
        · have HN := Lib.hid (HE0.out (at_neW hxk hyk hxy))
          simp only [decide_eq_false hxy] at cB
          clear hT hxk hyk hcell hcell' hab hbb hxy hu hu' hcu hcu'
          go_wp2_with (go_at_call 41; (with_reducible refine cB.mono ?_); rintro e w3 ⟨rfl, hb3⟩)
          go_ret
          exact ⟨ret_bool HN.out.symm, Gr.trans hgw hb3⟩
      · obtain rfl : k = l.length := by omega
        have HN := Lib.hid (HE1.out (take_allW hT HL.out))
        clear hT
        go_wp2
        go_ret
        exact ⟨ret_bool HN.out.symm, hgw⟩
  · have h1 : (((l.length : Nat) : Int) != ((m.length : Nat) : Int)) = true := by simp; omega
    have h2 : decide (l = m) = false := decide_eq_false (fun e => hlen (by rw [e]))
    rw [h2]
    clear hlen h2
    go_enter Tryd.func40, Tryd.ntmps40
    go_wp2
    go_ret
    exact ⟨rfl, Gr.refl _⟩
set_option maxRecDepth 100000 in
set_option maxHeartbeats 2000000 in
theorem sameAll_any (l m : List (List UInt8)) (A B : Option Addr) (c c' : Nat) (vs vs' : List Value) (hc : l.length ≤ c) (hcm : c ≤ maxLen) (_hc' : m.length ≤ c') (_hcm' : c' ≤ maxLen) (hl : Rk w (· < w.heap.size) 1 A l.length vs) (hll : RkLs w (· < w.heap.size) l vs) (hm : Rk w (· < w.heap.size) 1 B m.length vs') (hml : RkLs w (· < w.heap.size) m vs') (hlb : ∀ x ∈ l, x.length ≤ 1073741824) :
    Calls Tryd.prog 38 #[.slice A l.length c, .slice B m.length c'] w fun e w' => e = .returned (.bool (decide (l = m))) ∧ Gr w w' := by
  unfold maxLen at hcm _hcm'
  by_cases hlen : l.length = m.length
  · have HL := Lib.hid hlen
    have h1 : (((l.length : Nat) : Int) != ((m.length : Nat) : Int)) = false := by simp [hlen]
    generalize hE : decide (l = m) = E
    have HE1 := Lib.hid (fun (h : l = m) => (by rw [← hE, decide_eq_true h] : E = true))
    have HE0 := Lib.hid (fun (h : l ≠ m) => (by rw [← hE, decide_eq_false h] : E = false))
    clear hE hlen
    go_enter Tryd.func38, Tryd.ntmps38
    go_wp2
    go_loopw [5] (fun v wr => ∃ k : Nat, v = .int .i64 (k : Int) ∧ k ≤ l.length ∧ l.take k = m.take k ∧ Gr w wr) (fun v _ => l.length - (intOf v).toNat)
    case atStart => exact ⟨0, rfl, Nat.zero_le _, by simp, Gr.refl _⟩
    case round =>
      obtain ⟨k, rfl, hk, hT, hgw⟩ := hrel
      by_cases hlt : k < l.length
      · obtain ⟨x, hxk⟩ : ∃ x, l[k]? = some x := ⟨_, List.getElem?_eq_getElem hlt⟩
        have hlt' : k < m.length := by rw [← HL.out]; exact hlt
        obtain ⟨y, hyk⟩ : ∃ y, m[k]? = some y := ⟨_, List.getElem?_eq_getElem hlt'⟩
        obtain ⟨u, hu, hru⟩ := RkLs.at_ l vs k x hll hxk
        obtain ⟨u', hu', hru'⟩ := RkLs.at_ m vs' k y hml hyk
        obtain ⟨ad, rfl, hab, hcell⟩ := hl.2 (by omega)
        obtain ⟨bd, rfl, hbb, hcell'⟩ := hm.2 (by omega)
        have p0 := (hgw.cell (p := ad.add k) (by rw [block_of_add]; exact hab)).trans (hcell k u hu)
        have p1 := (hgw.cell (p := bd.add k) (by rw [block_of_add]; exact hbb)).trans (hcell' k u' hu')
        have r0 : RdB wr wr.heap.size u x := ((hru.rd (fun _ h => h)).gr (Nat.le_refl _) hgw).more hgw.size
        have r1 : RdB wr wr.heap.size u' y := ((hru'.rd (fun _ h => h)).gr (Nat.le_refl _) hgw).more hgw.size
        have hxl := hlb x (List.mem_of_getElem? hxk)
        have cB : ∀ d os, Calls Tryd.prog 61 #[u, u'] (grow (redrawn wr d) os) fun e w'' => e = .returned (.bool (decide (x = y))) ∧ ∃ p : Regrown, w'' = grow (redrawn wr p.d) p.os := fun d os => Calls.regrown_of (same_any _ _ _ _ x y (Nat.le_refl _) ((r0.gr (Nat.le_refl _) (below_regrown wr d os)).more (below_regrown wr d os).size) ((r1.gr (Nat.le_refl _) (below_regrown wr d os)).more (below_regrown wr d os).size) hxl)
        have qp0 := cell_regrown p0
        have qp1 := cell_regrown p1
        obtain ⟨Au, cu, rfl, hcu, -⟩ := hru
        obtain ⟨Bu, cu', rfl, hcu', -⟩ := hru'
        by_cases hxy : x = y
        · have HT := Lib.hid (take_eqW hT hxk hyk hxy)
          simp only [decide_eq_true hxy] at cB
          clear hT hxk hyk hcell hcell' hab hbb hxy hu hu' hcu hcu'
          go_wp2
          refine wp_region_quiet_below (by kernel_rfl) (by kernel_rfl) ?_
          repeat (go_big_quiet_step (with_reducible exact cB _ _))
          refine wpQuiet_nil ?_
          intro _ hw'
          obtain ⟨⟨dq, osq⟩, hw''⟩ := hw'
          subst hw''
          go_wp2
          go_roundw
          case rel => exact ⟨k + 1, by go_num, hlt, HT.out, Gr.trans hgw (below_regrown wr dq osq)⟩
          case measure => simp [intOf]; omega
        · have HN := Lib.hid (HE0.out (at_neW hxk hyk hxy))
          simp only [decide_eq_false hxy] at cB
          clear hT hxk hyk hcell hcell' hab hbb hxy hu hu' hcu hcu'
          go_wp2
          refine wp_region_quiet_below (by kernel_rfl) (by kernel_rfl) ?_
          repeat (go_big_quiet_step (with_reducible exact cB _ _))
          refine wpQuiet_nil ?_
          intro _ hw'
          obtain ⟨⟨dq, osq⟩, hw''⟩ := hw'
          subst hw''
          go_wp2
          go_ret
          exact ⟨ret_bool HN.out.symm, Gr.trans hgw (below_regrown wr dq osq)⟩
      · obtain rfl : k = l.length := by omega
        have HN := Lib.hid (HE1.out (take_allW hT HL.out))
        clear hT
        go_wp2
        go_ret
        exact ⟨ret_bool HN.out.symm, hgw⟩
  · have h1 : (((l.length : Nat) : Int) != ((m.length : Nat) : Int)) = true := by simp; omega
    have h2 : decide (l = m) = false := decide_eq_false (fun e => hlen (by rw [e]))
    rw [h2]
    clear hlen h2
    go_enter Tryd.func38, Tryd.ntmps38
    go_wp2
    go_ret
    exact ⟨rfl, Gr.refl _⟩
end
/-- Are two answers the same? -/
def repEq (a b : Rep) : Bool := decide (a.err = b.err) && decide (a.n = b.n) && decide (a.nms = b.nms) && decide (a.held = b.held) && decide (a.lst = b.lst)
theorem repEq_refl (a : Rep) : repEq a a = true := by unfold repEq; simp
theorem rkls_gr {w w' : World} {l : List (List UInt8)} {vs : List Value} (hg : Gr w w') (h : RkLs w (· < w.heap.size) l vs) : RkLs w' (· < w'.heap.size) l vs :=
  RkLs.mono (fun _ hb => Nat.lt_of_lt_of_le hb hg.size) l vs (RkLs.keep (fun _ hp => hg.cell hp) l vs h)
set_option maxRecDepth 100000 in
set_option maxHeartbeats 4000000 in
theorem psameR_any (a b : Rep) (v v' : Value) (w : World) (ha : RdRep w (· < w.heap.size) a v) (hb : RdRep w (· < w.heap.size) b v') : Calls Tryd.prog 15 #[v, v'] w fun e w' => e = .returned (.bool (repEq a b)) ∧ Gr w w' := by
  obtain ⟨v1, v2, v3, rfl, ⟨A1, c1, rfl, q1, k1⟩, ⟨A2, c2, rfl, q2, k2⟩, ⟨A3, c3, vs, rfl, q3, k3, l3⟩⟩ := ha
  obtain ⟨u1, u2, u3, rfl, ⟨B1, d1, rfl, p1, m1⟩, ⟨B2, d2, rfl, p2, m2⟩, ⟨B3, d3, us, rfl, p3, m3, n3⟩⟩ := hb
  have cN := fun W (hg : Gr w W) => @slicesEq_any W a.nms b.nms A1 B1 c1 d1 q1.1 q1.2 p1.1 p1.2 (k1.gr hg) (m1.gr hg)
  have cH := fun W (hg : Gr w W) => @slicesEq_any W a.held b.held A2 B2 c2 d2 q2.1 q2.2 p2.1 p2.2 (k2.gr hg) (m2.gr hg)
  have cL := fun W (hg : Gr w W) => @eqFunc_any W a.lst b.lst A3 B3 c3 d3 vs us q3.1 q3.2 p3.1 p3.2 (k3.gr hg) (rkls_gr hg l3) (m3.gr hg) (rkls_gr hg n3)
  have g1 := Gr.alloc w (.cells #[.int .i64 a.err, .int .i64 a.n, .slice A1 a.nms.length c1, .slice A2 a.held.length c2, .slice A3 a.lst.length c3] 26)
  have g2 := Gr.trans g1 (Gr.alloc (w.alloc (.cells #[.int .i64 a.err, .int .i64 a.n, .slice A1 a.nms.length c1, .slice A2 a.held.length c2, .slice A3 a.lst.length c3] 26)) (.cells #[.int .i64 b.err, .int .i64 b.n, .slice B1 b.nms.length d1, .slice B2 b.held.length d2, .slice B3 b.lst.length d3] 26))
  have hX := (Blk.new w 26 #[.int .i64 a.err, .int .i64 a.n, .slice A1 a.nms.length c1, .slice A2 a.held.length c2, .slice A3 a.lst.length c3]).alloc (.cells #[.int .i64 b.err, .int .i64 b.n, .slice B1 b.nms.length d1, .slice B2 b.held.length d2, .slice B3 b.lst.length d3] 26)
  have hY := Blk.new (w.alloc (.cells #[.int .i64 a.err, .int .i64 a.n, .slice A1 a.nms.length c1, .slice A2 a.held.length c2, .slice A3 a.lst.length c3] 26)) 26 #[.int .i64 b.err, .int .i64 b.n, .slice B1 b.nms.length d1, .slice B2 b.held.length d2, .slice B3 b.lst.length d3]
  rw [show (w.alloc (.cells #[.int .i64 a.err, .int .i64 a.n, .slice A1 a.nms.length c1, .slice A2 a.held.length c2, .slice A3 a.lst.length c3] 26)).heap.size = w.heap.size + 1 by simp] at hY
  unfold repEq
  have y1 : (a.err == b.err) = decide (a.err = b.err) := rfl
  have y2 : (a.n == b.n) = decide (a.n = b.n) := rfl
  clear k1 k2 k3 l3 m1 m2 m3 n3 q1 q2 q3 p1 p2 p3
  generalize h1 : decide (a.err = b.err) = b1 at *
  generalize h2 : decide (a.n = b.n) = b2 at *
  generalize h3 : decide (a.nms = b.nms) = b3 at *
  generalize h4 : decide (a.held = b.held) = b4 at *
  generalize h5 : decide (a.lst = b.lst) = b5 at *
  clear h1 h2 h3 h4 h5
  have arms : True := trivial
  cases b1
  · go_enter Tryd.func15, Tryd.ntmps15
    go_wp2
    go_ret
    exact ⟨rfl, g2⟩
  · cases b2
    · go_enter Tryd.func15, Tryd.ntmps15
      go_wp2
      go_ret
      exact ⟨rfl, g2⟩
    · cases b3
      · go_enter Tryd.func15, Tryd.ntmps15
        go_wp2_with (go_at_call 39; (with_reducible refine (cN _ g2).mono ?_); rintro e w3 ⟨rfl, hb3⟩)
        go_ret
        exact ⟨rfl, Gr.trans g2 hb3⟩
      · cases b4
        · go_enter Tryd.func15, Tryd.ntmps15
          go_wp2_with (first
            | (go_at_call 39; (with_reducible refine (cN _ g2).mono ?_); rintro e w3 ⟨rfl, hb3⟩
               have g3 := Gr.trans g2 hb3
               obtain ⟨s0, s1, s2, s3, s4⟩ := five_cells (hX.below hb3 hX.lt)
               obtain ⟨t0, t1, t2, t3, t4⟩ := five_cells (hY.below hb3 hY.lt))
            | (go_at_call 39; (with_reducible refine (cH _ g3).mono ?_); rintro e w4 ⟨rfl, hb4⟩))
          go_ret
          exact ⟨rfl, Gr.trans g3 hb4⟩
        · go_enter Tryd.func15, Tryd.ntmps15
          go_wp2_with (first
            | (go_at_call 39; (with_reducible refine (cN _ g2).mono ?_); rintro e w3 ⟨rfl, hb3⟩
               have g3 := Gr.trans g2 hb3
               obtain ⟨s0, s1, s2, s3, s4⟩ := five_cells (hX.below hb3 hX.lt)
               obtain ⟨t0, t1, t2, t3, t4⟩ := five_cells (hY.below hb3 hY.lt))
            | (go_at_call 39; (with_reducible refine (cH _ g3).mono ?_); rintro e w4 ⟨rfl, hb4⟩
               have g4 := Gr.trans g3 hb4
               obtain ⟨x0, x1, x2, x3, x4⟩ := five_cells ((hX.below hb3 hX.lt).below hb4 (hX.below hb3 hX.lt).lt)
               obtain ⟨z0, z1, z2, z3, z4⟩ := five_cells ((hY.below hb3 hY.lt).below hb4 (hY.below hb3 hY.lt).lt))
            | (go_at_call 40; (with_reducible refine (cL _ g4).mono ?_); rintro e w5 ⟨rfl, hb5⟩))
          go_ret
          exact ⟨ret_bool (by simp), Gr.trans g4 hb5⟩
set_option maxRecDepth 100000 in
set_option maxHeartbeats 4000000 in
theorem rsameR_any (a b : Rep) (v v' : Value) (w : World) (ha : RdRep w (· < w.heap.size) a v) (hb : RdRep w (· < w.heap.size) b v') (hlb : ∀ x ∈ a.lst, x.length ≤ 1073741824) : Calls Tryd.prog 13 #[v, v'] w fun e w' => e = .returned (.bool (repEq a b)) ∧ Gr w w' := by
  obtain ⟨v1, v2, v3, rfl, ⟨A1, c1, rfl, q1, k1⟩, ⟨A2, c2, rfl, q2, k2⟩, ⟨A3, c3, vs, rfl, q3, k3, l3⟩⟩ := ha
  obtain ⟨u1, u2, u3, rfl, ⟨B1, d1, rfl, p1, m1⟩, ⟨B2, d2, rfl, p2, m2⟩, ⟨B3, d3, us, rfl, p3, m3, n3⟩⟩ := hb
  have cN := fun W (hg : Gr w W) => @sameNames_any W a.nms b.nms A1 B1 c1 d1 q1.1 q1.2 p1.1 p1.2 (k1.gr hg) (m1.gr hg)
  have cH := fun W (hg : Gr w W) => @sameNames_any W a.held b.held A2 B2 c2 d2 q2.1 q2.2 p2.1 p2.2 (k2.gr hg) (m2.gr hg)
  have cL := fun W (hg : Gr w W) => @sameAll_any W a.lst b.lst A3 B3 c3 d3 vs us q3.1 q3.2 p3.1 p3.2 (k3.gr hg) (rkls_gr hg l3) (m3.gr hg) (rkls_gr hg n3) hlb
  have g1 := Gr.alloc w (.cells #[.int .i64 a.err, .int .i64 a.n, .slice A1 a.nms.length c1, .slice A2 a.held.length c2, .slice A3 a.lst.length c3] 26)
  have g2 := Gr.trans g1 (Gr.alloc (w.alloc (.cells #[.int .i64 a.err, .int .i64 a.n, .slice A1 a.nms.length c1, .slice A2 a.held.length c2, .slice A3 a.lst.length c3] 26)) (.cells #[.int .i64 b.err, .int .i64 b.n, .slice B1 b.nms.length d1, .slice B2 b.held.length d2, .slice B3 b.lst.length d3] 26))
  have hX := (Blk.new w 26 #[.int .i64 a.err, .int .i64 a.n, .slice A1 a.nms.length c1, .slice A2 a.held.length c2, .slice A3 a.lst.length c3]).alloc (.cells #[.int .i64 b.err, .int .i64 b.n, .slice B1 b.nms.length d1, .slice B2 b.held.length d2, .slice B3 b.lst.length d3] 26)
  have hY := Blk.new (w.alloc (.cells #[.int .i64 a.err, .int .i64 a.n, .slice A1 a.nms.length c1, .slice A2 a.held.length c2, .slice A3 a.lst.length c3] 26)) 26 #[.int .i64 b.err, .int .i64 b.n, .slice B1 b.nms.length d1, .slice B2 b.held.length d2, .slice B3 b.lst.length d3]
  rw [show (w.alloc (.cells #[.int .i64 a.err, .int .i64 a.n, .slice A1 a.nms.length c1, .slice A2 a.held.length c2, .slice A3 a.lst.length c3] 26)).heap.size = w.heap.size + 1 by simp] at hY
  unfold repEq
  have y1 : (a.err == b.err) = decide (a.err = b.err) := rfl
  have y2 : (a.n == b.n) = decide (a.n = b.n) := rfl
  clear k1 k2 k3 l3 m1 m2 m3 n3 q1 q2 q3 p1 p2 p3
  generalize h1 : decide (a.err = b.err) = b1 at *
  generalize h2 : decide (a.n = b.n) = b2 at *
  generalize h3 : decide (a.nms = b.nms) = b3 at *
  generalize h4 : decide (a.held = b.held) = b4 at *
  generalize h5 : decide (a.lst = b.lst) = b5 at *
  clear h1 h2 h3 h4 h5
  have arms : True := trivial
  cases b1
  · go_enter Tryd.func13, Tryd.ntmps13
    go_wp2
    go_ret
    exact ⟨rfl, g2⟩
  · cases b2
    · go_enter Tryd.func13, Tryd.ntmps13
      go_wp2
      go_ret
      exact ⟨rfl, g2⟩
    · cases b3
      · go_enter Tryd.func13, Tryd.ntmps13
        go_wp2_with (go_at_call 37; (with_reducible refine (cN _ g2).mono ?_); rintro e w3 ⟨rfl, hb3⟩)
        go_ret
        exact ⟨rfl, Gr.trans g2 hb3⟩
      · cases b4
        · go_enter Tryd.func13, Tryd.ntmps13
          go_wp2_with (first
            | (go_at_call 37; (with_reducible refine (cN _ g2).mono ?_); rintro e w3 ⟨rfl, hb3⟩
               have g3 := Gr.trans g2 hb3
               obtain ⟨s0, s1, s2, s3, s4⟩ := five_cells (hX.below hb3 hX.lt)
               obtain ⟨t0, t1, t2, t3, t4⟩ := five_cells (hY.below hb3 hY.lt))
            | (go_at_call 37; (with_reducible refine (cH _ g3).mono ?_); rintro e w4 ⟨rfl, hb4⟩))
          go_ret
          exact ⟨rfl, Gr.trans g3 hb4⟩
        · go_enter Tryd.func13, Tryd.ntmps13
          go_wp2_with (first
            | (go_at_call 37; (with_reducible refine (cN _ g2).mono ?_); rintro e w3 ⟨rfl, hb3⟩
               have g3 := Gr.trans g2 hb3
               obtain ⟨s0, s1, s2, s3, s4⟩ := five_cells (hX.below hb3 hX.lt)
               obtain ⟨t0, t1, t2, t3, t4⟩ := five_cells (hY.below hb3 hY.lt))
            | (go_at_call 37; (with_reducible refine (cH _ g3).mono ?_); rintro e w4 ⟨rfl, hb4⟩
               have g4 := Gr.trans g3 hb4
               obtain ⟨x0, x1, x2, x3, x4⟩ := five_cells ((hX.below hb3 hX.lt).below hb4 (hX.below hb3 hX.lt).lt)
               obtain ⟨z0, z1, z2, z3, z4⟩ := five_cells ((hY.below hb3 hY.lt).below hb4 (hY.below hb3 hY.lt).lt))
            | (go_at_call 38; (with_reducible refine (cL _ g4).mono ?_); rintro e w5 ⟨rfl, hb5⟩))
          go_ret
          exact ⟨ret_bool (by simp), Gr.trans g4 hb5⟩
end Go.Proofs.YtppnlijeonneeaaDoor

namespace Go.Proofs.YtppnlijeonneeaaDoor
open Go Go.RowKit Go.Sort

instance mayRD (r : Rep) : Decidable (mayR r) := by unfold mayR; infer_instance
/-- No name is too long to be looked at. -/
def nmsOk (l : List ByteArray) : Prop := ∀ a ∈ l, a.size ≤ 140737488351232
theorem all_takeW {l : List ByteArray} {k : Nat} {x : ByteArray} (hT : (l.take k).all nameD = true) (hx : l[k]? = some x) (e : nameD x = true) : (l.take (k + 1)).all nameD = true := by
  obtain ⟨hl, e'⟩ := List.getElem?_eq_some_iff.1 hx
  rw [List.take_succ_eq_append_getElem hl, e', List.all_append, hT]
  simp [e]
theorem all_noW {l : List ByteArray} {k : Nat} {x : ByteArray} (hx : l[k]? = some x) (e : nameD x = false) : l.all nameD = false := by
  rw [List.all_eq_false]
  exact ⟨x, List.mem_of_getElem? hx, by simp [e]⟩
theorem all_endW {l : List ByteArray} (hT : (l.take l.length).all nameD = true) : l.all nameD = true := by rwa [List.take_length] at hT
theorem bad_any (a : ByteArray) (w : World) (hs : a.size ≤ 140737488351232) : Calls Tryd.prog 53 #[.string a] w fun e w' => e = .returned (.bool (!nameD a)) ∧ Gr w w' := by
  have cN := name_any a w hs
  generalize nameD a = b at *
  go_enter Tryd.func53, Tryd.ntmps53
  go_wp2_with (go_at_call 54; (with_reducible refine cN.mono ?_); rintro e w1 ⟨rfl, hb1⟩)
  go_ret
  exact ⟨rfl, hb1⟩
set_option maxRecDepth 100000 in
set_option maxHeartbeats 2000000 in
theorem idxS_any (l : List ByteArray) (A : Option Addr) (c : Nat) (w : World) (hc : l.length ≤ c) (hcm : c ≤ maxLen) (hr : Rk w (· < w.heap.size) 1 A l.length (l.map Value.string)) (hn : nmsOk l) :
    Calls Tryd.prog 83 #[.slice A l.length c, .func (.func 53) #[] #[]] w fun e w' => (∃ z : Int, e = .returned (.int .i64 z) ∧ (0 ≤ z ↔ l.all nameD = false) ∧ -1 ≤ z ∧ z ≤ 9223372036854775807) ∧ Gr w w' := by
  unfold maxLen at hcm
  have HN0 := Lib.hid (fun k x (h : l[k]? = some x) (e : nameD x = false) => all_noW h e)
  have HE0 := Lib.hid (fun (h : (l.take l.length).all nameD = true) => all_endW h)
  have HS0 := Lib.hid (fun k x (h : (l.take k).all nameD = true) (hx : l[k]? = some x) (e : nameD x = true) => all_takeW h hx e)
  go_enter Tryd.func83, Tryd.ntmps83
  go_wp2
  go_loopw [8] (fun v8 wr => ∃ k : Nat, v8 = .int .i64 (k : Int) ∧ k ≤ l.length ∧ (l.take k).all nameD = true ∧ Gr w wr) (fun v8 _ => l.length - (intOf v8).toNat)
  case atStart => exact ⟨0, rfl, Nat.zero_le _, rfl, Gr.refl _⟩
  case round =>
    obtain ⟨k, rfl, hk, hT, hgw⟩ := hrel
    by_cases hlt : k < l.length
    · obtain ⟨x, hxk⟩ : ∃ x, l[k]? = some x := ⟨_, List.getElem?_eq_getElem hlt⟩
      obtain ⟨ad, rfl, hab, hcell⟩ := hr.2 (by omega)
      have p0 := (hgw.cell (p := ad.add k) (by rw [block_of_add]; exact hab)).trans (hcell k (.string x) (by rw [List.getElem?_map, hxk]; rfl))
      have cB := bad_any x wr (hn x (List.mem_of_getElem? hxk))
      cases e : nameD x with
      | false =>
        have HT := Lib.hid (HN0.out k x hxk e)
        simp only [e] at cB
        clear hT hxk hcell hab e
        go_wp2_with (go_at_call 53; (with_reducible refine cB.mono ?_); rintro e w3 ⟨rfl, hb3⟩)
        all_goals (try (exfalso; omega))
        go_ret
        exact ⟨⟨_, rfl, by rw [HT.out]; simp, by omega, by omega⟩, Gr.trans hgw hb3⟩
      | true =>
        have HT := Lib.hid (HS0.out k x hT hxk e)
        simp only [e] at cB
        clear hT hxk hcell hab e
        go_wp2_with (go_at_call 53; (with_reducible refine cB.mono ?_); rintro e w3 ⟨rfl, hb3⟩)
        all_goals (try (exfalso; omega))
        go_roundw
        case rel => exact ⟨k + 1, by go_num, hlt, HT.out, Gr.trans hgw hb3⟩
        case measure => simp [intOf]; omega
    · obtain rfl : k = l.length := by omega
      have HT := Lib.hid (HE0.out hT)
      clear hT
      go_wp2
      go_ret
      exact ⟨⟨_, rfl, by rw [HT.out]; simp, by omega, by omega⟩, hgw⟩
set_option maxRecDepth 100000 in
theorem contS_any (l : List ByteArray) (A : Option Addr) (c : Nat) (w : World) (hc : l.length ≤ c) (hcm : c ≤ maxLen) (hr : Rk w (· < w.heap.size) 1 A l.length (l.map Value.string)) (hn : nmsOk l) :
    Calls Tryd.prog 55 #[.slice A l.length c, .func (.func 53) #[] #[]] w fun e w' => e = .returned (.bool (!l.all nameD)) ∧ Gr w w' := by
  have cI := idxS_any l A c w hc hcm hr hn
  generalize l.all nameD = b at *
  clear hr hn hc hcm
  go_enter Tryd.func55, Tryd.ntmps55
  go_wp2_with (go_at_call 83; (with_reducible refine cI.mono ?_); rintro e w1 ⟨⟨z, rfl, hz, hz0, hz1⟩, hb1⟩)
  go_ret
  exact ⟨rfl, hb1⟩
theorem rep0 (w : World) (K : Nat → Prop) (er n : Int) : RdRep w K ⟨er, n, [], [], []⟩ (.agg #[.int .i64 er, .int .i64 n, .slice none 0 0, .slice none 0 0, .slice none 0 0]) :=
  ⟨_, _, _, rfl, ⟨none, 0, rfl, ⟨Nat.le_refl _, Nat.zero_le _⟩, rfl, fun h => absurd h (by simp)⟩, ⟨none, 0, rfl, ⟨Nat.le_refl _, Nat.zero_le _⟩, rfl, fun h => absurd h (by simp)⟩, ⟨none, 0, [], rfl, ⟨Nat.le_refl _, Nat.zero_le _⟩, ⟨rfl, fun h => absurd h (by simp)⟩, rfl⟩⟩
theorem mayR_out {r : Rep} (h : r.err < 0 ∨ 99 < r.err ∨ r.n < -1 ∨ 1099511627776 < r.n) : decide (mayR r) = false := by
  refine decide_eq_false fun h0 => ?_
  obtain ⟨h1, h2, h3, h4, _⟩ := h0
  omega
theorem mayR_err {r : Rep} (h : 0 < r.err) (h2 : r.err ≤ 99) : decide (mayR r) = repEq r ⟨r.err, 0, [], [], []⟩ := by
  rw [Bool.eq_iff_iff, decide_eq_true_eq]
  unfold repEq
  obtain ⟨er, n, a, b, c⟩ := r
  dsimp only at *
  simp only [decide_eq_true_eq, Bool.and_eq_true, and_assoc]
  constructor
  · rintro ⟨_, _, _, _, h5, _, _⟩
    obtain ⟨e1, e2, e3, e4⟩ := h5 (show er ≠ 0 by omega)
    exact ⟨trivial, e1, e2, e3, e4⟩
  · rintro ⟨_, rfl, rfl, rfl, rfl⟩
    exact ⟨show 0 ≤ er by omega, h2, show (-1 : Int) ≤ 0 by omega, show (0 : Int) ≤ 1099511627776 by omega, fun _ => ⟨rfl, rfl, rfl, rfl⟩, by simp, by simp⟩
theorem mayR_ok {r : Rep} (h : r.err = 0) (h2 : -1 ≤ r.n) (h3 : r.n ≤ 1099511627776) : decide (mayR r) = (r.nms.all nameD && r.held.all nameD) := by
  rw [Bool.eq_iff_iff, decide_eq_true_eq]
  simp only [Bool.and_eq_true, List.all_eq_true]
  constructor
  · rintro ⟨_, _, _, _, _, h6, h7⟩
    exact ⟨h6, h7⟩
  · rintro ⟨h6, h7⟩
    exact ⟨by omega, by omega, h2, h3, fun hx => absurd h hx, h6, h7⟩
set_option maxRecDepth 100000 in
set_option maxHeartbeats 4000000 in
theorem pmayR_any (r : Rep) (v : Value) (w : World) (hr : RdRep w (· < w.heap.size) r v) (hn1 : nmsOk r.nms) (hn2 : nmsOk r.held) :
    Calls Tryd.prog 27 #[v] w fun e w' => e = .returned (.bool (decide (mayR r))) ∧ Gr w w' := by
  have hO := @mayR_out r
  have hE := @mayR_err r
  have hK := @mayR_ok r
  have cS := fun W (hg : Gr w W) => psameR_any r ⟨r.err, 0, [], [], []⟩ v _ W (hr.gr hg) (rep0 W _ r.err 0)
  obtain ⟨er, n, nms, held, lst⟩ := r
  obtain ⟨v1, v2, v3, rfl, ⟨A1, c1, rfl, q1, k1⟩, ⟨A2, c2, rfl, q2, k2⟩, ⟨A3, c3, vs, rfl, q3, k3, l3⟩⟩ := hr
  dsimp only at *
  have cN := fun W (hg : Gr w W) => contS_any nms A1 c1 W q1.1 q1.2 (k1.gr hg) hn1
  have cH := fun W (hg : Gr w W) => contS_any held A2 c2 W q2.1 q2.2 (k2.gr hg) hn2
  have g1 := Gr.alloc w (.cells #[.int .i64 er, .int .i64 n, .slice A1 nms.length c1, .slice A2 held.length c2, .slice A3 lst.length c3] 26)
  have hX := Blk.new w 26 #[.int .i64 er, .int .i64 n, .slice A1 nms.length c1, .slice A2 held.length c2, .slice A3 lst.length c3]
  generalize decide (mayR ⟨er, n, nms, held, lst⟩) = res at *
  generalize repEq ⟨er, n, nms, held, lst⟩ ⟨er, 0, [], [], []⟩ = eqv at *
  generalize nms.all nameD = bN at *
  generalize held.all nameD = bH at *
  clear k1 k2 k3 l3 hn1 hn2 q1 q2 q3
  by_cases h0 : er < 0 ∨ 99 < er ∨ n < -1 ∨ 1099511627776 < n
  · obtain rfl := hO h0
    clear cS cN cH hO hE hK
    rcases (by omega : er < 0 ∨ (0 ≤ er ∧ 99 < er) ∨ (0 ≤ er ∧ er ≤ 99 ∧ n < -1) ∨ (0 ≤ er ∧ er ≤ 99 ∧ -1 ≤ n ∧ 1099511627776 < n)) with h | ⟨h, h'⟩ | ⟨h, h', h''⟩ | ⟨h, h', h'', h'''⟩
    all_goals
      go_enter Tryd.func27, Tryd.ntmps27
      go_wp2
      all_goals (try (exfalso; omega))
      go_ret
      exact ⟨rfl, g1⟩
  · by_cases he : er = 0
    · obtain rfl := hK he (by omega) (by omega)
      subst he
      clear cS hO hE hK
      have b1 : -1 ≤ n := by omega
      have b2 : n ≤ 1099511627776 := by omega
      clear h0
      cases bN
      · go_enter Tryd.func27, Tryd.ntmps27
        go_wp2_with (go_at_call 55; (with_reducible refine (cN _ g1).mono ?_); rintro e w3 ⟨rfl, hb3⟩)
        all_goals (try (exfalso; omega))
        go_ret
        exact ⟨rfl, Gr.trans g1 hb3⟩
      · go_enter Tryd.func27, Tryd.ntmps27
        go_wp2_with (first
          | (go_at_call 55; (with_reducible refine (cN _ g1).mono ?_); rintro e w3 ⟨rfl, hb3⟩
             have g3 := Gr.trans g1 hb3
             obtain ⟨s0, s1, s2, s3, s4⟩ := five_cells (hX.below hb3 hX.lt))
          | (go_at_call 55; (with_reducible refine (cH _ g3).mono ?_); rintro e w4 ⟨rfl, hb4⟩))
        all_goals (try (exfalso; omega))
        go_ret
        exact ⟨ret_bool (by simp), Gr.trans g3 hb4⟩
    · obtain rfl := hE (by omega) (by omega)
      have b1 : -1 ≤ n := by omega
      have b2 : n ≤ 1099511627776 := by omega
      have b3 : 0 ≤ er := by omega
      have b4 : er ≤ 99 := by omega
      have y1 : (er == 0) = false := beq_eq_false_iff_ne.2 he
      have y2 : (er != 0) = true := by simp [he]
      clear hO hE hK cN cH h0
      go_enter Tryd.func27, Tryd.ntmps27
      go_wp2_with (go_at_call 15; (with_reducible refine (cS _ g1).mono ?_); rintro e w3 ⟨rfl, hb3⟩)
      all_goals (try (exfalso; omega))
      go_ret
      exact ⟨rfl, Gr.trans g1 hb3⟩
end Go.Proofs.YtppnlijeonneeaaDoor

namespace Go.Proofs.YtppnlijeonneeaaDoor
open Go Go.RowKit Go.Sort

theorem mayR_names {r : Rep} (h0 : 0 ≤ r.err) (h1 : r.err ≤ 99) (h2 : -1 ≤ r.n) (h3 : r.n ≤ 1099511627776) (h5 : r.err ≠ 0 → r.n = 0 ∧ r.nms = [] ∧ r.held = [] ∧ r.lst = []) : decide (mayR r) = (r.nms.all nameD && r.held.all nameD) := by
  rw [Bool.eq_iff_iff, decide_eq_true_eq]
  simp only [Bool.and_eq_true, List.all_eq_true]
  constructor
  · rintro ⟨_, _, _, _, _, h6, h7⟩
    exact ⟨h6, h7⟩
  · rintro ⟨h6, h7⟩
    exact ⟨h0, h1, h2, h3, h5, h6, h7⟩
theorem mayR_no {r : Rep} (h : r.err ≠ 0) (h5 : r.n ≠ 0 ∨ r.nms.length ≠ 0 ∨ r.held.length ≠ 0 ∨ r.lst.length ≠ 0) : decide (mayR r) = false := by
  refine decide_eq_false fun h0 => ?_
  obtain ⟨_, _, _, _, h4, _⟩ := h0
  obtain ⟨e1, e2, e3, e4⟩ := h4 h
  rw [e1, e2, e3, e4] at h5
  simp at h5
set_option maxRecDepth 100000 in
set_option maxHeartbeats 4000000 in
theorem rmayR_any (r : Rep) (v : Value) (w : World) (hr : RdRep w (· < w.heap.size) r v) (hn1 : nmsOk r.nms) (hn2 : nmsOk r.held) :
    Calls Tryd.prog 16 #[v] w fun e w' => e = .returned (.bool (decide (mayR r))) ∧ Gr w w' := by
  have hO := @mayR_out r
  have hE := @mayR_no r
  have hK := @mayR_names r
  obtain ⟨er, n, nms, held, lst⟩ := r
  obtain ⟨v1, v2, v3, rfl, ⟨A1, c1, rfl, q1, k1⟩, ⟨A2, c2, rfl, q2, k2⟩, ⟨A3, c3, vs, rfl, q3, k3, l3⟩⟩ := hr
  dsimp only at *
  have q1m := q1.2
  have q2m := q2.2
  have q3m := q3.2
  unfold maxLen at q1m q2m q3m
  have q1l := q1.1
  have q2l := q2.1
  have q3l := q3.1
  have g1 := Gr.alloc w (.cells #[.int .i64 er, .int .i64 n, .slice A1 nms.length c1, .slice A2 held.length c2, .slice A3 lst.length c3] 26)
  have hX := Blk.new w 26 #[.int .i64 er, .int .i64 n, .slice A1 nms.length c1, .slice A2 held.length c2, .slice A3 lst.length c3]
  generalize decide (mayR ⟨er, n, nms, held, lst⟩) = res at *
  clear k3 l3 q1 q2 q3
  by_cases h0 : er < 0 ∨ 99 < er ∨ n < -1 ∨ 1099511627776 < n
  · obtain rfl := hO h0
    clear hO hE hK k1 k2
    rcases (by omega : er < 0 ∨ (0 ≤ er ∧ 99 < er) ∨ (0 ≤ er ∧ er ≤ 99 ∧ n < -1) ∨ (0 ≤ er ∧ er ≤ 99 ∧ -1 ≤ n ∧ 1099511627776 < n)) with h | ⟨h, h'⟩ | ⟨h, h', h''⟩ | ⟨h, h', h'', h'''⟩
    all_goals
      go_enter Tryd.func16, Tryd.ntmps16
      go_wp2
      all_goals (try (exfalso; omega))
      go_ret
      exact ⟨rfl, g1⟩
  · have b1 : -1 ≤ n := by omega
    have b2 : n ≤ 1099511627776 := by omega
    have b3 : 0 ≤ er := by omega
    have b4 : er ≤ 99 := by omega
    clear h0 hO
    by_cases h5 : er ≠ 0 ∧ (n ≠ 0 ∨ nms.length ≠ 0 ∨ held.length ≠ 0 ∨ lst.length ≠ 0)
    · obtain rfl := hE h5.1 h5.2
      have y1 : (er == 0) = false := beq_eq_false_iff_ne.2 h5.1
      have y2 : (er != 0) = true := by simp [h5.1]
      clear hE hK k1 k2
      rcases (by omega : n ≠ 0 ∨ (n = 0 ∧ 0 < nms.length) ∨ (n = 0 ∧ nms.length = 0 ∧ 0 < held.length) ∨ (n = 0 ∧ nms.length = 0 ∧ held.length = 0 ∧ 0 < lst.length)) with h | ⟨h, h'⟩ | ⟨h, h', h''⟩ | ⟨h, h', h'', h'''⟩
      · have y3 : (n == 0) = false := beq_eq_false_iff_ne.2 h
        have y4 : (n != 0) = true := by simp [h]
        go_enter Tryd.func16, Tryd.ntmps16
        go_wp2
        all_goals (try (exfalso; omega))
        go_ret
        exact ⟨rfl, g1⟩
      all_goals
        subst h
        clear g1
        go_enter Tryd.func16, Tryd.ntmps16
        go_wp2
        all_goals (try (exfalso; omega))
        go_ret
        exact ⟨rfl, Gr.alloc _ _⟩
    · have h6 : er ≠ 0 → n = 0 ∧ nms = [] ∧ held = [] ∧ lst = [] := fun he =>
        ⟨by omega, List.eq_nil_of_length_eq_zero (by omega), List.eq_nil_of_length_eq_zero (by omega), List.eq_nil_of_length_eq_zero (by omega)⟩
      obtain rfl := hK b3 b4 b1 b2 h6
      clear hE hK h6
      have HN1 := Lib.hid (fun k x (h : nms[k]? = some x) (e : nameD x = false) => all_noW h e)
      have HE1 := Lib.hid (fun (h : (nms.take nms.length).all nameD = true) => all_endW h)
      have HS1 := Lib.hid (fun k x (h : (nms.take k).all nameD = true) (hx : nms[k]? = some x) (e : nameD x = true) => all_takeW h hx e)
      have HN2 := Lib.hid (fun k x (h : held[k]? = some x) (e : nameD x = false) => all_noW h e)
      have HE2 := Lib.hid (fun (h : (held.take held.length).all nameD = true) => all_endW h)
      have HS2 := Lib.hid (fun k x (h : (held.take k).all nameD = true) (hx : held[k]? = some x) (e : nameD x = true) => all_takeW h hx e)
      have hz : (er = 0 ∨ (er ≠ 0 ∧ n = 0 ∧ nms.length = 0 ∧ held.length = 0 ∧ lst.length = 0)) := by omega
      have main : er = 0 ∨ (er ≠ 0 ∧ n = 0 ∧ nms.length ≤ 0 ∧ held.length ≤ 0 ∧ lst.length ≤ 0) := by omega
      clear h5 hz
      have k1' := k1.gr g1
      have k2' := k2.gr g1
      clear k1 k2
      obtain ⟨s0, s1, s2, s3, s4⟩ := five_cells hX
      rcases main with rfl | ⟨e0, rfl, e1, e2, e3⟩
      · go_enter Tryd.func16, Tryd.ntmps16
        go_wp2
        all_goals (try (exfalso; omega))
        go_loopw [3] (fun v3 wr => ∃ k : Nat, v3 = .int .i64 (k : Int) ∧ k ≤ nms.length ∧ (nms.take k).all nameD = true ∧ wr = w.alloc (.cells #[.int .i64 0, .int .i64 n, .slice A1 nms.length c1, .slice A2 held.length c2, .slice A3 lst.length c3] 26)) (fun v3 _ => nms.length - (intOf v3).toNat)
        case atStart => exact ⟨0, rfl, Nat.zero_le _, rfl, rfl⟩
        case round =>
          obtain ⟨k, rfl, hk, hT, rfl⟩ := hrel
          by_cases hlt : k < nms.length
          · obtain ⟨x, hxk⟩ : ∃ x, nms[k]? = some x := ⟨_, List.getElem?_eq_getElem hlt⟩
            obtain ⟨ad, rfl, hab, hcell⟩ := k1'.2 (by omega)
            have p0 := hcell k (.string x) (by rw [List.getElem?_map, hxk]; rfl)
            have cB := fun W => refname_any x W (hn1 x (List.mem_of_getElem? hxk))
            cases e : nameD x with
            | false =>
              have HT := Lib.hid (HN1.out k x hxk e)
              simp only [e] at cB
              clear hT hxk hcell hab e k1' k2'
              go_wp2_with (go_at_call 42; (with_reducible refine (cB _).mono ?_); rintro e w3 ⟨rfl, rfl⟩)
              all_goals (try (exfalso; omega))
              go_ret
              exact ⟨ret_bool (by rw [HT.out]; rfl), g1⟩
            | true =>
              have HT := Lib.hid (HS1.out k x hT hxk e)
              simp only [e] at cB
              clear hT hxk hcell hab e k1' k2'
              go_wp2_with (go_at_call 42; (with_reducible refine (cB _).mono ?_); rintro e w3 ⟨rfl, rfl⟩)
              all_goals (try (exfalso; omega))
              go_roundw
              case rel => exact ⟨k + 1, by go_num, hlt, HT.out, by first | rfl | trivial⟩
              case measure => simp [intOf]; omega
          · obtain rfl : k = nms.length := by omega
            have HT1 := Lib.hid (HE1.out hT)
            clear hT
            go_wp2
            go_loopw [4] (fun v4 wr => ∃ k : Nat, v4 = .int .i64 (k : Int) ∧ k ≤ held.length ∧ (held.take k).all nameD = true ∧ wr = w.alloc (.cells #[.int .i64 0, .int .i64 n, .slice A1 nms.length c1, .slice A2 held.length c2, .slice A3 lst.length c3] 26)) (fun v4 _ => held.length - (intOf v4).toNat)
            case atStart => exact ⟨0, rfl, Nat.zero_le _, rfl, rfl⟩
            case round =>
              obtain ⟨k, rfl, hk, hT, rfl⟩ := hrel
              by_cases hlt : k < held.length
              · obtain ⟨x, hxk⟩ : ∃ x, held[k]? = some x := ⟨_, List.getElem?_eq_getElem hlt⟩
                obtain ⟨ad, rfl, hab, hcell⟩ := k2'.2 (by omega)
                have p0 := hcell k (.string x) (by rw [List.getElem?_map, hxk]; rfl)
                have cB := fun W => refname_any x W (hn2 x (List.mem_of_getElem? hxk))
                cases e : nameD x with
                | false =>
                  have HT := Lib.hid (HN2.out k x hxk e)
                  simp only [e] at cB
                  clear hT hxk hcell hab e k1' k2'
                  go_wp2_with (go_at_call 42; (with_reducible refine (cB _).mono ?_); rintro e w3 ⟨rfl, rfl⟩)
                  all_goals (try (exfalso; omega))
                  go_ret
                  exact ⟨ret_bool (by rw [HT.out, Bool.and_false]), g1⟩
                | true =>
                  have HT := Lib.hid (HS2.out k x hT hxk e)
                  simp only [e] at cB
                  clear hT hxk hcell hab e k1' k2'
                  go_wp2_with (go_at_call 42; (with_reducible refine (cB _).mono ?_); rintro e w3 ⟨rfl, rfl⟩)
                  all_goals (try (exfalso; omega))
                  go_roundw
                  case rel => exact ⟨k + 1, by go_num, hlt, HT.out, by first | rfl | trivial⟩
                  case measure => simp [intOf]; omega
              · obtain rfl : k = held.length := by omega
                have HT2 := Lib.hid (HE2.out hT)
                clear hT
                go_wp2
                go_ret
                exact ⟨ret_bool (by rw [HT1.out, HT2.out]; rfl), g1⟩
      · have y1 : (er == 0) = false := beq_eq_false_iff_ne.2 e0
        have y2 : (er != 0) = true := by simp [e0]
        go_enter Tryd.func16, Tryd.ntmps16
        go_wp2
        all_goals (try (exfalso; omega))
        go_loopw [3] (fun v3 wr => ∃ k : Nat, v3 = .int .i64 (k : Int) ∧ k ≤ nms.length ∧ (nms.take k).all nameD = true ∧ wr = w.alloc (.cells #[.int .i64 er, .int .i64 0, .slice A1 nms.length c1, .slice A2 held.length c2, .slice A3 lst.length c3] 26)) (fun v3 _ => nms.length - (intOf v3).toNat)
        case atStart => exact ⟨0, rfl, Nat.zero_le _, rfl, rfl⟩
        case round =>
          obtain ⟨k, rfl, hk, hT, rfl⟩ := hrel
          by_cases hlt : k < nms.length
          · exact absurd hlt (by omega)
          · obtain rfl : k = nms.length := by omega
            have HT1 := Lib.hid (HE1.out hT)
            clear hT
            go_wp2
            go_loopw [4] (fun v4 wr => ∃ k : Nat, v4 = .int .i64 (k : Int) ∧ k ≤ held.length ∧ (held.take k).all nameD = true ∧ wr = w.alloc (.cells #[.int .i64 er, .int .i64 0, .slice A1 nms.length c1, .slice A2 held.length c2, .slice A3 lst.length c3] 26)) (fun v4 _ => held.length - (intOf v4).toNat)
            case atStart => exact ⟨0, rfl, Nat.zero_le _, rfl, rfl⟩
            case round =>
              obtain ⟨k, rfl, hk, hT, rfl⟩ := hrel
              by_cases hlt : k < held.length
              · exact absurd hlt (by omega)
              · obtain rfl : k = held.length := by omega
                have HT2 := Lib.hid (HE2.out hT)
                clear hT
                go_wp2
                go_ret
                exact ⟨ret_bool (by rw [HT1.out, HT2.out]; rfl), g1⟩
end Go.Proofs.YtppnlijeonneeaaDoor

namespace Go.Proofs.YtppnlijeonneeaaDoor
open Go Go.RowKit Go.Sort

theorem led_wa2 (a : List UInt8) (c : UInt8) (x : List UInt8) : wa a ++ ⟨#[32, c]⟩ ++ wa x = wa (a ++ (32 :: c :: x)) := by
  show wa a ++ wa [32, c] ++ wa x = _
  rw [wa_append, wa_append, List.append_assoc]
  rfl
theorem led_len (a : List UInt8) (c : UInt8) (l : List (List UInt8)) (N k : Nat) (x : List UInt8) (hk : l[k]? = some x) (h : a.length + (ledW c l).length ≤ N) : (wa (a ++ ledW c (l.take k))).size + 2 + x.length ≤ N := by
  have h1 := ledW_take_len c l (k + 1)
  rw [ledW_take hk] at h1
  rw [wa_size]
  simp only [List.length_append, List.length_cons] at h1 ⊢
  omega
set_option maxRecDepth 100000 in
set_option maxHeartbeats 2000000 in
theorem rtextO_err (r : Rep) (v1 v2 v3 : Value) (w : World) (h : r.err ≠ 0) (h0 : -9223372036854775808 ≤ r.err) (h1 : r.err ≤ 9223372036854775807) (hs1 : ∃ A n c, v1 = .slice A n c) (hs2 : ∃ A n c, v2 = .slice A n c) (hs3 : ∃ A n c, v3 = .slice A n c) :
    Calls Tryd.prog 12 #[.agg #[.int .i64 r.err, .int .i64 r.n, v1, v2, v3]] w fun e w' => e = .returned (.string (wa (textO r))) ∧ Gr w w' := by
  obtain ⟨A1, n1, c1, rfl⟩ := hs1
  obtain ⟨A2, n2, c2, rfl⟩ := hs2
  obtain ⟨A3, n3, c3, rfl⟩ := hs3
  rw [textO_err h, ← wa_append]
  have g1 := Gr.alloc w (.cells #[.int .i64 r.err, .int .i64 r.n, .slice A1 n1 c1, .slice A2 n2 c2, .slice A3 n3 c3] 26)
  have cI := fun W => TellZ_any r.err W h0 h1
  have hl := itoa_20 h0 h1
  have hs : (wa (Lib.itoa r.err)).size ≤ 20 := by rw [wa_size]; exact hl
  generalize wa (Lib.itoa r.err) = t at *
  generalize r.err = z at *
  have y : (z == 0) = false := beq_eq_false_iff_ne.2 h
  have y2 : (z != 0) = true := by simp [h]
  have z1 : ¬ 9223372036854775807 < 6 + t.size := by omega
  clear hl
  go_enter Tryd.func12, Tryd.ntmps12
  go_wp2_with (go_at_call 35; (with_reducible refine (cI _).mono ?_); rintro e w1 ⟨rfl, rfl⟩)
  all_goals (try (exfalso; omega))
  go_ret
  exact ⟨rfl, g1⟩
set_option maxRecDepth 100000 in
set_option maxHeartbeats 8000000 in
theorem rtextO_ok (n : Int) (nms held : List ByteArray) (lst : List (List UInt8)) (A1 A2 A3 : Option Addr) (c1 c2 c3 : Nat) (vs : List Value) (w : World) (h0 : -9223372036854775808 ≤ n) (h1 : n ≤ 9223372036854775807)
    (q1 : nms.length ≤ c1 ∧ c1 ≤ maxLen) (q2 : held.length ≤ c2 ∧ c2 ≤ maxLen) (q3 : lst.length ≤ c3 ∧ c3 ≤ maxLen)
    (k1 : Rk w (· < w.heap.size) 1 A1 nms.length (nms.map Value.string)) (k2 : Rk w (· < w.heap.size) 1 A2 held.length (held.map Value.string)) (k3 : Rk w (· < w.heap.size) 1 A3 lst.length vs) (l3 : RkLs w (· < w.heap.size) lst vs) (hlen : (textO ⟨0, n, nms, held, lst⟩).length ≤ 1000000) :
    Calls Tryd.prog 12 #[.agg #[.int .i64 0, .int .i64 n, .slice A1 nms.length c1, .slice A2 held.length c2, .slice A3 lst.length c3]] w fun e w' => e = .returned (.string (wa (textO ⟨0, n, nms, held, lst⟩))) ∧ Gr w w' := by
  obtain ⟨a0, ha0⟩ : ∃ a0, [111, 107, 32] ++ Lib.itoa n = a0 := ⟨_, rfl⟩
  have et : textO ⟨0, n, nms, held, lst⟩ = a0 ++ ledW 43 (nms.map (·.data.toList)) ++ ledW 33 (held.map (·.data.toList)) ++ ledW 61 (lst.map hexL) := by
    rw [textO_ok rfl, ← ha0]; rfl
  rw [et] at hlen ⊢
  have q1m := q1.2
  have q2m := q2.2
  have q3m := q3.2
  unfold maxLen at q1m q2m q3m
  have q1l := q1.1
  have q2l := q2.1
  have q3l := q3.1
  have g1 := Gr.alloc w (.cells #[.int .i64 0, .int .i64 n, .slice A1 nms.length c1, .slice A2 held.length c2, .slice A3 lst.length c3] 26)
  have hX := Blk.new w 26 #[.int .i64 0, .int .i64 n, .slice A1 nms.length c1, .slice A2 held.length c2, .slice A3 lst.length c3]
  have cI := fun W => TellZ_any n W h0 h1
  have hw0 : (⟨#[111, 107, 32]⟩ : ByteArray) ++ wa (Lib.itoa n) = wa a0 := by
    show wa [111, 107, 32] ++ _ = _
    rw [wa_append, ha0]
  have hil := itoa_20 h0 h1
  have hts : (wa (Lib.itoa n)).size ≤ 20 := by rw [wa_size]; exact hil
  have z1 : ¬ 9223372036854775807 < 3 + (wa (Lib.itoa n)).size := by omega
  have L1 := fun k x hk => led_len a0 43 (nms.map (·.data.toList)) 1000000 k x hk (by simp only [List.length_append] at hlen; omega)
  have L2 := fun k x hk => led_len (a0 ++ ledW 43 (nms.map (·.data.toList))) 33 (held.map (·.data.toList)) 1000000 k x hk (by simp only [List.length_append] at hlen ⊢; omega)
  have L3 := fun k x hk => led_len (a0 ++ ledW 43 (nms.map (·.data.toList)) ++ ledW 33 (held.map (·.data.toList))) 61 (lst.map hexL) 1000000 k x hk (by simp only [List.length_append] at hlen ⊢; omega)
  have T1 := fun k x (hk : (nms.map (·.data.toList))[k]? = some x) => ledW_take (c := 43) hk
  have T2 := fun k x (hk : (held.map (·.data.toList))[k]? = some x) => ledW_take (c := 33) hk
  have T3 := fun k x (hk : (lst.map hexL)[k]? = some x) => ledW_take (c := 61) hk
  have F1 : (nms.map (·.data.toList)).take nms.length = nms.map (·.data.toList) := List.take_of_length_le (by simp)
  have F2 : (held.map (·.data.toList)).take held.length = held.map (·.data.toList) := List.take_of_length_le (by simp)
  have F3 : (lst.map hexL).take lst.length = lst.map hexL := List.take_of_length_le (by simp)
  have M1 : ∀ (k : Nat) (x : ByteArray), nms[k]? = some x → (nms.map (·.data.toList))[k]? = some x.data.toList := fun k x h => by rw [List.getElem?_map, h]; rfl
  have M2 : ∀ (k : Nat) (x : ByteArray), held[k]? = some x → (held.map (·.data.toList))[k]? = some x.data.toList := fun k x h => by rw [List.getElem?_map, h]; rfl
  have M3 : ∀ k x, lst[k]? = some x → (lst.map hexL)[k]? = some (hexL x) := fun k x h => by rw [List.getElem?_map, h]; rfl
  generalize hl1 : nms.map (·.data.toList) = l1 at *
  generalize hl2 : held.map (·.data.toList) = l2 at *
  generalize hl3 : lst.map hexL = l3' at *
  clear hl1 hl2 hl3 et hlen hil ha0 h0 h1 q1 q2 q3
  generalize wa (Lib.itoa n) = tn at *
  have HL1 := Lib.hid L1
  have HL2 := Lib.hid L2
  have HL3 := Lib.hid L3
  have HT1 := Lib.hid T1
  have HT2 := Lib.hid T2
  have HT3 := Lib.hid T3
  have HF1 := Lib.hid F1
  have HF2 := Lib.hid F2
  have HF3 := Lib.hid F3
  have HM1 := Lib.hid M1
  have HM2 := Lib.hid M2
  have HM3 := Lib.hid M3
  have HW0 := Lib.hid hw0
  clear L1 L2 L3 T1 T2 T3 F1 F2 F3 M1 M2 M3 hw0
  go_enter Tryd.func12, Tryd.ntmps12
  go_wp2_with (go_at_call 35; (with_reducible refine (cI _).mono ?_); rintro e w1 ⟨rfl, rfl⟩)
  all_goals (try (exfalso; omega))
  go_loopw [3, 4] (fun v3 v4 wr => ∃ k : Nat, v4 = .int .i64 (k : Int) ∧ k ≤ nms.length ∧ v3 = .string (wa (a0 ++ ledW 43 (l1.take k))) ∧ Gr (w.alloc (.cells #[.int .i64 0, .int .i64 n, .slice A1 nms.length c1, .slice A2 held.length c2, .slice A3 lst.length c3] 26)) wr) (fun _ v4 _ => nms.length - (intOf v4).toNat)
  case atStart => exact ⟨0, rfl, Nat.zero_le _, by rw [List.take_zero, ledW_nil, List.append_nil]; first | rfl | rw [HW0.out], Gr.refl _⟩
  case round =>
    obtain ⟨k, rfl, hk, rfl, hg1⟩ := hrel
    obtain ⟨s0, s1, s2, s3, s4⟩ := five_cells (hX.below hg1 hX.lt)
    by_cases hlt : k < nms.length
    · obtain ⟨x, hxk⟩ : ∃ x, nms[k]? = some x := ⟨_, List.getElem?_eq_getElem hlt⟩
      obtain ⟨ad, rfl, hab, hcell⟩ := k1.2 (by omega)
      have p0 := ((Gr.trans g1 hg1).cell (p := ad.add k) (by rw [block_of_add]; exact hab)).trans (hcell k (.string x) (by rw [List.getElem?_map, hxk]; rfl))
      have hm := HM1.out k x hxk
      have hl := HL1.out k _ hm
      have hT := led_wa2 (a0 ++ ledW 43 (l1.take k)) 43 x.data.toList
      rw [List.append_assoc _ _ (32 :: 43 :: _), ← HT1.out k _ hm, data_wa] at hT
      have hxs : x.data.toList.length = x.size := by simp
      rw [hxs] at hl
      have HT := Lib.hid hT
      generalize wa (a0 ++ ledW 43 (l1.take k)) = S at *
      have z1 : ¬ 9223372036854775807 < S.size + 2 := by omega
      have z2 : ¬ 9223372036854775807 < S.size + 2 + x.size := by omega
      clear hT hm hxk hcell hxs
      go_wp2
      all_goals (try (exfalso; omega))
      go_roundw
      case rel => exact ⟨k + 1, by go_num, hlt, by rw [← HT.out], hg1⟩
      case measure => simp [intOf]; omega
    · obtain rfl : k = nms.length := by omega
      rw [HF1.out]
      go_wp2
      go_loopw [3, 5] (fun v3 v5 wr => ∃ k : Nat, v5 = .int .i64 (k : Int) ∧ k ≤ held.length ∧ v3 = .string (wa (a0 ++ ledW 43 l1 ++ ledW 33 (l2.take k))) ∧ Gr (w.alloc (.cells #[.int .i64 0, .int .i64 n, .slice A1 nms.length c1, .slice A2 held.length c2, .slice A3 lst.length c3] 26)) wr) (fun _ v5 _ => held.length - (intOf v5).toNat)
      case atStart => exact ⟨0, rfl, Nat.zero_le _, by rw [List.take_zero, ledW_nil, List.append_nil], hg1⟩
      case round =>
        obtain ⟨k, rfl, hk, rfl, hg2⟩ := hrel
        obtain ⟨s0, s1, s2, s3, s4⟩ := five_cells (hX.below hg2 hX.lt)
        by_cases hlt : k < held.length
        · obtain ⟨x, hxk⟩ : ∃ x, held[k]? = some x := ⟨_, List.getElem?_eq_getElem hlt⟩
          obtain ⟨ad, rfl, hab, hcell⟩ := k2.2 (by omega)
          have p0 := ((Gr.trans g1 hg2).cell (p := ad.add k) (by rw [block_of_add]; exact hab)).trans (hcell k (.string x) (by rw [List.getElem?_map, hxk]; rfl))
          have hm := HM2.out k x hxk
          have hl := HL2.out k _ hm
          have hT := led_wa2 (a0 ++ ledW 43 l1 ++ ledW 33 (l2.take k)) 33 x.data.toList
          rw [List.append_assoc _ _ (32 :: 33 :: _), ← HT2.out k _ hm, data_wa] at hT
          have hxs : x.data.toList.length = x.size := by simp
          rw [hxs] at hl
          have HT := Lib.hid hT
          generalize wa (a0 ++ ledW 43 l1 ++ ledW 33 (l2.take k)) = S at *
          have z1 : ¬ 9223372036854775807 < S.size + 2 := by omega
          have z2 : ¬ 9223372036854775807 < S.size + 2 + x.size := by omega
          clear hT hm hxk hcell hxs
          go_wp2
          all_goals (try (exfalso; omega))
          go_roundw
          case rel => exact ⟨k + 1, by go_num, hlt, by rw [← HT.out], hg2⟩
          case measure => simp [intOf]; omega
        · obtain rfl : k = held.length := by omega
          rw [HF2.out]
          go_wp2
          go_loopw [3, 6] (fun v3 v6 wr => ∃ k : Nat, v6 = .int .i64 (k : Int) ∧ k ≤ lst.length ∧ v3 = .string (wa (a0 ++ ledW 43 l1 ++ ledW 33 l2 ++ ledW 61 (l3'.take k))) ∧ Gr (w.alloc (.cells #[.int .i64 0, .int .i64 n, .slice A1 nms.length c1, .slice A2 held.length c2, .slice A3 lst.length c3] 26)) wr) (fun _ v6 _ => lst.length - (intOf v6).toNat)
          case atStart => exact ⟨0, rfl, Nat.zero_le _, by rw [List.take_zero, ledW_nil, List.append_nil], hg2⟩
          case round =>
            obtain ⟨k, rfl, hk, rfl, hg3⟩ := hrel
            obtain ⟨s0, s1, s2, s3, s4⟩ := five_cells (hX.below hg3 hX.lt)
            by_cases hlt : k < lst.length
            · obtain ⟨x, hxk⟩ : ∃ x, lst[k]? = some x := ⟨_, List.getElem?_eq_getElem hlt⟩
              obtain ⟨v, hv, hRk⟩ := RkLs.at_ lst vs k x l3 hxk
              obtain ⟨ad, rfl, hab, hcell⟩ := k3.2 (by omega)
              have p0 := ((Gr.trans g1 hg3).cell (p := ad.add k) (by rw [block_of_add]; exact hab)).trans (hcell k v hv)
              have hm := HM3.out k x hxk
              have hl := HL3.out k _ hm
              have hT := led_wa2 (a0 ++ ledW 43 l1 ++ ledW 33 l2 ++ ledW 61 (l3'.take k)) 61 (hexL x)
              rw [List.append_assoc _ _ (32 :: 61 :: _), ← HT3.out k _ hm] at hT
              have hx2 := hexL_len x
              have cD := rhex_any wr v x (((hRk.rd (fun _ h => h)).gr (Nat.le_refl _) (Gr.trans g1 hg3)).more (Gr.trans g1 hg3).size) (by omega)
              obtain ⟨Av, cv, ev, hcv, -⟩ := hRk
              subst ev
              have hxs : (wa (hexL x)).size = (hexL x).length := wa_size _
              rw [← hxs] at hl
              have HT := Lib.hid hT
              generalize wa (a0 ++ ledW 43 l1 ++ ledW 33 l2 ++ ledW 61 (l3'.take k)) = S at *
              generalize wa (hexL x) = X at *
              have z1 : ¬ 9223372036854775807 < S.size + 2 := by omega
              have z2 : ¬ 9223372036854775807 < S.size + 2 + X.size := by omega
              clear hT hm hxk hcell hxs hx2 hv hcv
              go_wp2_with (go_at_call 36; (with_reducible refine cD.mono ?_); rintro e w3 ⟨rfl, hb3⟩)
              all_goals (try (exfalso; omega))
              go_roundw
              case rel => exact ⟨k + 1, by go_num, hlt, by rw [← HT.out], Gr.trans hg3 hb3⟩
              case measure => simp [intOf]; omega
            · obtain rfl : k = lst.length := by omega
              rw [HF3.out]
              go_wp2
              go_ret
              exact ⟨rfl, Gr.trans g1 hg3⟩
theorem rtextO_any (r : Rep) (v : Value) (w : World) (hr : RdRep w (· < w.heap.size) r v) (he0 : -9223372036854775808 ≤ r.err) (he1 : r.err ≤ 9223372036854775807) (h0 : -9223372036854775808 ≤ r.n) (h1 : r.n ≤ 9223372036854775807) (hlen : (textO r).length ≤ 1000000) :
    Calls Tryd.prog 12 #[v] w fun e w' => e = .returned (.string (wa (textO r))) ∧ Gr w w' := by
  obtain ⟨v1, v2, v3, rfl, ⟨A1, c1, rfl, q1, k1⟩, ⟨A2, c2, rfl, q2, k2⟩, ⟨A3, c3, vs, rfl, q3, k3, l3⟩⟩ := hr
  by_cases he : r.err = 0
  · obtain ⟨er, n, nms, held, lst⟩ := r
    dsimp only at *
    subst he
    exact rtextO_ok n nms held lst A1 A2 A3 c1 c2 c3 vs w h0 h1 q1 q2 q3 k1 k2 k3 l3 hlen
  · exact rtextO_err r _ _ _ w he he0 he1 ⟨_, _, _, rfl⟩ ⟨_, _, _, rfl⟩ ⟨_, _, _, rfl⟩
end Go.Proofs.YtppnlijeonneeaaDoor

namespace Go.Proofs.YtppnlijeonneeaaDoor
open Go Go.RowKit Go.Sort

theorem quiet_smW {P : Program} {f : FuncId} {args : Array Value} {w : World} {n : Nat} {v : Value} (h : Calls P f args (w.drewN n) fun e w' => e = .returned v ∧ w' = w.drewN n) : Calls P f args (w.drewN n) fun e w'' => e = .returned v ∧ ∃ m, w'' = w.drewN m :=
  h.mono fun _ _ ⟨h1, h2⟩ => ⟨h1, n, h2⟩
theorem unhP_step : ∀ (k : Nat) (l : List UInt8) (a b : UInt8), l[2 * k]? = some a → l[2 * k + 1]? = some b → unhP (l.take (2 * (k + 1))) = unhP (l.take (2 * k)) ++ [byteW a b]
  | 0, l, a, b, h1, h2 => by
    match l, h1, h2 with
    | x :: y :: r, h1, h2 =>
      simp only [Nat.mul_zero, List.getElem?_cons_zero, Option.some.injEq, Nat.zero_add, List.getElem?_cons_succ] at h1 h2
      subst h1 h2
      simp [unhP]
    | [x], _, h2 => simp at h2
    | [], h1, _ => simp at h1
  | k + 1, l, a, b, h1, h2 => by
    match l, h1, h2 with
    | x :: y :: r, h1, h2 =>
      rw [show 2 * (k + 1) = 2 * k + 1 + 1 by omega, List.getElem?_cons_succ, List.getElem?_cons_succ] at h1
      rw [show 2 * (k + 1) + 1 = 2 * k + 1 + 1 + 1 by omega, List.getElem?_cons_succ, List.getElem?_cons_succ] at h2
      have := unhP_step k r a b h1 h2
      rw [show 2 * (k + 1 + 1) = 2 * (k + 1) + 1 + 1 by omega, List.take_succ_cons, List.take_succ_cons, unhP, this, show 2 * (k + 1) = 2 * k + 1 + 1 by omega, List.take_succ_cons, List.take_succ_cons, unhP]
      rfl
    | [x], _, h2 => simp at h2
    | [], h1, _ => simp at h1
theorem unhP_end : ∀ (k : Nat) (l : List UInt8), 2 * k ≤ l.length → l.length ≤ 2 * k + 1 → unhP (l.take (2 * k)) = unhP l
  | 0, l, _, h => by
    match l, h with
    | [], _ => rfl
    | [x], _ => rfl
    | x :: y :: r, h => simp at h
  | k + 1, l, h0, h => by
    match l, h0, h with
    | [], h0, _ => simp at h0
    | [x], h0, _ => simp at h0; omega
    | x :: y :: r, h0, h =>
      simp only [List.length_cons] at h0 h
      have := unhP_end k r (by omega) (by omega)
      rw [show 2 * (k + 1) = 2 * k + 1 + 1 by omega, List.take_succ_cons, List.take_succ_cons, unhP, this, unhP]
theorem unhP_len : ∀ l : List UInt8, (unhP l).length ≤ l.length
  | [] => Nat.le_refl _
  | [_] => Nat.zero_le _
  | a :: b :: r => by
    have := unhP_len r
    rw [unhP, List.length_cons, List.length_cons, List.length_cons]
    omega
theorem bits_or64 (a b : Nat) (ha : a < 4294967296) (hb : b < 4294967296) : bits .or .i64 (a : Int) (b : Int) = ((a ||| b : Nat) : Int) := by
  have hx : a ||| b < 2 ^ 32 := Nat.or_lt_two_pow (by omega) (by omega)
  have h1 : (BitVec.ofInt 64 (a : Int)).toNat = a := by
    rw [BitVec.ofInt_natCast, BitVec.toNat_ofNat]; exact Nat.mod_eq_of_lt (by omega)
  have h2 : (BitVec.ofInt 64 (b : Int)).toNat = b := by
    rw [BitVec.ofInt_natCast, BitVec.toNat_ofNat]; exact Nat.mod_eq_of_lt (by omega)
  show IntKind.i64.wrap ((BitVec.ofInt 64 (a : Int) ||| BitVec.ofInt 64 (b : Int)).toNat : Int) = _
  rw [BitVec.toNat_or, h1, h2, IntKind.wrap_i64]
  omega
set_option maxRecDepth 100000 in
theorem or_16 : ∀ x : Nat, x < 16 → ∀ y : Nat, y < 16 → (x * 16) ||| y = x * 16 + y := by decide
theorem bits_W (a b : UInt8) : bits BinOp.or IntKind.i64 (max (valW a) 0 * 16) (max (valW b) 0) % 256 = ((byteW a b).toNat : Int) := by
  have hA := valW_lt a
  have hB := valW_lt b
  unfold byteW
  obtain ⟨x, hx⟩ : ∃ x, (max (valW a) 0).toNat = x := ⟨_, rfl⟩
  obtain ⟨y, hy⟩ : ∃ y, (max (valW b) 0).toNat = y := ⟨_, rfl⟩
  have hx1 : x < 16 := by omega
  have hy1 : y < 16 := by omega
  rw [hx, hy, show max (valW a) 0 * 16 = ((x * 16 : Nat) : Int) by omega, show max (valW b) 0 = (y : Int) by omega, bits_or64 _ _ (by omega) (by omega), or_16 x hx1 y hy1, UInt8.toNat_ofNat']
  omega
set_option maxRecDepth 100000 in
theorem idx_hexN : ∀ n : Nat, n < 256 → Lib.indexByte bHex.data.toList (UInt8.ofNat n) = valW (UInt8.ofNat n) := by decide
theorem idx_hex (c : UInt8) : Lib.indexByte bHex.data.toList ((c.toNat : Int).toNat.toUInt8) = valW c := by
  have := idx_hexN c.toNat c.toNat_lt
  rw [show (UInt8.ofNat c.toNat) = c from UInt8.ofNat_toNat] at this
  rw [show ((c.toNat : Int).toNat.toUInt8) = c from UInt8.ofNat_toNat]
  exact this
set_option maxRecDepth 100000 in
set_option maxHeartbeats 2000000 in
theorem undig_any (s : ByteArray) (l : List UInt8) (hsl : s = wa l) (w : World) (hl : l.length ≤ 1000000) : Calls Tryd.prog 52 #[.string s] w fun e w' => ∃ v, e = .returned v ∧ OwnB w' w.heap.size v (unhP l) ∧ Gr w w' := by
  have hsz : s.size = l.length := by rw [hsl, wa_size]
  have hget : ∀ (i : Nat) (h : i < s.size), l[i]? = some (s[i]'h) := by
    intro i h
    subst hsl
    rw [List.getElem?_eq_getElem (by omega)]
    rfl
  have cI : ∀ (c : UInt8) (W : World), Calls Tryd.prog 79 #[.string bHex, .int .u8 (c.toNat : Int)] W fun e w' => e = .returned (.int .i64 (valW c)) ∧ w' = W := fun c W => by
    have := Tryd.strings_IndexByte bHex (c.toNat : Int) W
    rw [idx_hex] at this
    exact this
  have HSL := Lib.hid hsl
  have HU := Lib.hid (fun k a b (h1 : l[2 * k]? = some a) (h2 : l[2 * k + 1]? = some b) => unhP_step k l a b h1 h2)
  have HE := Lib.hid (fun k h1 h2 => unhP_end k l h1 h2)
  have HG := Lib.hid hget
  have HLen := Lib.hid (fun k => Nat.le_trans (unhP_len (l.take (2 * k))) (List.length_take_le _ _))
  clear hget hsl
  go_enter Tryd.func52, Tryd.ntmps52
  go_wp2
  go_loopw [3, 4] (fun v3 v4 wr => ∃ (i k : Nat) (vb : Value), v4 = .int .i64 (i : Int) ∧ vb = v3 ∧ Hid (i = 2 * k) ∧ i ≤ l.length ∧ OwnB wr w.heap.size vb (unhP (l.take (2 * k))) ∧ Gr w wr) (fun _ v4 _ => l.length + 1 - (intOf v4).toNat)
  case atStart => exact ⟨0, 0, _, rfl, rfl, Lib.hid rfl, Nat.zero_le _, OwnB.new w [] _ (Nat.le_refl _) (Nat.zero_le _) _ rfl, Gr.alloc _ _⟩
  case round =>
    obtain ⟨i, k, vb, rfl, rfl, hik, hk, hO, hgw⟩ := hrel
    by_cases hlt : i + 1 < s.size
    · have hT : unhP (l.take (2 * (k + 1))) = unhP (l.take (2 * k)) ++ [byteW (s[i]'(by omega)) (s[i + 1]'hlt)] := HU.out k _ _ (by rw [← hik.out]; exact HG.out i (by omega)) (by rw [← hik.out]; exact HG.out (i + 1) hlt)
      have HT := Lib.hid hT
      clear hT
      have hln : (unhP (l.take (2 * k))).length ≤ 1000000 := Nat.le_trans (HLen.out k) (by rw [← hik.out]; omega)
      have f0 : i < s.size := by omega
      have f1 : i < l.length := by omega
      have f2 : i + 1 < l.length := by omega
      have cA := cI (s[i]'f0)
      have cB := cI (s[i + 1]'hlt)
      have rA := valW_lt (s[i]'f0)
      have rB := valW_lt (s[i + 1]'hlt)
      have hnn : 0 ≤ (i : Int) + 1 := by omega
      have hw1 : IntKind.i64.wrap ((i : Int) + 1) = (i : Int) + 1 := IntWalk.i64_in _ (by omega)
      go_wp2
      go_quiet ((go_at_call 79; first | exact quiet_smW (cA _) | exact quiet_smW (cB _)))
      have hbw := bits_W (s[i]'f0) (s[i + 1]'hlt)
      generalize byteW (s[i]'f0) (s[i + 1]'hlt) = c at *
      have hg5 := Gr.trans (Gr.drewN wr nq) (Gr.alloc (wr.drewN nq) (.cells #[.int .u8 (c.toNat : Int)] 5))
      have hO5 := hO.gr hg5
      have hr5 := (OwnB.new (wr.drewN nq) [c] 0 (Nat.zero_le _) (by unfold maxLen; simp) #[.int .u8 (c.toNat : Int)] rfl).rd
      have hs5 : w.heap.size ≤ ((wr.drewN nq).alloc (.cells #[.int .u8 (c.toNat : Int)] 5)).heap.size := Nat.le_trans hgw.size hg5.size
      go_wp2_with (at_builtin
                   go_loud (refine wpList_appendB _ rfl (.tmp 24) (.tmp 32) rfl w.heap.size _ _ rfl hO5 _ _ [c] rfl hr5 (by rw [List.length_singleton]; omega) hs5 ?_)
                   intro v6 w6 hO6 hb6 hg6)
      go_roundw
      case rel => exact ⟨i + 2, k + 1, _, by go_num, rfl, Lib.hid (by rw [hik.out]; omega), by omega, by rw [HT.out]; exact hO6, Below.trans (Gr.trans hgw hg5) hb6⟩
      case measure => simp [intOf]; omega
    · have hU := HE.out k (by rw [← hik.out]; omega) (by rw [← hik.out]; omega)
      rw [hU] at hO
      have f3 : ¬ (i + 1 < l.length) := by omega
      have f4 : ¬ ((i : Int) + 1 < (l.length : Int)) := by omega
      have hw1 : IntKind.i64.wrap ((i : Int) + 1) = (i : Int) + 1 := IntWalk.i64_in _ (by omega)
      go_wp2
      go_ret
      exact ⟨_, rfl, hO, hgw⟩
end Go.Proofs.YtppnlijeonneeaaDoor
