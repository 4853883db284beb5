/- Scopes as texts: the program's text, and Text. Scopes as texts: the program's Parse. An argument that is a scope: what a datum that is read says of memory. Scopes as texts: the reference's Words. -/
import Derived.Test.YtppnlijeonneeaaDoorPkC
import Derived.Test.YtppnlijeonneeaaDoorPkI
import Derived.Test.YtppnlijeonneeaaDoorPkF
import Derived.Test.YtppnlijeonneeaaDoorGenS
import Derived.Shelf.Vars
import Derived.WideShapes
import Derived.SizedLaws
import Derived.Deep.Slices
import Derived.ChangeSame
import Derived.IntWalk
namespace Go.Proofs.YtppnlijeonneeaaDoor
open Go Go.RowKit Go.Sort

/-- A row of the call's own that holds these texts. -/
def OwnT (w : World) (base : Nat) (v : Value) (l : List ByteArray) : Prop := w.ownsRow base 9 1 v l.length (l.map Value.string)
theorem OwnT.nil (w : World) (base : Nat) : OwnT w base (.slice none 0 0) [] := ⟨rfl, .inl ⟨rfl, rfl⟩⟩
theorem OwnT.gr {w w' : World} {base : Nat} {v : Value} {l : List ByteArray} (h : OwnT w base v l) (hg : Gr w w') : OwnT w' base v l := ownsRow_gr h hg
theorem infoT : (Tryd.prog.info? 9).map (fun i => (i.zero, i.size, i.bytes)) = some (some (.string ⟨#[]⟩), 1, 16) := by kernel_rfl
theorem wpList_appendT {ops : Array Oper} {rest : List Oper} {o : Oper} {a : Act} {Q : Exit → Act → World → Prop} (w : World) (hgd : o.guard = none) (s y : Operand)
    (ho : o.op = .call { callee := .builtin .append, args := #[s, y], argTypes := #[23, 23] }) (base : Nat) (v : Value) (ts : List ByteArray) (hs : a.eval s = v) (hown : OwnT w base v ts)
    (t : ByteArray) (gb : Nat) (hx : a.eval y = .slice (some ⟨gb, 0, none⟩) 1 1) (hB : Blk w gb 9 #[.string t]) (hlen : ts.length ≤ 100000) (hbase : base ≤ w.heap.size)
    (h : ∀ v' w', OwnT w' base v' (ts ++ [t]) → Below base w w' → wpList Tryd.prog ops Q rest (a.put o.dst v') w') : wpList Tryd.prog ops Q (o :: rest) a w := by
  have hu := infoT
  cases hi : Tryd.prog.info? 9 with
  | none => rw [hi] at hu; cases hu
  | some i =>
    rw [hi] at hu
    simp only [Option.map_some, Option.some.injEq, Prod.mk.injEq] at hu
    obtain ⟨hz, hsz, hb⟩ := hu
    have hR : Reads w w.heap.size 1 (some ⟨gb, 0, none⟩) 1 [.string t] := rd_blkW hB rfl
    refine wpList_append_any (P := Tryd.prog) w hgd s y 23 ho base 9 i _ 1 16 (by kernel_rfl) hi hz hsz hb rfl (by omega) v ts.length _ hs hown w.heap.size _ 1 1 _ hx hR (fun u hu => by simp at hu; subst hu; rfl) (by unfold maxLen; omega) (by omega) hbase ?_
    intro v' w' hown' hg _
    refine h v' w' ?_ (own_grW hown hbase hg)
    unfold OwnT
    rw [List.length_append, List.map_append]
    simpa using hown'
theorem OwnT.vform {w : World} {base : Nat} {v : Value} {l : List ByteArray} (h : OwnT w base v l) : ∃ A c, v = .slice A l.length c := by
  rcases h.2 with ⟨rfl, h0⟩ | ⟨g', cap, cur, rfl, _⟩
  · exact ⟨none, 0, by rw [h0]⟩
  · exact ⟨_, _, rfl⟩
theorem OwnT.form {w : World} {base : Nat} {v : Value} {l : List ByteArray} (h : OwnT w base v l) (hn : 0 < l.length) : ∃ g cap, v = .slice (some ⟨g, 0, none⟩) l.length cap ∧ l.length ≤ cap ∧ g < w.heap.size ∧ ∀ (j : Nat) x, l[j]? = some x → w.cell? ⟨g, 0 + j, none⟩ = some (.string x) := by
  have h' := h
  rcases h.2 with ⟨rfl, h0⟩ | ⟨g, cap, cur, rfl, e2, e3, e4, e5⟩
  · omega
  · have hr := Reads.of_own h'
    obtain ⟨ad, ea, hlt, hc⟩ := hr.2 hn
    obtain rfl := Option.some.inj ea
    refine ⟨g, cap, rfl, e4, hlt, fun j x hx => ?_⟩
    have h1 := hc j (.string x) (by rw [List.getElem?_map, hx]; rfl)
    have e : (⟨g, 0, none⟩ : Addr).add j = ⟨g, 0 + j, none⟩ := by
      unfold Addr.add
      split
      · rename_i h0; simp_all
      · simp
    rwa [e] at h1
set_option maxRecDepth 100000 in
set_option maxHeartbeats 4000000 in
theorem wtext_time (nm : ByteArray) (fr to_ : Int) (A : Option Addr) (len c : Nat) (w : World) (hP : Pow w) (h0 : 0 ≤ fr) (h1 : fr ≤ to_) (h2 : to_ ≤ 1099511627776) (ks : List Sc) :
    Calls Tryd.prog 45 #[.agg #[.int .i64 5, .string nm, .int .i64 fr, .int .i64 to_, .slice A len c]] w fun e w' => e = .returned (.string (wa (textS (.mk 5 nm fr to_ ks)))) ∧ Gr w w' := by
  rw [time_text]
  have s1 : (wa (Lib.itoa fr)).size ≤ 13 := by rw [wa_size]; exact itoa_13 h0 (by omega)
  have s2 : (wa (Lib.itoa to_)).size ≤ 13 := by rw [wa_size]; exact itoa_13 (n := to_) (by omega) h2
  obtain ⟨W1, hW1⟩ : ∃ W1, w.alloc (.cells #[.int .i64 5, .string nm, .int .i64 fr, .int .i64 to_, .slice A len c] 39) = W1 := ⟨_, rfl⟩
  have hG : Gr w W1 := by rw [← hW1]; exact Gr.alloc _ _
  have hB : Blk W1 w.heap.size 39 #[.int .i64 5, .string nm, .int .i64 fr, .int .i64 to_, .slice A len c] := by rw [← hW1]; exact Blk.new _ _ _
  have c1 := fun W hP => itoa_any fr W hP (by omega) (by omega)
  have c2 := fun W hP => itoa_any to_ W hP (by omega) (by omega)
  rw [show str (Lib.itoa fr) = wa (Lib.itoa fr) from rfl] at c1
  rw [show str (Lib.itoa to_) = wa (Lib.itoa to_) from rfl] at c2
  generalize wa (Lib.itoa fr) = a at *
  generalize wa (Lib.itoa to_) = b at *
  have k1 : ∀ d os, Calls Tryd.prog 30 #[.int .i64 fr] (grow (redrawn W1 d) os) fun e w'' => e = .returned (.string a) ∧ ∃ p : Regrown, w'' = grow (redrawn W1 p.d) p.os := fun d os => Calls.regrown_of (c1 _ ((hP.below hG).below (below_regrown W1 d os)))
  have k2 : ∀ d os, Calls Tryd.prog 30 #[.int .i64 to_] (grow (redrawn W1 d) os) fun e w'' => e = .returned (.string b) ∧ ∃ p : Regrown, w'' = grow (redrawn W1 p.d) p.os := fun d os => Calls.regrown_of (c2 _ ((hP.below hG).below (below_regrown W1 d os)))
  have qb0 := cell_regrown (hB.cell 0)
  have qb2 := cell_regrown (hB.cell 2)
  have qb3 := cell_regrown (hB.cell 3)
  have z1 : ¬ 9223372036854775807 < 5 + a.size := by omega
  have z2 : ¬ 9223372036854775807 < 5 + a.size + 1 := by omega
  have z3 : ¬ 9223372036854775807 < 5 + a.size + 1 + b.size := by omega
  have HW1 := Lib.hid hW1
  clear c1 c2 h0 h1 h2 s1 s2 hP hW1
  go_enter Tryd.func45, Tryd.ntmps45
  go_wp2
  rw [HW1.out]
  refine wp_region_quiet_below (by kernel_rfl) (by kernel_rfl) ?_
  repeat (go_big_quiet_step (first | with_reducible exact k1 _ _ | with_reducible exact k2 _ _))
  refine wpQuiet_nil ?_
  intro _ hw'
  obtain ⟨⟨dq, osq⟩, hw''⟩ := hw'
  subst hw''
  go_wp2
  go_ret
  exact ⟨rfl, Gr.trans hG (below_regrown W1 dq osq)⟩
set_option maxRecDepth 100000 in
set_option maxHeartbeats 4000000 in
theorem wtext_not (nm : ByteArray) (fr to_ : Int) (x : Sc) (A : Option Addr) (c : Nat) (vs : List Value) (w : World) (hc : 1 ≤ c) (hcm : c ≤ maxLen) (hr : Rk w (· < w.heap.size) 5 A 1 vs) (hl : RdScL w (· < w.heap.size) [x] vs) (hT : (textS x).length ≤ 1000)
    (cK : ∀ v W, Gr w W → RdSc W (· < W.heap.size) x v → Calls Tryd.prog 63 #[v, .int .i64 8] W fun e w' => e = .returned (.string (wa (parW 8 x (textS x)))) ∧ Gr W w') :
    Calls Tryd.prog 45 #[.agg #[.int .i64 8, .string nm, .int .i64 fr, .int .i64 to_, .slice A 1 c]] w fun e w' => e = .returned (.string (wa (textS (.mk 8 nm fr to_ [x])))) ∧ Gr w w' := by
  rw [textS_8, ← wa_append]
  unfold maxLen at hcm
  have := And.intro hc hcm
  have hp := parW_len 8 x (textS x)
  have hs : (wa (parW 8 x (textS x))).size ≤ 1004 := by rw [wa_size]; omega
  obtain ⟨W1, hW1⟩ : ∃ W1, w.alloc (.cells #[.int .i64 8, .string nm, .int .i64 fr, .int .i64 to_, .slice A 1 c] 39) = W1 := ⟨_, rfl⟩
  have hG : Gr w W1 := by rw [← hW1]; exact Gr.alloc _ _
  have hB : Blk W1 w.heap.size 39 #[.int .i64 8, .string nm, .int .i64 fr, .int .i64 to_, .slice A 1 c] := by rw [← hW1]; exact Blk.new _ _ _
  obtain ⟨ad, P, v0, v1, v2, v3, v4, rfl, eP, hP, c0, c1, c2, c3, c4, hsx⟩ := kid_cells (hr.gr hG) (hl.gr hG) rfl 0 x rfl
  have eP0 : ad = P := by rw [← eP]; simp [Addr.add]
  subst eP0
  have k1 : ∀ d os, Calls Tryd.prog 63 #[.agg #[v0, v1, v2, v3, v4], .int .i64 8] (grow (redrawn W1 d) os) fun e w'' => e = .returned (.string (wa (parW 8 x (textS x)))) ∧ ∃ p : Regrown, w'' = grow (redrawn W1 p.d) p.os :=
    fun d os => Calls.regrown_of (cK _ _ (Gr.trans hG (below_regrown W1 d os)) (hsx.gr (below_regrown W1 d os)))
  generalize wa (parW 8 x (textS x)) = t at *
  have qb0 := cell_regrown (hB.cell 0)
  have qb4 := cell_regrown (hB.cell 4)
  have qc0 := cell_regrown c0
  have qc1 := cell_regrown c1
  have qc2 := cell_regrown c2
  have qc3 := cell_regrown c3
  have qc4 := cell_regrown c4
  have z1 : ¬ 9223372036854775807 < 4 + t.size := by omega
  have HW1 := Lib.hid hW1
  clear cK hT hp hsx hW1 hr hl hP eP
  go_enter Tryd.func45, Tryd.ntmps45
  go_wp2
  rw [HW1.out]
  refine wp_region_quiet_below (by kernel_rfl) (by kernel_rfl) ?_
  repeat (go_big_quiet_step (with_reducible exact k1 _ _))
  refine wpQuiet_nil ?_
  intro _ hw'
  obtain ⟨⟨dq, osq⟩, hw''⟩ := hw'
  subst hw''
  go_wp2
  go_ret
  exact ⟨rfl, Gr.trans hG (below_regrown W1 dq osq)⟩
def sl48 : Value → Nat
  | .int _ n => n.toNat
  | _ => 0
theorem partsT_len {op : Int} {ks : List Sc} {k : Nat} (hk : k ≤ ks.length) : (((textL op ks).take k).map wa).length = k := by
  rw [List.length_map, List.length_take, textL_len]; omega
theorem partsT_step {op : Int} {ks : List Sc} {k : Nat} {x : Sc} (h : ks[k]? = some x) : ((textL op ks).take (k + 1)).map wa = ((textL op ks).take k).map wa ++ [wa (parW op x (textS x))] := by
  rw [textL_take h, List.map_append]; rfl
theorem partsT_data (op : Int) (ks : List Sc) : (((textL op ks).take ks.length).map wa).map (·.data.toList) = textL op ks := by
  rw [List.take_of_length_le (by rw [textL_len]; exact Nat.le_refl _), List.map_map]
  conv => rhs; rw [← List.map_id (textL op ks)]
  exact List.map_congr_left fun a _ => wa_data a
set_option maxRecDepth 100000 in
set_option maxHeartbeats 8000000 in
theorem wtext_list (op : Int) (ho : op = 6 ∨ op = 7) (nm : ByteArray) (fr to_ : Int) (ks : List Sc) (hk2 : 2 ≤ ks.length) (hk3 : ks.length ≤ 1000) (A : Option Addr) (c : Nat) (vs : List Value) (w : World) (hc : ks.length ≤ c) (hcm : c ≤ maxLen) (hr : Rk w (· < w.heap.size) 5 A ks.length vs) (hl : RdScL w (· < w.heap.size) ks vs)
    (hJl : (joinTo op ks ks.length).length ≤ 1000)
    (cK : ∀ (k : Nat) (x : Sc) v W, ks[k]? = some x → Gr w W → RdSc W (· < W.heap.size) x v → Calls Tryd.prog 63 #[v, .int .i64 op] W fun e w' => e = .returned (.string (wa (parW op x (textS x)))) ∧ Gr W w') :
    Calls Tryd.prog 45 #[.agg #[.int .i64 op, .string nm, .int .i64 fr, .int .i64 to_, .slice A ks.length c]] w fun e w' => e = .returned (.string (wa (textS (.mk op nm fr to_ ks)))) ∧ Gr w w' := by
  rw [textS_list ho]
  unfold maxLen at hcm
  have cJ : ∀ (W : World) v, OwnT W (w.heap.size + 1) v (((textL op ks).take ks.length).map wa) → Calls Tryd.prog 66 #[v, .string (wa (sepW op))] W fun e w' => e = .returned (.string (wa (joinTo op ks ks.length))) ∧ Gr W w' := by
    intro W v hO
    have hlen := partsT_len (op := op) (ks := ks) (Nat.le_refl ks.length)
    obtain ⟨g, cap, rfl, h1, h2, h3⟩ := hO.form (by rw [hlen]; omega)
    have e : Lib.join ((((textL op ks).take ks.length).map wa).map (·.data.toList)) (wa (sepW op)).data.toList = joinTo op ks ks.length := by
      rw [partsT_data, wa_data, joinTo_all]
    have h := Tryd.strings_Join g 0 cap (((textL op ks).take ks.length).map wa) (wa (sepW op)) W h3 h2 (by rw [hlen]; omega) h1 (by rw [e]; omega)
    rw [e] at h
    exact h
  have HJ := Lib.hid cJ
  have HK := Lib.hid cK
  have HP0 := Lib.hid (show OwnT w (w.heap.size + 1) (.slice none 0 0) (((textL op ks).take 0).map wa) from OwnT.nil _ _)
  have HPl := Lib.hid (fun k (hk : k ≤ ks.length) => partsT_len (op := op) (ks := ks) hk)
  have HPs := Lib.hid (fun k x (h : ks[k]? = some x) => partsT_step (op := op) h)
  have cL := fun b W hb => wlist_any op nm fr to_ A ks.length c b W hb
  have hks : ks.length ≤ 9223372036854775807 := by omega
  have hB := Blk.new w 39 #[.int .i64 op, .string nm, .int .i64 fr, .int .i64 to_, .slice A ks.length c]
  generalize hJ : wa (joinTo op ks ks.length) = J at *
  generalize hT : (fun k => ((textL op ks).take k).map wa) = T at *
  have hT' : ∀ k, ((textL op ks).take k).map wa = T k := fun k => by rw [← hT]
  simp only [hT'] at HJ HP0 HPl HPs
  clear hJ hJl hT hT' cK cJ
  rcases ho with rfl | rfl
  · have cL2 := fun W => cL true W (by simp)
    clear cL
    have hsep : wa (sepW 6) = ⟨#[32, 97, 110, 100, 32]⟩ := rfl
    rw [hsep] at HJ
    clear hsep
    go_enter Tryd.func45, Tryd.ntmps45
    go_wp2_with (go_at_call 64; (with_reducible refine (cL2 _).mono ?_); rintro e w2 ⟨rfl, hb2⟩
                 have hB2 := hB.below hb2 hB.lt
                 have hG2 := Gr.trans (Gr.alloc w (.cells #[.int .i64 6, .string nm, .int .i64 fr, .int .i64 to_, .slice A ks.length c] 39)) hb2
                 obtain ⟨s0, s1, s2, s3, s4⟩ := five_cells hB2)
    all_goals (try (exfalso; omega))
    go_loopw [4, 48] (fun v4 v48 wr => ∃ (k : Nat) (A4 : Option Addr) (c4 : Nat), v48 = .int .i64 (k : Int) ∧ v4 = .slice A4 k c4 ∧ k ≤ ks.length ∧ OwnT wr (w.heap.size + 1) v4 (T k) ∧ Gr w wr ∧ Blk wr w.heap.size 39 #[.int .i64 6, .string nm, .int .i64 fr, .int .i64 to_, .slice A ks.length c]) (fun _ v48 _ => ks.length - (intOf v48).toNat)
    case atStart => exact ⟨0, none, 0, rfl, rfl, Nat.zero_le _, HP0.out.gr hG2, hG2, hB2⟩
    case round =>
      obtain ⟨k, A4, c4, rfl, rfl, hk, hO, hgw, hBr⟩ := hrel
      have hBl := hBr.lt
      by_cases hlt : k < ks.length
      · obtain ⟨x, hxk⟩ : ∃ x, ks[k]? = some x := ⟨_, List.getElem?_eq_getElem hlt⟩
        obtain ⟨ad, P, v0, v1, v2, v3, v4, rfl, eP, hP, c0, c1, c2, c3, c4', hsx⟩ := kid_cells (hr.gr hgw) (hl.gr hgw) rfl k x hxk
        obtain ⟨o_, m_, f_, t_, A_, n_, c_, hf⟩ := scRd_form hsx
        obtain ⟨rfl, rfl, rfl, rfl, rfl⟩ : v0 = .int .i64 o_ ∧ v1 = .string m_ ∧ v2 = .int .i64 f_ ∧ v3 = .int .i64 t_ ∧ v4 = .slice A_ n_ c_ := by simpa using hf
        have hGa := Gr.alloc wr (.cells (scC o_ m_ f_ t_ A_ n_ c_) 39)
        have hBa := hBr.below hGa hBl
        obtain ⟨s0, s1, s2, s3, s4⟩ := five_cells hBa
        obtain ⟨j0, j1, j2, j3, j4⟩ := five_cells (Blk.new wr 39 (scC o_ m_ f_ t_ A_ n_ c_))
        have cKk := HK.out k x _ _ hxk (Gr.trans hgw hGa) (hsx.gr hGa)
        have hS := HPs.out k x hxk
        generalize wa (parW 6 x (textS x)) = t at *
        have HS := Lib.hid hS
        have hTl : (T k).length ≤ 100000 := by rw [HPl.out k hk]; omega
        clear hf hS hxk hsx
        go_wp2_with (first
          | (go_at_call 63; (with_reducible refine cKk.mono ?_); rintro e w3 ⟨rfl, hb3⟩
             have hGn := Gr.alloc w3 (.cells #[.string t] 9)
             have hO5 := ((hO.gr hGa).gr hb3).gr hGn
             have hG5 := Gr.trans (Gr.trans (Gr.trans hgw hGa) hb3) hGn
             have hB5 := (hBa.below hb3 hBa.lt).below hGn (hBa.below hb3 hBa.lt).lt
             have hBn := Blk.new w3 9 #[.string t]
             have hle : w.heap.size + 1 ≤ (w3.alloc (.cells #[.string t] 9)).heap.size := by have h1 := hB5.lt; omega)
          | (at_builtin
             go_loud (refine wpList_appendT _ rfl (.tmp 52) (.tmp 57) rfl (w.heap.size + 1) _ (T k) rfl hO5 t _ rfl hBn hTl hle ?_)
             intro v6 w6 hO6 hb6
             rw [← HS.out] at hO6
             obtain ⟨A6, c6, hv6⟩ := hO6.vform
             rw [HPl.out (k + 1) hlt] at hv6
             subst hv6))
        all_goals (try (exfalso; omega))
        go_roundw
        case rel => exact ⟨k + 1, A6, c6, by go_num, rfl, hlt, hO6, Below.trans hG5 (hb6.mono (Nat.le_succ _)), hB5.below hb6 (by omega)⟩
        case measure => simp [intOf]; omega
      · obtain rfl : k = ks.length := by omega
        have cJ2 := HJ.out wr _ hO
        go_wp2_with (go_at_call 66; (with_reducible refine cJ2.mono ?_); rintro e w9 ⟨rfl, hb9⟩)
        all_goals (try (exfalso; omega))
        go_ret
        exact ⟨rfl, Gr.trans hgw hb9⟩
  · have cL2 := fun W => cL true W (by simp)
    clear cL
    have hsep : wa (sepW 7) = ⟨#[32, 111, 114, 32]⟩ := rfl
    rw [hsep] at HJ
    clear hsep
    go_enter Tryd.func45, Tryd.ntmps45
    go_wp2_with (go_at_call 64; (with_reducible refine (cL2 _).mono ?_); rintro e w2 ⟨rfl, hb2⟩
                 have hB2 := hB.below hb2 hB.lt
                 have hG2 := Gr.trans (Gr.alloc w (.cells #[.int .i64 7, .string nm, .int .i64 fr, .int .i64 to_, .slice A ks.length c] 39)) hb2
                 obtain ⟨s0, s1, s2, s3, s4⟩ := five_cells hB2)
    all_goals (try (exfalso; omega))
    go_loopw [4, 48] (fun v4 v48 wr => ∃ (k : Nat) (A4 : Option Addr) (c4 : Nat), v48 = .int .i64 (k : Int) ∧ v4 = .slice A4 k c4 ∧ k ≤ ks.length ∧ OwnT wr (w.heap.size + 1) v4 (T k) ∧ Gr w wr ∧ Blk wr w.heap.size 39 #[.int .i64 7, .string nm, .int .i64 fr, .int .i64 to_, .slice A ks.length c]) (fun _ v48 _ => ks.length - (intOf v48).toNat)
    case atStart => exact ⟨0, none, 0, rfl, rfl, Nat.zero_le _, HP0.out.gr hG2, hG2, hB2⟩
    case round =>
      obtain ⟨k, A4, c4, rfl, rfl, hk, hO, hgw, hBr⟩ := hrel
      have hBl := hBr.lt
      by_cases hlt : k < ks.length
      · obtain ⟨x, hxk⟩ : ∃ x, ks[k]? = some x := ⟨_, List.getElem?_eq_getElem hlt⟩
        obtain ⟨ad, P, v0, v1, v2, v3, v4, rfl, eP, hP, c0, c1, c2, c3, c4', hsx⟩ := kid_cells (hr.gr hgw) (hl.gr hgw) rfl k x hxk
        obtain ⟨o_, m_, f_, t_, A_, n_, c_, hf⟩ := scRd_form hsx
        obtain ⟨rfl, rfl, rfl, rfl, rfl⟩ : v0 = .int .i64 o_ ∧ v1 = .string m_ ∧ v2 = .int .i64 f_ ∧ v3 = .int .i64 t_ ∧ v4 = .slice A_ n_ c_ := by simpa using hf
        have hGa := Gr.alloc wr (.cells (scC o_ m_ f_ t_ A_ n_ c_) 39)
        have hBa := hBr.below hGa hBl
        obtain ⟨s0, s1, s2, s3, s4⟩ := five_cells hBa
        obtain ⟨j0, j1, j2, j3, j4⟩ := five_cells (Blk.new wr 39 (scC o_ m_ f_ t_ A_ n_ c_))
        have cKk := HK.out k x _ _ hxk (Gr.trans hgw hGa) (hsx.gr hGa)
        have hS := HPs.out k x hxk
        generalize wa (parW 7 x (textS x)) = t at *
        have HS := Lib.hid hS
        have hTl : (T k).length ≤ 100000 := by rw [HPl.out k hk]; omega
        clear hf hS hxk hsx
        go_wp2_with (first
          | (go_at_call 63; (with_reducible refine cKk.mono ?_); rintro e w3 ⟨rfl, hb3⟩
             have hGn := Gr.alloc w3 (.cells #[.string t] 9)
             have hO5 := ((hO.gr hGa).gr hb3).gr hGn
             have hG5 := Gr.trans (Gr.trans (Gr.trans hgw hGa) hb3) hGn
             have hB5 := (hBa.below hb3 hBa.lt).below hGn (hBa.below hb3 hBa.lt).lt
             have hBn := Blk.new w3 9 #[.string t]
             have hle : w.heap.size + 1 ≤ (w3.alloc (.cells #[.string t] 9)).heap.size := by have h1 := hB5.lt; omega)
          | (at_builtin
             go_loud (refine wpList_appendT _ rfl (.tmp 52) (.tmp 57) rfl (w.heap.size + 1) _ (T k) rfl hO5 t _ rfl hBn hTl hle ?_)
             intro v6 w6 hO6 hb6
             rw [← HS.out] at hO6
             obtain ⟨A6, c6, hv6⟩ := hO6.vform
             rw [HPl.out (k + 1) hlt] at hv6
             subst hv6))
        all_goals (try (exfalso; omega))
        go_roundw
        case rel => exact ⟨k + 1, A6, c6, by go_num, rfl, hlt, hO6, Below.trans hG5 (hb6.mono (Nat.le_succ _)), hB5.below hb6 (by omega)⟩
        case measure => simp [intOf]; omega
      · obtain rfl : k = ks.length := by omega
        have cJ2 := HJ.out wr _ hO
        go_wp2_with (go_at_call 66; (with_reducible refine cJ2.mono ?_); rintro e w9 ⟨rfl, hb9⟩)
        all_goals (try (exfalso; omega))
        go_ret
        exact ⟨rfl, Gr.trans hgw hb9⟩
def IHW (N : Nat) : Prop := ∀ (x : Sc) (v : Value) (w : World) (n d m : Nat), SizeOf.sizeOf x ≤ N → RdSc w (· < w.heap.size) x v → mayS x n d = some m → n ≤ 24 → Pow w →
    Calls Tryd.prog 45 #[v] w fun e w' => e = .returned (.string (wa (textS x))) ∧ Gr w w'
theorem wtext_n : ∀ N : Nat, IHW N
  | 0 => by
    intro x v w n d m hN _ _ _ _
    obtain ⟨op, nm, fr, to_, ks⟩ := x
    have : 0 < SizeOf.sizeOf (Sc.mk op nm fr to_ ks) := by rw [Sc.mk.sizeOf_spec]; omega
    omega
  | N + 1 => by
    intro x v w n d m hN hx hm hn hP
    have ih := wtext_n N
    obtain ⟨op, nm, fr, to_, ks⟩ := x
    obtain ⟨A, c, vs, rfl, ⟨hc, hcm⟩, hr, hl⟩ := hx.form
    obtain ⟨h1, hd, ho, hnm, hft, hk, hmL⟩ := mayS_parts hm
    have hsz : ∀ (k : Nat) (x : Sc), ks[k]? = some x → SizeOf.sizeOf x ≤ N := by
      intro k x hx
      have h1 := List.sizeOf_lt_of_mem (List.mem_of_getElem? hx)
      have h2 : SizeOf.sizeOf (Sc.mk op nm fr to_ ks) = 1 + SizeOf.sizeOf op + SizeOf.sizeOf nm + SizeOf.sizeOf fr + SizeOf.sizeOf to_ + SizeOf.sizeOf ks := Sc.mk.sizeOf_spec op nm fr to_ ks
      omega
    have hT : ∀ (k : Nat) (x : Sc), ks[k]? = some x → (textS x).length ≤ 1000 := fun k x hx => by
      obtain ⟨n', m', h2, h3⟩ := mayL_kid ks _ _ _ k x hmL hx
      exact textS_1000 h3 (by omega)
    have cK : ∀ (k : Nat) (x : Sc) v W, ks[k]? = some x → Gr w W → RdSc W (· < W.heap.size) x v → Calls Tryd.prog 63 #[v, .int .i64 op] W fun e w' => e = .returned (.string (wa (parW op x (textS x)))) ∧ Gr W w' := by
      intro k x v W hx hg hr
      obtain ⟨n', m', h2, h3⟩ := mayL_kid ks _ _ _ k x hmL hx
      exact wwithin_any x v op W hr (textS_1000 h3 (by omega)) (fun W' hg' => ih x v W' n' _ m' (hsz k x hx) (hr.gr hg') h3 (by omega) ((hP.below hg).below hg'))
    by_cases h2 : op = 2 ∨ op = 3 ∨ op = 4
    · refine wtext_name op nm fr to_ A ks.length c w ?_ h2 ks
      rw [if_pos h2] at hnm
      unfold nameD at hnm
      simp only [Bool.and_eq_true, decide_eq_true_eq] at hnm
      omega
    · by_cases h1 : op = 1
      · subst h1
        exact wtext_1 nm fr to_ A ks.length c w ks
      · by_cases h5 : op = 5
        · subst h5
          rw [if_pos rfl] at hft
          exact wtext_time nm fr to_ A ks.length c w hP hft.1 hft.2.1 hft.2.2 ks
        · by_cases h8 : op = 8
          · subst h8
            have h9 : ks.length = 1 := by simpa [kidsW] using hk
            obtain ⟨x, rfl⟩ := List.length_eq_one_iff.1 h9
            exact wtext_not nm fr to_ x A c vs w hc hcm hr hl (hT 0 x rfl) (fun v W hg hr => cK 0 x v W rfl hg hr)
          · have h67 : op = 6 ∨ op = 7 := by omega
            unfold kidsW at hk
            rw [if_pos h67, decide_eq_true_eq] at hk
            have hle := mayL_le ks _ _ _ hmL
            exact wtext_list op h67 nm fr to_ ks hk (by omega) A c vs w hc hcm hr hl (joinTo_len hmL (by omega) _) cK
set_option maxRecDepth 100000 in
set_option maxHeartbeats 2000000 in
theorem wText_any (x : Sc) (v : Value) (w : World) (hP : Pow w) (hx : RdSc w (· < w.heap.size) x v) (hnm : nmOk x = true) : Calls Tryd.prog 19 #[v] w fun e w' => e = .returned (.tuple #[.string (wa (textW x).1), .int .i64 (textW x).2]) ∧ Gr w w' := by
  have hS := fun m (h : mayS x 24 8 = some m) W (hg : Gr w W) => wtext_n (SizeOf.sizeOf x) x v W 24 8 m (Nat.le_refl _) (hx.gr hg) h (Nat.le_refl _) (hP.below hg)
  have cC := fun W (hg : Gr w W) => scheck_any x v W (hx.gr hg) hnm
  unfold textW
  unfold errW at cC
  obtain ⟨op, nm, fr, to_, ks⟩ := x
  obtain ⟨A, c, vs, rfl, _⟩ := hx.form
  have g1 := Gr.alloc w (.cells #[.int .i64 op, .string nm, .int .i64 fr, .int .i64 to_, .slice A ks.length c] 39)
  have hB := Blk.new w 39 #[.int .i64 op, .string nm, .int .i64 fr, .int .i64 to_, .slice A ks.length c]
  clear hx hP hnm
  cases hm : mayS (.mk op nm fr to_ ks) 24 8 with
  | none =>
    rw [hm] at cC
    rw [if_neg (by simp)] at cC ⊢
    clear hS hm
    go_enter Tryd.func19, Tryd.ntmps19
    go_wp2_with (go_at_call 44; (with_reducible refine (cC _ g1).mono ?_); rintro e w1 ⟨rfl, hb1⟩)
    go_ret2
    exact ⟨rfl, Gr.trans g1 hb1⟩
  | some m =>
    have cT := fun W hg => hS m hm W hg
    rw [hm] at cC
    rw [if_pos (by simp)] at cC ⊢
    generalize textS (.mk op nm fr to_ ks) = t at *
    clear hS hm
    go_enter Tryd.func19, Tryd.ntmps19
    go_wp2_with (first
      | (go_at_call 44; (with_reducible refine (cC _ g1).mono ?_); rintro e w1 ⟨rfl, hb1⟩
         have hg1 := Gr.trans g1 hb1
         obtain ⟨s0, s1, s2, s3, s4⟩ := five_cells (hB.below hb1 hB.lt))
      | (go_at_call 45; (with_reducible refine (cT _ hg1).mono ?_); rintro e w2 ⟨rfl, hb2⟩))
    go_ret2
    exact ⟨rfl, Gr.trans hg1 hb2⟩
set_option maxRecDepth 100000 in
set_option maxHeartbeats 2000000 in
theorem rText_any (x : Sc) (v : Value) (w : World) (hx : RdSc w (· < w.heap.size) x v) (hnm : nmOk x = true) : Calls Tryd.prog 20 #[v] w fun e w' => e = .returned (.tuple #[.string (wa (textW x).1), .int .i64 (textW x).2]) ∧ Gr w w' := by
  have hS := fun m (h : mayS x 24 8 = some m) W (hg : Gr w W) => rtext_n (SizeOf.sizeOf x) x v W 24 8 m (Nat.le_refl _) (hx.gr hg) h (Nat.le_refl _)
  have cC := fun W (hg : Gr w W) => May_any x v W (hx.gr hg) hnm
  unfold textW
  obtain ⟨op, nm, fr, to_, ks⟩ := x
  obtain ⟨A, c, vs, rfl, _⟩ := hx.form
  have g1 := Gr.alloc w (.cells #[.int .i64 op, .string nm, .int .i64 fr, .int .i64 to_, .slice A ks.length c] 39)
  have hB := Blk.new w 39 #[.int .i64 op, .string nm, .int .i64 fr, .int .i64 to_, .slice A ks.length c]
  clear hx hnm
  cases hm : mayS (.mk op nm fr to_ ks) 24 8 with
  | none =>
    rw [hm] at cC
    rw [if_neg (by simp)]
    clear hS hm
    go_enter Tryd.func20, Tryd.ntmps20
    go_wp2_with (go_at_call 46; (with_reducible refine (cC _ g1).mono ?_); rintro e w1 ⟨rfl, hb1⟩)
    go_ret2
    exact ⟨rfl, Gr.trans g1 hb1⟩
  | some m =>
    have cT := fun W hg => hS m hm W hg
    rw [hm] at cC
    rw [if_pos (by simp)]
    generalize textS (.mk op nm fr to_ ks) = t at *
    clear hS hm
    go_enter Tryd.func20, Tryd.ntmps20
    go_wp2_with (first
      | (go_at_call 46; (with_reducible refine (cC _ g1).mono ?_); rintro e w1 ⟨rfl, hb1⟩
         have hg1 := Gr.trans g1 hb1
         obtain ⟨s0, s1, s2, s3, s4⟩ := five_cells (hB.below hb1 hB.lt))
      | (go_at_call 47; (with_reducible refine (cT _ hg1).mono ?_); rintro e w2 ⟨rfl, hb2⟩))
    go_ret2
    exact ⟨rfl, Gr.trans hg1 hb2⟩
end Go.Proofs.YtppnlijeonneeaaDoor

namespace Go.Proofs.YtppnlijeonneeaaDoor
open Go Go.RowKit Go.Sort

theorem splW_len : ∀ l : List UInt8, (splW l).length ≤ l.length + 1 ∧ ∀ a ∈ splW l, a.length ≤ l.length
  | [] => by simp [splW]
  | c :: l => by
    obtain ⟨h1, h2⟩ := splW_len l
    rw [splW]
    split
    · refine ⟨by simp; omega, fun a ha => ?_⟩
      simp only [List.mem_cons] at ha
      rcases ha with rfl | ha
      · simp
      · have := h2 a ha
        simp; omega
    · cases e : splW l with
      | nil => exact absurd e (splW_ne l)
      | cons x r =>
        rw [e] at h1 h2
        refine ⟨by simp [addHd] at h1 ⊢; omega, fun a ha => ?_⟩
        simp only [addHd, List.mem_cons] at ha
        rcases ha with rfl | ha
        · have := h2 x (by simp)
          simp; omega
        · have := h2 a (by simp [ha])
          simp; omega
theorem split_words (s : ByteArray) : Lib.splitB ⟨#[32]⟩ 0 (Lib.countB s ⟨#[32]⟩) s = (splW s.data.toList).map wa := by
  have h := Lib.splitB_data ⟨#[32]⟩ 0 (Lib.countB s ⟨#[32]⟩) s
  have h2 : Lib.splitK [32] 0 (Lib.countB s ⟨#[32]⟩) s.data.toList = splW s.data.toList := by
    rw [← splW_eq]
    rfl
  rw [← h2]
  have h3 : ∀ l : List ByteArray, (l.map (·.data.toList)).map wa = l := fun l => by
    rw [List.map_map]
    conv => rhs; rw [← List.map_id l]
    exact List.map_congr_left fun x _ => data_wa x
  rw [← h3 (Lib.splitB _ _ _ _), h]
/-- What Split leaves. -/
structure SplOk (w : World) (ws : List ByteArray) (w1 : World) : Prop where
  row : Blk w1 (w.heap.size + 1) 9 (ws.map Value.string).toArray
  res : Blk w1 w.heap.size 39 scZ
  gr : Gr w w1
  size : w1.heap.size = w.heap.size + 2
theorem split_any (s : ByteArray) (w : World) (hs : s.size ≤ 2000) (hV : WVars w) :
    Calls Tryd.prog 24 #[.string s, .string ⟨#[32]⟩] (w.alloc (.cells scZ 39)) fun e w' => e = .returned (.slice (some ⟨w.heap.size + 1, 0, none⟩) (splW s.data.toList).length (splW s.data.toList).length) ∧ SplOk w ((splW s.data.toList).map wa) w' := by
  obtain ⟨m, hm⟩ := (hV.gr (Gr.alloc w (.cells scZ 39))).2.2
  have hl := Lib.splitB_all ⟨#[32]⟩ (by decide) 0 _ s rfl
  rw [split_words, List.length_map] at hl
  have hs1 : (w.alloc (.cells scZ 39)).heap.size = w.heap.size + 1 := by simp
  refine (Tryd.strings_Split s ⟨#[32]⟩ m _ (by omega) hm (by decide)).mono ?_
  rintro e w' ⟨rfl, rfl⟩
  rw [split_words, ← hl, hs1]
  have hB := Blk.new (w.alloc (.cells scZ 39)) 9 (((splW s.data.toList).map wa).map Value.string).toArray
  rw [hs1] at hB
  exact ⟨rfl, hB, (Blk.new w _ _).alloc _, Gr.trans (Gr.alloc _ _) (Gr.alloc _ _), by simp⟩
theorem SplOk.env {w w1 : World} {l : List UInt8} (h : SplOk w ((splW l).map wa) w1) (hl : l.length ≤ 2000) (hV : WVars w) :
    EnvW 77 (w1.alloc (.cells #[.slice (some ⟨w.heap.size + 1, 0, none⟩) (splW l).length (splW l).length, .bool false] 77)) (w.heap.size + 2) ⟨(splW l).map wa, false⟩ := by
  rw [← h.size]
  obtain ⟨h1, h2⟩ := splW_len l
  have hlen : ((splW l).map wa).length = (splW l).length := by simp
  refine ⟨⟨some ⟨w.heap.size + 1, 0, none⟩, (splW l).length, ?_, ?_, ?_⟩, ?_, ?_, ?_⟩
  · dsimp only
    rw [hlen]
    exact Blk.new _ _ _
  · dsimp only
    rw [hlen]
    exact ⟨Nat.le_refl _, by unfold maxLen; omega⟩
  · dsimp only
    have hb := rd_blkW h.row (size := ((splW l).map wa).length) (by simp)
    refine ⟨by simp, fun _ => ⟨_, rfl, by show w.heap.size + 1 < w1.heap.size; have := h.size; omega, fun j u hu => ?_⟩⟩
    have e : (⟨w.heap.size + 1, 0, none⟩ : Addr).add j = ⟨w.heap.size + 1, j, none⟩ := by
      unfold Addr.add
      split
      · rename_i h0; simp_all
      · simp
    rw [e, (h.row.alloc _).cell j, ← Array.getElem?_toList, hu]
  · dsimp only; rw [hlen]; omega
  · intro t ht
    obtain ⟨a, ha, rfl⟩ := List.mem_map.1 ht
    have := h2 a ha
    rw [wa_size]; omega
  · exact ⟨w, hV, Gr.trans h.gr (Gr.alloc _ _), by have := h.size; omega⟩
/-- What Parse tells. -/
def PPar (o : Sc × Int) (w : World) (e : Ending) (w' : World) : Prop :=
  ∃ (o_ : Int) (m_ : ByteArray) (f_ t_ : Int) (A_ : Option Addr) (n_ c_ : Nat), e = .returned (.tuple #[.agg (scC o_ m_ f_ t_ A_ n_ c_), .int .i64 o.2]) ∧ RdSc w' (fun b => w.heap.size ≤ b ∧ b < w'.heap.size) o.1 (.agg (scC o_ m_ f_ t_ A_ n_ c_)) ∧ Gr w w'
theorem PPar.fin {w W : World} {o : Sc × Int} {x : Int} {o_ : Int} {m_ : ByteArray} {f_ t_ : Int} {A_ : Option Addr} {n_ c_ : Nat} (hx : x = o.2) (hr : RdSc W (fun b => w.heap.size + 1 ≤ b ∧ b < W.heap.size) o.1 (.agg (scC o_ m_ f_ t_ A_ n_ c_))) (hg : Gr w W) :
    PPar o w (.returned (.tuple #[.agg (scC o_ m_ f_ t_ A_ n_ c_), .int .i64 x])) (set5v W w.heap.size (.int .i64 o_) (.string m_) (.int .i64 f_) (.int .i64 t_) (.slice A_ n_ c_)) :=
  ⟨_, _, _, _, _, _, _, by rw [hx], hr.set5 rfl _ _ _ _ _, Below.setCell (Below.setCell (Below.setCell (Below.setCell (Below.setCell hg (Nat.le_refl _) _) (Nat.le_refl _) _) (Nat.le_refl _) _) (Nat.le_refl _) _) (Nat.le_refl _) _⟩
set_option maxRecDepth 100000 in
set_option maxHeartbeats 2000000 in
theorem wparse_long (s : ByteArray) (w : World) (hs : s.size ≤ 2000) (hl : 1000 < s.size) : Calls Tryd.prog 22 #[.string s] w (PPar (parseW s.data.toList) w) := by
  have hF : PPar (parseW s.data.toList) w (.returned (.tuple #[.agg scZ, .int .i64 3])) (w.alloc (.cells scZ 39)) := by
    have e : parseW s.data.toList = (scN, 3) := by unfold parseW; rw [if_pos (by simpa using hl)]
    rw [e]
    exact ⟨_, _, _, _, _, _, _, rfl, rd_leaf _ _ _ _ _ _, Gr.alloc _ _⟩
  have hB := Blk.new w 39 scZ
  generalize PPar (parseW s.data.toList) w = Post at *
  go_enter Tryd.func22, Tryd.ntmps22
  go_wp2
  obtain ⟨z0, z1, z2, z3, z4, -⟩ := five_cells5 hB
  exact bodyPost_ret (v := .tuple #[.agg scZ, .int .i64 3]) (by simp [results, Tryd.results22, go_sem, z0, z1, z2, z3, z4]) rfl hF
set_option maxRecDepth 100000 in
set_option maxHeartbeats 8000000 in
theorem wparse_short (s : ByteArray) (w : World) (hV : WVars w) (hl : s.size ≤ 1000) : Calls Tryd.prog 22 #[.string s] w (PPar (parseW s.data.toList) w) := by
  have hls : s.data.toList.length = s.size := by simp
  have hp : parseW s.data.toList = if (wholeW 41 ⟨(splW s.data.toList).map wa, false⟩).2.fail = true ∨ (wholeW 41 ⟨(splW s.data.toList).map wa, false⟩).2.l ≠ [] then (scN, 2) else
      if (mayS (wholeW 41 ⟨(splW s.data.toList).map wa, false⟩).1 24 8).isSome = true then ((wholeW 41 ⟨(splW s.data.toList).map wa, false⟩).1, 0) else (scN, 1) := by
    unfold parseW
    rw [if_neg (by omega)]
  have cS := split_any s w (by omega) hV
  have hEnv : ∀ w1, SplOk w ((splW s.data.toList).map wa) w1 → EnvW 77 (w1.alloc (.cells #[.slice (some ⟨w.heap.size + 1, 0, none⟩) (splW s.data.toList).length (splW s.data.toList).length, .bool false] 77)) (w.heap.size + 2) ⟨(splW s.data.toList).map wa, false⟩ := fun w1 h => h.env (by omega) hV
  have cW : ∀ w1, SplOk w ((splW s.data.toList).map wa) w1 → Calls Tryd.prog 48 #[.pointer (some ⟨w.heap.size + 2, 0, none⟩), .int .i64 41] (w1.alloc (.cells #[.slice (some ⟨w.heap.size + 1, 0, none⟩) (splW s.data.toList).length (splW s.data.toList).length, .bool false] 77))
      (PW 77 (w1.alloc (.cells #[.slice (some ⟨w.heap.size + 1, 0, none⟩) (splW s.data.toList).length (splW s.data.toList).length, .bool false] 77)) (w.heap.size + 2) (wholeW 41 ⟨(splW s.data.toList).map wa, false⟩)) := fun w1 h => wwhole_41 (hEnv w1 h)
  have hnm := whole_nm 41 ⟨(splW s.data.toList).map wa, false⟩
  unfold PW at cW
  generalize hPost : PPar (parseW s.data.toList) w = Post at *
  have hF : ∀ W o_ m_ f_ t_ A_ n_ c_ x, x = (parseW s.data.toList).2 → RdSc W (fun b => w.heap.size + 1 ≤ b ∧ b < W.heap.size) (parseW s.data.toList).1 (.agg (scC o_ m_ f_ t_ A_ n_ c_)) → Gr w W → Post (.returned (.tuple #[.agg (scC o_ m_ f_ t_ A_ n_ c_), .int .i64 x])) (set5v W w.heap.size (.int .i64 o_) (.string m_) (.int .i64 f_) (.int .i64 t_) (.slice A_ n_ c_)) := by
    rw [← hPost]
    exact fun W o_ m_ f_ t_ A_ n_ c_ x hx hr hg => PPar.fin hx hr hg
  have HF := Lib.hid hF
  clear hF hPost hEnv
  rw [hp] at HF
  clear hp
  generalize (splW s.data.toList).map wa = ws at *
  generalize (splW s.data.toList).length = N at *
  generalize wholeW 41 ⟨ws, false⟩ = o at *
  obtain ⟨x, ⟨L, f⟩⟩ := o
  dsimp only at *
  by_cases hf : f = true ∨ L ≠ []
  · rw [if_pos hf] at HF
    have HG := Lib.hid (fun W hg => HF.out W 0 ⟨#[]⟩ 0 0 none 0 0 2 rfl (rd_leaf _ _ _ _ _ _) hg)
    clear HF
    rcases (by cases f; exact .inr ⟨rfl, by simpa using hf⟩; exact .inl rfl : f = true ∨ (f = false ∧ L ≠ [])) with rfl | ⟨rfl, hL⟩
    · clear hf hnm
      go_enter Tryd.func22, Tryd.ntmps22
      go_wp2_with (first
        | (go_at_call 24; (with_reducible refine cS.mono ?_); rintro e w1 ⟨rfl, hsp⟩
           have hz := hsp.size)
        | (go_at_call 48; (with_reducible refine (cW _ hsp).mono ?_); rintro e w2 ⟨o_, m_, f_, t_, A_, n_, c_, x', rfl, hr2, he2, hm2⟩
           have hGn := Gr.alloc w2 (.cells (scC o_ m_ f_ t_ A_ n_ c_) 39)
           have hm3 := hm2.gr hGn
           obtain ⟨LA, lc, g0, g1, gf0, gf1, ⟨hlc, hlm⟩, -⟩ := hm3.1.cells
           have hB5 := (hsp.res.alloc (.cells #[.slice (some ⟨w.heap.size + 1, 0, none⟩) N N, .bool false] 77)).xW hm3.2 (by omega)
           obtain ⟨r0, r1, r2, r3, r4, q0, q1, q2, q3, q4⟩ := five_cells5 hB5
           have hG9 := gr_x (Gr.trans hsp.gr (Gr.alloc _ _)) hm3.2 (by omega)))
      obtain ⟨z0, z1, z2, z3, z4, -⟩ := five_cells5 (hB5.put5 (y0 := .int .i64 0) (y1 := .string ⟨#[]⟩) (y2 := .int .i64 0) (y3 := .int .i64 0) (y4 := .slice none 0 0))
      exact bodyPost_ret (v := .tuple #[.agg scZ, .int .i64 2]) (by simp [results, Tryd.results22, go_sem, z0, z1, z2, z3, z4]) rfl (HG.out _ hG9)
    · have hLl : 0 < L.length := List.length_pos_iff.2 hL
      have hL0 : ¬ L.length = 0 := by omega
      clear hf hnm hL
      generalize hLe : L.length = k at *
      go_enter Tryd.func22, Tryd.ntmps22
      go_wp2_with (first
        | (go_at_call 24; (with_reducible refine cS.mono ?_); rintro e w1 ⟨rfl, hsp⟩
           have hz := hsp.size)
        | (go_at_call 48; (with_reducible refine (cW _ hsp).mono ?_); rintro e w2 ⟨o_, m_, f_, t_, A_, n_, c_, x', rfl, hr2, he2, hm2⟩
           have hGn := Gr.alloc w2 (.cells (scC o_ m_ f_ t_ A_ n_ c_) 39)
           have hm3 := hm2.gr hGn
           obtain ⟨LA, lc, g0, g1, gf0, gf1, ⟨hlc, hlm⟩, -⟩ := hm3.1.cells
           dsimp only at g0 g1 hlc
           rw [hLe] at g0 hlc
           have hB5 := (hsp.res.alloc (.cells #[.slice (some ⟨w.heap.size + 1, 0, none⟩) N N, .bool false] 77)).xW hm3.2 (by omega)
           obtain ⟨r0, r1, r2, r3, r4, q0, q1, q2, q3, q4⟩ := five_cells5 hB5
           have hG9 := gr_x (Gr.trans hsp.gr (Gr.alloc _ _)) hm3.2 (by omega)))
      all_goals (try (exfalso; omega))
      obtain ⟨z0, z1, z2, z3, z4, -⟩ := five_cells5 (hB5.put5 (y0 := .int .i64 0) (y1 := .string ⟨#[]⟩) (y2 := .int .i64 0) (y3 := .int .i64 0) (y4 := .slice none 0 0))
      exact bodyPost_ret (v := .tuple #[.agg scZ, .int .i64 2]) (by simp [results, Tryd.results22, go_sem, z0, z1, z2, z3, z4]) rfl (HG.out _ hG9)
  · rw [if_neg hf] at HF
    obtain ⟨rfl, rfl⟩ : f = false ∧ L = [] := by
      refine ⟨?_, Classical.byContradiction fun h => hf (.inr h)⟩
      cases f with
      | false => rfl
      | true => exact absurd (.inl rfl) hf
    clear hf
    have cC : ∀ W v, RdSc W (· < W.heap.size) x v → Calls Tryd.prog 44 #[v] W fun e w' => e = .returned (.int .i64 (errW (mayS x 24 8))) ∧ Gr W w' := fun W v hr => scheck_any x v W hr hnm
    unfold errW at cC
    clear hnm
    cases hb : (mayS x 24 8).isSome with
    | true =>
      rw [hb, if_pos rfl] at HF cC
      clear hb
      go_enter Tryd.func22, Tryd.ntmps22
      go_wp2_with (first
        | (go_at_call 24; (with_reducible refine cS.mono ?_); rintro e w1 ⟨rfl, hsp⟩
           have hz := hsp.size)
        | (go_at_call 48; (with_reducible refine (cW _ hsp).mono ?_); rintro e w2 ⟨o_, m_, f_, t_, A_, n_, c_, x', rfl, hr2, he2, hm2⟩
           obtain rfl := he2 (by first | rfl | trivial)
           have hGn := Gr.alloc w2 (.cells (scC o_ m_ f_ t_ A_ n_ c_) 39)
           have hm3 := hm2.gr hGn
           obtain ⟨LA, lc, g0, g1, gf0, gf1, ⟨hlc, hlm⟩, -⟩ := hm3.1.cells
           obtain ⟨k0, k1, k2, k3, k4, -⟩ := five_cells5 (Blk.new w2 39 (scC o_ m_ f_ t_ A_ n_ c_))
           have hrx : RdSc (w2.alloc (.cells (scC o_ m_ f_ t_ A_ n_ c_) 39)) (fun b => w.heap.size + 1 ≤ b ∧ b < (w2.alloc (.cells (scC o_ m_ f_ t_ A_ n_ c_) 39)).heap.size) x' (.agg (scC o_ m_ f_ t_ A_ n_ c_)) := RdSc.mono (fun b hb => ⟨by have := hb.1; simp at this; omega, Nat.lt_of_lt_of_le hb.2 hGn.size⟩) _ _ (RdSc.keep (fun p hp => hGn.cell hp.2) _ _ hr2)
           have hrc := RdSc.mono (K' := fun b => b < (w2.alloc (.cells (scC o_ m_ f_ t_ A_ n_ c_) 39)).heap.size) (fun _ hb => hb.2) _ _ hrx
           have hB5 := (hsp.res.alloc (.cells #[.slice (some ⟨w.heap.size + 1, 0, none⟩) N N, .bool false] 77)).xW hm3.2 (by omega)
           have hG9 := gr_x (Gr.trans hsp.gr (Gr.alloc _ _)) hm3.2 (by omega))
        | (go_at_call 44; (with_reducible refine (cC _ _ hrc).mono ?_); rintro e w7 ⟨rfl, hb7⟩
           obtain ⟨j0, j1, j2, j3, j4, -⟩ := five_cells5 ((Blk.new w2 39 (scC o_ m_ f_ t_ A_ n_ c_)).below hb7 (Blk.new w2 _ _).lt)
           have hB7 := hB5.below hb7 hB5.lt
           obtain ⟨r0, r1, r2, r3, r4, q0, q1, q2, q3, q4⟩ := five_cells5 hB7
           have hG7 := Gr.trans hG9 hb7
           have hr7 : RdSc w7 (fun b => w.heap.size + 1 ≤ b ∧ b < w7.heap.size) x' (.agg (scC o_ m_ f_ t_ A_ n_ c_)) := RdSc.mono (fun b hb => ⟨hb.1, Nat.lt_of_lt_of_le hb.2 hb7.size⟩) _ _ (RdSc.keep (fun p hp => hb7.cell hp.2) _ _ hrx)))
      obtain ⟨z0, z1, z2, z3, z4, -⟩ := five_cells5 (hB7.put5 (y0 := .int .i64 o_) (y1 := .string m_) (y2 := .int .i64 f_) (y3 := .int .i64 t_) (y4 := .slice A_ n_ c_))
      exact bodyPost_ret (v := .tuple #[.agg (scC o_ m_ f_ t_ A_ n_ c_), .int .i64 0]) (by simp [results, Tryd.results22, go_sem, z0, z1, z2, z3, z4]) rfl (HF.out w7 o_ m_ f_ t_ A_ n_ c_ 0 rfl hr7 hG7)
    | false =>
      rw [hb, if_neg (by simp)] at HF cC
      clear hb
      have HG := Lib.hid (fun W hg => HF.out W 0 ⟨#[]⟩ 0 0 none 0 0 1 rfl (rd_leaf _ _ _ _ _ _) hg)
      clear HF
      go_enter Tryd.func22, Tryd.ntmps22
      go_wp2_with (first
        | (go_at_call 24; (with_reducible refine cS.mono ?_); rintro e w1 ⟨rfl, hsp⟩
           have hz := hsp.size)
        | (go_at_call 48; (with_reducible refine (cW _ hsp).mono ?_); rintro e w2 ⟨o_, m_, f_, t_, A_, n_, c_, x', rfl, hr2, he2, hm2⟩
           obtain rfl := he2 (by first | rfl | trivial)
           have hGn := Gr.alloc w2 (.cells (scC o_ m_ f_ t_ A_ n_ c_) 39)
           have hm3 := hm2.gr hGn
           obtain ⟨LA, lc, g0, g1, gf0, gf1, ⟨hlc, hlm⟩, -⟩ := hm3.1.cells
           obtain ⟨k0, k1, k2, k3, k4, -⟩ := five_cells5 (Blk.new w2 39 (scC o_ m_ f_ t_ A_ n_ c_))
           have hrc : RdSc (w2.alloc (.cells (scC o_ m_ f_ t_ A_ n_ c_) 39)) (fun b => b < (w2.alloc (.cells (scC o_ m_ f_ t_ A_ n_ c_) 39)).heap.size) x' (.agg (scC o_ m_ f_ t_ A_ n_ c_)) := RdSc.mono (fun b hb => Nat.lt_of_lt_of_le hb.2 hGn.size) _ _ (RdSc.keep (fun p hp => hGn.cell hp.2) _ _ hr2)
           have hB5 := (hsp.res.alloc (.cells #[.slice (some ⟨w.heap.size + 1, 0, none⟩) N N, .bool false] 77)).xW hm3.2 (by omega)
           have hG9 := gr_x (Gr.trans hsp.gr (Gr.alloc _ _)) hm3.2 (by omega))
        | (go_at_call 44; (with_reducible refine (cC _ _ hrc).mono ?_); rintro e w7 ⟨rfl, hb7⟩
           have hB7 := hB5.below hb7 hB5.lt
           obtain ⟨r0, r1, r2, r3, r4, q0, q1, q2, q3, q4⟩ := five_cells5 hB7
           have hG7 := Gr.trans hG9 hb7))
      obtain ⟨z0, z1, z2, z3, z4, -⟩ := five_cells5 (hB7.put5 (y0 := .int .i64 0) (y1 := .string ⟨#[]⟩) (y2 := .int .i64 0) (y3 := .int .i64 0) (y4 := .slice none 0 0))
      exact bodyPost_ret (v := .tuple #[.agg scZ, .int .i64 1]) (by simp [results, Tryd.results22, go_sem, z0, z1, z2, z3, z4]) rfl (HG.out w7 hG7)
theorem wparse_any (s : ByteArray) (w : World) (hV : WVars w) (hs : s.size ≤ 2000) : Calls Tryd.prog 22 #[.string s] w (PPar (parseW s.data.toList) w) := by
  by_cases hl : 1000 < s.size
  · exact wparse_long s w hs hl
  · exact wparse_short s w hV (by omega)
end Go.Proofs.YtppnlijeonneeaaDoor

namespace Go.Proofs.YtppnlijeonneeaaDoor
open Go Go.RowKit Go.Deep Go.ChangeShapes Go.WideShapes

theorem kids_ofS {w : World} {K : Nat → Prop} {a : Addr} : ∀ (len s : Nat), (∀ i, s ≤ i → i < s + len → ∃ (e : Sc) (v0 v1 v2 v3 v4 : Value), w.cell? (a.add (i * 5)) = some v0 ∧ w.cell? (a.add (i * 5 + 1)) = some v1 ∧ w.cell? (a.add (i * 5 + 2)) = some v2 ∧ w.cell? (a.add (i * 5 + 3)) = some v3 ∧ w.cell? (a.add (i * 5 + 4)) = some v4 ∧ RdSc w K e (.agg #[v0, v1, v2, v3, v4])) →
    ∃ (ks : List Sc) (vs : List Value), ks.length = len ∧ vs.length = len * 5 ∧ (∀ j u, vs[j]? = some u → w.cell? (a.add (s * 5 + j)) = some u) ∧ RdScL w K ks vs
  | 0, s, _ => ⟨[], [], rfl, rfl, fun j u h => by simp at h, by rw [RdScL]⟩
  | len + 1, s, h => by
    obtain ⟨e, v0, v1, v2, v3, v4, h0, h1, h2, h3, h4, he⟩ := h s (Nat.le_refl _) (by omega)
    obtain ⟨ks, vs, hk, hv, hc, hl⟩ := kids_ofS len (s + 1) (fun i h1 h2 => h i (by omega) (by omega))
    refine ⟨e :: ks, v0 :: v1 :: v2 :: v3 :: v4 :: vs, by simp [hk], by simp [hv]; omega, fun j u hu => ?_, by rw [RdScL]; exact ⟨v0, v1, v2, v3, v4, vs, rfl, he, hl⟩⟩
    match j, hu with
    | 0, hu => simp at hu; subst hu; exact h0
    | 1, hu => simp at hu; subst hu; exact h1
    | 2, hu => simp at hu; subst hu; exact h2
    | 3, hu => simp at hu; subst hu; exact h3
    | 4, hu => simp at hu; subst hu; exact h4
    | j + 5, hu =>
      simp at hu
      have := hc j u hu
      rwa [show (s + 1) * 5 + j = s * 5 + (j + 5) by omega] at this
section
variable {H : Type} {enc : TypeId × Value → H} {w : World} {spare : Nat → Bool} {held : Bool}
theorem cellsSc : Tryd.prog.cellsOf 39 = 5 := by kernel_rfl
theorem cellsIn : Tryd.prog.cellsOf 3 = 1 := by kernel_rfl
theorem cellsStr : Tryd.prog.cellsOf 9 = 1 := by kernel_rfl
theorem cellsScl : Tryd.prog.cellsOf 37 = 1 := by kernel_rfl
set_option maxRecDepth 100000 in
theorem sc_of_trod : ∀ (F fuel : Nat) (cs : List Value) (x : DataW H × List MemPlace), fuel ≤ F → DataW.trod enc Tryd.prog w 0 spare held fuel 39 cs = some x →
    ∃ (e : Sc) (v0 v1 v2 v3 v4 : Value), cs = [v0, v1, v2, v3, v4] ∧ RdSc w (· < w.heap.size) e (.agg #[v0, v1, v2, v3, v4])
  | 0, fuel, cs, x, hF, h => by
    obtain ⟨xs, n, hn, _⟩ := DataW.trod_struct Tryd.underlying39 h
    omega
  | F + 1, fuel, cs, x, hF, h => by
    have ih := sc_of_trod F
    obtain ⟨xs, n, hn, hx, hl, hlen, hf⟩ := DataW.trod_struct Tryd.underlying39 h
    rw [cellsSc] at hl
    match cs, hl with
    | [c0, c1, c2, c3, c4], _ =>
      match xs, hlen with
      | [y0, y1, y2, y3, y4], _ =>
        have t0 : DataW.trod enc Tryd.prog w 0 spare held n 3 [c0] = some y0 := by have := hf 0 _ rfl; simpa [cellsIn] using this
        have t1 : DataW.trod enc Tryd.prog w 0 spare held n 9 [c1] = some y1 := by have := hf 1 _ rfl; simpa [cellsStr] using this
        have t2 : DataW.trod enc Tryd.prog w 0 spare held n 3 [c2] = some y2 := by have := hf 2 _ rfl; simpa [cellsIn] using this
        have t3 : DataW.trod enc Tryd.prog w 0 spare held n 3 [c3] = some y3 := by have := hf 3 _ rfl; simpa [cellsIn] using this
        have t4 : DataW.trod enc Tryd.prog w 0 spare held n 37 [c4] = some y4 := by have := hf 4 _ rfl; simpa [cellsScl] using this
        obtain ⟨o, e0, _, _⟩ := DataW.trod_int Tryd.underlying3 t0
        obtain ⟨s, e1, _, _⟩ := DataW.trod_string Tryd.underlying9 t1
        obtain ⟨f, e2, _, _⟩ := DataW.trod_int Tryd.underlying3 t2
        obtain ⟨t, e3, _, _⟩ := DataW.trod_int Tryd.underlying3 t3
        simp only [List.cons.injEq, and_true] at e0 e1 e2 e3
        subst e0 e1 e2 e3
        subst hx
        rcases DataW.trod_slice Tryd.underlying37 t4 with ⟨e4, _⟩ | ⟨a, len, cap, elems, rest, n', hn', e4, hy4, _, hlc, hcm, hel, hall, _, _⟩
        · simp only [List.cons.injEq, and_true] at e4
          subst e4
          refine ⟨.mk o s f t [], _, _, _, _, _, rfl, ?_⟩
          rw [RdSc]
          exact ⟨none, 0, [], rfl, ⟨Nat.le_refl _, Nat.zero_le _⟩, Rk.nil _ _ _ _, by rw [RdScL]⟩
        · simp only [List.cons.injEq, and_true] at e4
          subst e4
          have hkid : ∀ i, 0 ≤ i → i < 0 + len → ∃ (e : Sc) (v0 v1 v2 v3 v4 : Value), w.cell? (a.add (i * 5)) = some v0 ∧ w.cell? (a.add (i * 5 + 1)) = some v1 ∧ w.cell? (a.add (i * 5 + 2)) = some v2 ∧ w.cell? (a.add (i * 5 + 3)) = some v3 ∧ w.cell? (a.add (i * 5 + 4)) = some v4 ∧ RdSc w (· < w.heap.size) e (.agg #[v0, v1, v2, v3, v4]) := by
            intro i _ hi
            have hi : i < len := by omega
            have h1 := hall i hi
            rw [List.getElem?_eq_getElem (by omega : i < elems.length), Option.bind_eq_some_iff, cellsSc] at h1
            obtain ⟨cs', hc', ht'⟩ := h1
            obtain ⟨_, hcl, hat⟩ := World.cells?_some hc'
            obtain ⟨e, v0, v1, v2, v3, v4, rfl, hr⟩ := ih n' cs' _ (by omega) ht'
            refine ⟨e, v0, v1, v2, v3, v4, ?_, ?_, ?_, ?_, ?_, hr⟩
            · have := hat 0 (by omega); simpa [Addr.add] using this
            · have := hat 1 (by omega); rw [add_of_add] at this; simpa using this
            · have := hat 2 (by omega); rw [add_of_add] at this; simpa using this
            · have := hat 3 (by omega); rw [add_of_add] at this; simpa using this
            · have := hat 4 (by omega); rw [add_of_add] at this; simpa using this
          obtain ⟨ks, vs, hkl, hvl, hcells, hL⟩ := kids_ofS len 0 hkid
          refine ⟨.mk o s f t ks, _, _, _, _, _, rfl, ?_⟩
          rw [RdSc]
          subst hkl
          refine ⟨some a, cap, vs, rfl, ⟨hlc, hcm⟩, ⟨hvl, fun h0 => ⟨a, rfl, ?_, fun j u hu => ?_⟩⟩, hL⟩
          · obtain ⟨e, v0, v1, v2, v3, v4, h0', _⟩ := hkid 0 (Nat.le_refl _) (by omega)
            have := block_lt_of_cell h0'
            rwa [block_of_add] at this
          · have := hcells j u hu
            rwa [Nat.zero_mul, Nat.zero_add] at this
end
set_option maxRecDepth 100000 in
theorem sc_of_Trod {H : Type} {enc : TypeId × Value → H} {w : World} {spare : Nat → Bool} {held : Bool} {r : Reach} {b0 : Nat} {v : Value} {d : DataW H} {p : List MemPlace} (hv : Value.okWide Tryd.prog w r b0 39 v) (h : DataW.Trod enc Tryd.prog w 0 spare held 39 v d p) :
    ∃ (x : Sc) (o : Int) (m : ByteArray) (f t : Int) (A : Option Addr) (n c : Nat), v = .agg #[.int .i64 o, .string m, .int .i64 f, .int .i64 t, .slice A n c] ∧ RdSc w (· < w.heap.size) x (.agg #[.int .i64 o, .string m, .int .i64 f, .int .i64 t, .slice A n c]) := by
  obtain ⟨cs, rfl, hsz⟩ := okWide_struct Tryd.underlying39 hv
  obtain ⟨fuel, hf⟩ := h
  obtain ⟨x, v0, v1, v2, v3, v4, hcs, hr⟩ := sc_of_trod fuel fuel _ _ (Nat.le_refl _) hf
  obtain rfl : cs = #[v0, v1, v2, v3, v4] := by simpa [Value.cells] using congrArg List.toArray hcs
  obtain ⟨op, nm, fr, to_, ks⟩ := x
  obtain ⟨A, c, vs, he, _⟩ := hr.form
  rw [he] at hr ⊢
  exact ⟨_, _, _, _, _, _, _, _, rfl, hr⟩
theorem wvars_of {W : World} (hP : Pow W) (hE : Errs W) (h : W.ShapedOpen Tryd.prog) : WVars W := ⟨hP, hE, cell_of_shapedOpen_int (zero := #[.int .i64 0]) (t := 3) h (of_decide_eq_true (by kernel_rfl)) (by kernel_rfl) rfl (by kernel_rfl) (by kernel_rfl) Tryd.underlying3⟩
end Go.Proofs.YtppnlijeonneeaaDoor

namespace Go.Proofs.YtppnlijeonneeaaDoor
open Go Go.RowKit Go.Sort

/-- Where the search for blanks stands: words so far, where the next begins, where one looks. -/
def WordTo (l : List UInt8) (ws : List (List UInt8)) (b i : Nat) : Prop :=
  (i ≤ l.length ∧ b ≤ i ∧ splW l = ws ++ splW (l.drop b) ∧ ∀ (j : Nat) (c : UInt8), b ≤ j → j < i → l[j]? = some c → c ≠ 32) ∨ (i = l.length + 1 ∧ ws = splW l)
theorem WordTo.start (l : List UInt8) : WordTo l [] 0 0 := .inl ⟨Nat.zero_le _, Nat.le_refl _, rfl, fun _ _ _ h => absurd h (by omega)⟩
theorem seg_no {l : List UInt8} {b i : Nat} (h : ∀ (j : Nat) (c : UInt8), b ≤ j → j < i → l[j]? = some c → c ≠ 32) : ∀ c ∈ (l.take i).drop b, c ≠ 32 := by
  intro c hc
  obtain ⟨j, hj⟩ := List.getElem?_of_mem hc
  rw [List.getElem?_drop, List.getElem?_take] at hj
  split at hj
  · rename_i hlt
    exact h (b + j) c (by omega) hlt hj
  · cases hj
theorem WordTo.blank {l : List UInt8} {ws : List (List UInt8)} {b i : Nat} (h : WordTo l ws b i) (hi : i < l.length) (h32 : l[i]? = some 32) : WordTo l (ws ++ [(l.take i).drop b]) (i + 1) (i + 1) := by
  rcases h with ⟨h1, h2, h3, h4⟩ | ⟨h1, _⟩
  · refine .inl ⟨by omega, Nat.le_refl _, ?_, fun j c hb hj => absurd hj (by omega)⟩
    have e : l.drop b = (l.take i).drop b ++ 32 :: l.drop (i + 1) := by
      obtain ⟨hl, e0⟩ := List.getElem?_eq_some_iff.1 h32
      have e1 : l = l.take i ++ 32 :: l.drop (i + 1) := by
        conv => lhs; rw [← List.take_append_drop i l, List.drop_eq_getElem_cons hl, e0]
      conv => lhs; rw [e1]
      rw [List.drop_append_of_le_length (by rw [List.length_take]; omega)]
    rw [h3, e, splW_app _ _ (seg_no h4), List.append_assoc]
    rfl
  · omega
theorem WordTo.last {l : List UInt8} {ws : List (List UInt8)} {b : Nat} (h : WordTo l ws b l.length) : WordTo l (ws ++ [(l.take l.length).drop b]) (l.length + 1) (l.length + 1) := by
  rcases h with ⟨h1, h2, h3, h4⟩ | ⟨h1, _⟩
  · refine .inr ⟨rfl, ?_⟩
    have h5 := seg_no h4
    rw [List.take_of_length_le (Nat.le_refl _)] at h5 ⊢
    rw [h3, splW_word _ h5]
  · omega
theorem WordTo.on {l : List UInt8} {ws : List (List UInt8)} {b i : Nat} {c : UInt8} (h : WordTo l ws b i) (hi : i < l.length) (hc : l[i]? = some c) (h32 : c ≠ 32) : WordTo l ws b (i + 1) := by
  rcases h with ⟨h1, h2, h3, h4⟩ | ⟨h1, _⟩
  · refine .inl ⟨by omega, by omega, h3, fun j c' hb hj hc' => ?_⟩
    by_cases e : j = i
    · subst e
      rw [hc] at hc'
      cases hc'
      exact h32
    · exact h4 j c' hb (by omega) hc'
  · omega
theorem WordTo.begin_ {l : List UInt8} {ws : List (List UInt8)} {b i : Nat} (h : WordTo l ws b i) (hi : i ≤ l.length) : b ≤ i := by
  rcases h with ⟨_, h2, _⟩ | ⟨h1, _⟩
  · exact h2
  · omega
theorem WordTo.done {l : List UInt8} {ws : List (List UInt8)} {b i : Nat} (h : WordTo l ws b i) (hi : l.length < i) : ws = splW l := by
  rcases h with ⟨h1, _⟩ | ⟨_, h⟩
  · omega
  · exact h
theorem WordTo.le {l : List UInt8} {ws : List (List UInt8)} {b i : Nat} (h : WordTo l ws b i) : i ≤ l.length + 1 := by
  rcases h with ⟨h1, _⟩ | ⟨h1, _⟩ <;> omega
theorem ext_mid (a : ByteArray) (b i : Nat) : a.extract b i = wa ((a.data.toList.take i).drop b) := by
  rw [← data_wa (a.extract b i), ByteArray.data_extract, Array.toList_extract]
  simp [List.extract_eq_take_drop, List.drop_take]
/-- Where the loop of Words stands. -/
def WordsAt (s : ByteArray) (w : World) (v3 v4 v5 : Value) (wr : World) : Prop :=
  ∃ (ws : List (List UInt8)) (b i : Nat) (A : Option Addr) (c : Nat), v5 = .int .i64 (i : Int) ∧ v4 = .int .i64 (b : Int) ∧ v3 = .slice A ws.length c ∧ OwnT wr w.heap.size v3 (ws.map wa) ∧ WordTo s.data.toList ws b i ∧ Gr w wr ∧ ws.length ≤ i
set_option maxRecDepth 100000 in
set_option maxHeartbeats 2000000 in
theorem swords_any (s : ByteArray) (w : World) (hs : s.size ≤ 5000) : Calls Tryd.prog 29 #[.string s] w fun e w' => (∃ v, e = .returned v ∧ OwnT w' w.heap.size v ((splW s.data.toList).map wa)) ∧ Gr w w' := by
  have hls : s.data.toList.length = s.size := by simp
  have hfin : ∀ v wr ws, ws = splW s.data.toList → OwnT wr w.heap.size v (ws.map wa) → Gr w wr → (∃ v', Ending.returned v = .returned v' ∧ OwnT wr w.heap.size v' ((splW s.data.toList).map wa)) ∧ Gr w wr :=
    fun v wr ws h h2 h3 => ⟨⟨v, rfl, by rw [← h]; exact h2⟩, h3⟩
  have HFin := Lib.hid hfin
  clear hfin
  go_enter Tryd.func29, Tryd.ntmps29
  go_wp2
  go_loopw [3, 4, 5] (fun v3 v4 v5 wr => WordsAt s w v3 v4 v5 wr) (fun _ _ v5 _ => s.size + 2 - (intOf v5).toNat)
  case atStart => exact ⟨[], 0, 0, none, 0, rfl, rfl, rfl, OwnT.nil _ _, WordTo.start _, Gr.refl _, Nat.zero_le _⟩
  case round =>
    obtain ⟨ws, b, i, A3, c3, rfl, rfl, rfl, hO, hT, hgw, hwi⟩ := hrel
    have hile := hT.le
    rw [hls] at hile
    by_cases hlt : i < s.size
    · have hbi := hT.begin_ (by omega)
      have hget : s.data.toList[i]? = some (s[i]'hlt) := by
        rw [List.getElem?_eq_getElem (by omega)]
        rfl
      by_cases h32 : s[i]'hlt = 32
      · have m0 : (((s[i]'hlt).toNat : Int) == 32) = true := by simp [h32]
        have hT2 := hT.blank (by omega) (by rw [hget, h32])
        have hS := (ext_mid s b i).symm
        have HT := Lib.hid hT2
        have HS := Lib.hid hS
        have n1 : (i : Int) ≠ (s.size : Int) := by omega
        have f1 : ¬ i < b := by omega
        have f2 : ¬ s.size < i := by omega
        have hwl : (ws.map wa).length ≤ 100000 := by rw [List.length_map]; omega
        clear hT hT2 hS
        have hGn := Gr.alloc wr (.cells #[.string (s.extract b i)] 9)
        have hBn := Blk.new wr 9 #[.string (s.extract b i)]
        have hO5 := hO.gr hGn
        have hle : w.heap.size ≤ (wr.alloc (.cells #[.string (s.extract b i)] 9)).heap.size := by have h1 := hgw.size; have h2 := hGn.size; omega
        have hg5 := Gr.trans hgw hGn
        go_wp2_with (first
          | (at_builtin
             go_loud (refine wpList_appendT _ rfl (.tmp 22) (.tmp 27) rfl w.heap.size _ (ws.map wa) rfl hO5 (s.extract b i) _ rfl hBn hwl hle ?_)
             intro v6 w6 hO6 hb6
             obtain ⟨A6, c6, hv6⟩ := hO6.vform
             rw [List.length_append, List.length_map, List.length_singleton] at hv6
             subst hv6))
        all_goals (try (exfalso; omega))
        go_roundw
        case rel => exact ⟨ws ++ [(s.data.toList.take i).drop b], i + 1, i + 1, A6, c6, by go_num, by go_num, by simp, by rw [List.map_append, List.map_singleton, HS.out]; exact hO6, HT.out, Below.trans hg5 hb6, by simp; omega⟩
        case measure => simp [intOf]; omega
      · have m0 : (((s[i]'hlt).toNat : Int) == 32) = false := by
          have : (s[i]'hlt).toNat ≠ 32 := fun e1 => h32 (UInt8.toNat_inj.mp e1)
          simpa using (by omega : ¬ (((s[i]'hlt).toNat : Int) = 32))
        have hT2 := hT.on (by omega) hget h32
        have HT := Lib.hid hT2
        have n1 : (i : Int) ≠ (s.size : Int) := by omega
        clear hT hT2
        go_wp2
        all_goals (try (exfalso; omega))
        go_roundw
        case rel => exact ⟨ws, b, i + 1, A3, c3, by go_num, rfl, rfl, hO, HT.out, hgw, by omega⟩
        case measure => simp [intOf]; omega
    · by_cases hie : i = s.size
      · subst hie
        have hbi := hT.begin_ (by omega)
        rw [← hls] at hT
        have hT2 := hT.last
        rw [hls] at hT2
        have hS := (ext_mid s b s.size).symm
        have HT := Lib.hid hT2
        have HS := Lib.hid hS
        have f1 : ¬ s.size < b := by omega
        have hwl : (ws.map wa).length ≤ 100000 := by rw [List.length_map]; omega
        clear hT hT2 hS hlt hile
        have hGn := Gr.alloc wr (.cells #[.string (s.extract b s.size)] 9)
        have hBn := Blk.new wr 9 #[.string (s.extract b s.size)]
        have hO5 := hO.gr hGn
        have hle : w.heap.size ≤ (wr.alloc (.cells #[.string (s.extract b s.size)] 9)).heap.size := by have h1 := hgw.size; have h2 := hGn.size; omega
        have hg5 := Gr.trans hgw hGn
        go_wp2_with (first
          | (at_builtin
             go_loud (refine wpList_appendT _ rfl (.tmp 22) (.tmp 27) rfl w.heap.size _ (ws.map wa) rfl hO5 (s.extract b s.size) _ rfl hBn hwl hle ?_)
             intro v6 w6 hO6 hb6
             obtain ⟨A6, c6, hv6⟩ := hO6.vform
             rw [List.length_append, List.length_map, List.length_singleton] at hv6
             subst hv6))
        all_goals (try (exfalso; omega))
        go_roundw
        case rel => exact ⟨ws ++ [(s.data.toList.take s.size).drop b], s.size + 1, s.size + 1, A6, c6, by go_num, by go_num, by simp, by rw [List.map_append, List.map_singleton, HS.out]; exact hO6, HT.out, Below.trans hg5 hb6, by simp; omega⟩
        case measure => simp [intOf]
      · have hd := hT.done (by omega)
        have hgt : s.size < i := by omega
        clear hT
        go_wp2
        all_goals (try (exfalso; omega))
        go_ret
        exact HFin.out _ _ ws hd hO hgw
end Go.Proofs.YtppnlijeonneeaaDoor
