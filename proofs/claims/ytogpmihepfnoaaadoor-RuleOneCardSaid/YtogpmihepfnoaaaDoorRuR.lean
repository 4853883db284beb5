/- The law RuleOne: its walk. -/
import Derived.Test.YtogpmihepfnoaaaDoorRuQ
import Derived.Test.YtogpmihepfnoaaaDoorRuJ
import Derived.Test.YtogpmihepfnoaaaDoorPaE
namespace Go.Proofs.YtogpmihepfnoaaaDoor
open Go Go.RowKit Go.Sort

set_option maxRecDepth 100000 in
set_option maxHeartbeats 4000000 in
theorem law_ruleone (rs ss : List Ru) (v v' : Value) (w : World) (hP : Pow w) (h : RdRus w (· < w.heap.size) v rs) (h' : RdRus w (· < w.heap.size) v' ss) :
    Calls Tryd.prog 7 #[v, v'] w fun e w' => e = .returned (.bool true) ∧ Gr w w' := by
  have HP := Lib.hid hP
  have cSa := rsmall_any rs v w h
  have cSb := fun W (hg : Gr w W) => rsmall_any ss v' W (h'.gr hg)
  have cPa := fun W (hg : Gr w W) => pprint_any rs v W (HP.out.below hg) (h.gr hg)
  have cPb := fun W (hg : Gr w W) => pprint_any ss v' W (HP.out.below hg) (h'.gr hg)
  have cR := fun W (hg : Gr w W) => rsame_any rs ss v v' W (h.gr hg) (h'.gr hg)
  have key : ∀ s t, printD rs = (s, 0) → printD ss = (t, 0) → decide (ba s = ba t) = ruEq rs ss := fun s t h1 h2 => print_one h1 h2
  generalize ruEq rs ss = q at *
  generalize printD rs = o1 at *
  generalize printD ss = o2 at *
  obtain ⟨t1, e1⟩ := o1
  obtain ⟨t2, e2⟩ := o2
  have key2 : (e1 != 0) = true ∨ ((e1 != 0) = false ∧ (e1 == 0) = true ∧ (e2 != 0) = true) ∨ ((e1 != 0) = false ∧ (e1 == 0) = true ∧ (e2 != 0) = false ∧ (e2 == 0) = true ∧ q = true ∧ ba t1 = ba t2) ∨ ((e1 != 0) = false ∧ (e1 == 0) = true ∧ (e2 != 0) = false ∧ (e2 == 0) = true ∧ q = false ∧ ba t1 ≠ ba t2) := by
    by_cases h1 : e1 = 0
    · subst h1
      by_cases h2 : e2 = 0
      · subst h2
        have := key t1 t2 rfl rfl
        cases q with
        | true => exact .inr (.inr (.inl ⟨rfl, rfl, rfl, rfl, rfl, of_decide_eq_true this⟩))
        | false => exact .inr (.inr (.inr ⟨rfl, rfl, rfl, rfl, rfl, of_decide_eq_false this⟩))
      · exact .inr (.inl ⟨rfl, rfl, by simpa using h2⟩)
    · exact .inl (by simpa using h1)
  dsimp only at *
  generalize ba t1 = T1 at *
  generalize ba t2 = T2 at *
  clear hP key h h'
  rcases key2 with h1 | ⟨h1, h1', h2⟩ | ⟨h1, h1', h2, h2', rfl, rfl⟩ | ⟨h1, h1', h2, h2', rfl, hne⟩
  case' inr.inr.inr =>
    obtain ⟨n1, n2⟩ := str_neq hne
    clear hne
  all_goals
    go_enter Tryd.func7, Tryd.ntmps7
    go_wp2_with (first
      | (go_at_call 16; (with_reducible refine cSa.mono ?_); rintro e w1 ⟨⟨s1, rfl⟩, hb1⟩
         cases s1)
      | (go_at_call 16; (with_reducible refine (cSb _ hb1).mono ?_); rintro e w2 ⟨⟨s2, rfl⟩, hb2⟩
         have hG2 := Gr.trans hb1 hb2
         cases s2)
      | (go_at_call 18; (with_reducible refine (cPa _ hG2).mono ?_); rintro e w3 ⟨rfl, hb3⟩
         have hG3 := Gr.trans hG2 hb3)
      | (go_at_call 18; (with_reducible refine (cPb _ hG3).mono ?_); rintro e w4 ⟨rfl, hb4⟩
         have hG4 := Gr.trans hG3 hb4)
      | (go_at_call 20; (with_reducible refine (rnum_any _ _).mono ?_); rintro e w7 ⟨rfl, rfl⟩)
      | (go_at_call 23; (with_reducible refine (cR _ hG4).mono ?_); rintro e w9 ⟨rfl, hb9⟩
         have hG9 := Gr.trans hG4 hb9)
      | (go_at_call 17; (with_reducible refine (rulive_any _ (HP.out.below (by first | exact hG9 | exact hG4 | exact hG2 | exact hb1))).mono ?_); rintro e w11 ⟨rfl, hb11⟩))
    all_goals
      go_ret
      first | exact ⟨rfl, Gr.trans hG9 hb11⟩ | exact ⟨rfl, Gr.trans hG4 hb11⟩ | exact ⟨rfl, Gr.trans hG2 hb11⟩ | exact ⟨rfl, Gr.trans hb1 hb11⟩
theorem row_ruleone (rs : List Ru) (v : Value) (ss : List Ru) (v' : Value) (w : World) (h : RdRus w (· < w.heap.size) v rs) (h' : RdRus w (· < w.heap.size) v' ss) (hP : Pow w) : Calls Tryd.prog 7 #[v, v'] w fun e w' => e = .returned (.bool true) ∧ Below w.heap.size w w' :=
  law_ruleone rs ss v v' w hP h h'
end Go.Proofs.YtogpmihepfnoaaaDoor
