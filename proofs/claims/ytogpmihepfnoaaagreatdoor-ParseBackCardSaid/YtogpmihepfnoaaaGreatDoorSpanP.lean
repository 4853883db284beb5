/- The walk of span.Parse. -/
import Derived.Test.YtogpmihepfnoaaaGreatDoorSpanT
import Derived.Lib.QuietBelow
namespace Go.Proofs.YtogpmihepfnoaaaGreatDoor
open Go Go.RowKit Go.Sort

theorem below_drewNr {B : Nat} {a w : World} (h : Below B a w) (n : Nat) : Below B a (w.drewN n) := ⟨h.os, h.tape, h.output, h.size, h.block⟩
theorem bytes_below (w : World) (e : TypeId) (s : ByteArray) : Below w.heap.size w (Lib.bytesWorld w e s) := by
  unfold Lib.bytesWorld World.freeze
  split
  · exact ((Below.refl _ _).drew).alloc (Nat.le_refl _) _
  · have h := ((Below.refl w.heap.size w).drew).alloc (Nat.le_refl _) (.cells (Lib.bytesCells w e s) e)
    refine ⟨h.os, h.tape, h.output, by simp, fun k hk => ?_⟩
    rw [← h.block k hk]
    simp only [Array.getElem?_modify]
    rw [if_neg (by omega)]
/-- What the two variables of strconv hold: some errors. -/
def Errs (w : World) : Prop := (∃ tp p, w.var? Tryz.prog "strconv.ErrSyntax" = some #[.iface tp p]) ∧ ∃ tp p, w.var? Tryz.prog "strconv.ErrRange" = some #[.iface tp p]

set_option maxRecDepth 100000 in
set_option maxHeartbeats 2000000 in
theorem parse_a (s : ByteArray) (w : World) (hs : s.size ≤ 140737488351232) (h : s.size < 2 ∨ 8 < s.size) : Calls Tryz.prog 76 #[.string s] w fun e w' => e = .returned (.tuple #[.int .i64 0, .int .i64 2]) ∧ Below w.heap.size w w' := by
  rcases h with h | h
  all_goals
    go_enter Tryz.func76, Tryz.ntmps76
    go_wp2_with fail
    go_ret2
    exact ⟨rfl, Below.refl _ _⟩
set_option maxRecDepth 100000 in
set_option maxHeartbeats 2000000 in
theorem parse_b (s : ByteArray) (w : World) (h : 2 ≤ s.size) (h' : s.size ≤ 8) (hu : unitD (s[s.size - 1].toNat : Int) = 0) : Calls Tryz.prog 76 #[.string s] w fun e w' => e = .returned (.tuple #[.int .i64 0, .int .i64 2]) ∧ Below w.heap.size w w' := by
  have U := Lib.hid hu
  clear hu
  go_enter Tryz.func76, Tryz.ntmps76
  go_wp2_with (go_at_call 88; refine (unit_val _ _ _ U.out).mono ?_; rintro e w' ⟨rfl, rfl⟩)
  go_ret2
  exact ⟨rfl, Below.refl _ _⟩

theorem atoi_err (s : ByteArray) (w : World) (hs : s.size ≤ 281474976710656) (hE : Errs w) (h : ∀ v, Lib.atoiAll s.data.toList ≠ .ok v) :
    Calls Tryz.prog 89 #[.string s] w fun e w' => ∃ v N, e = .returned (.tuple #[.int .i64 v, .iface 120 (.pointer (some ⟨N, 0, none⟩))]) ∧ Below w.heap.size w w' := by
  obtain ⟨⟨t1, p1, h1⟩, ⟨t2, p2, h2⟩⟩ := hE
  rcases hc : Lib.atoiAll s.data.toList with v | _ | _
  · exact absurd hc (h v)
  · exact (show Calls Tryz.prog 89 #[.string s] w fun e w' => ∃ N, e = .returned (.tuple #[.int .i64 0, .iface 120 (.pointer (some ⟨N, 0, none⟩))]) ∧ w.heap.size ≤ N ∧ w'.heap[N]? = some (.cells #[.string ⟨#[65, 116, 111, 105]⟩, .string s, .iface t1 p1] 130 (0, 0)) ∧ Below w.heap.size w w' from
      Any.strconv_Atoi_syntax_var Tryz.laysC172 s hs hc t1 p1 w h1).mono fun _ _ ⟨N, he, _, _, hb⟩ => ⟨0, N, he, hb⟩
  · exact (show Calls Tryz.prog 89 #[.string s] w fun e w' => ∃ N, e = .returned (.tuple #[.int .i64 (Lib.atoiSat s.data.toList), .iface 120 (.pointer (some ⟨N, 0, none⟩))]) ∧ w.heap.size ≤ N ∧ w'.heap[N]? = some (.cells #[.string ⟨#[65, 116, 111, 105]⟩, .string s, .iface t2 p2] 130 (0, 0)) ∧ Below w.heap.size w w' from
      Any.strconv_Atoi_range_var Tryz.laysC172 s hs hc t2 p2 w h2).mono fun _ _ ⟨N, he, _, _, hb⟩ => ⟨_, N, he, hb⟩
theorem atoi_ok (s : ByteArray) (v : Int) (w : World) (hs : s.size ≤ 281474976710656) (h : Lib.atoiAll s.data.toList = .ok v) :
    Calls Tryz.prog 89 #[.string s] w fun e w' => e = .returned (.tuple #[.int .i64 v, .nilIface]) ∧ Below w.heap.size w w' :=
  (Tryz.strconv_Atoi_ok s (by omega) v h w).mono fun _ _ ⟨he, hw⟩ => ⟨he, by
    rcases hw with rfl | ⟨t, rfl⟩
    · exact Below.refl _ _
    · exact bytes_below _ _ _⟩

set_option maxRecDepth 100000 in
set_option maxHeartbeats 2000000 in
theorem parse_c (s : ByteArray) (u : Int) (w : World) (hE : Errs w) (h : 2 ≤ s.size) (h' : s.size ≤ 8) (hu : unitD (s[s.size - 1].toNat : Int) = u) (hu0 : (u == 0) = false) (hn : ∀ v, Lib.atoiAll (s.extract 0 (s.size - 1)).data.toList ≠ .ok v) :
    Calls Tryz.prog 76 #[.string s] w fun e w' => e = .returned (.tuple #[.int .i64 0, .int .i64 2]) ∧ Below w.heap.size w w' := by
  have U := Lib.hid hu
  clear hu
  have HE := Lib.hid hE
  clear hE
  have HN := Lib.hid hn
  clear hn
  go_enter Tryz.func76, Tryz.ntmps76
  go_wp2_with (first | (go_at_call 88; refine (unit_val _ _ _ U.out).mono ?_; rintro e w' ⟨rfl, rfl⟩) | (go_at_call 89; refine (atoi_err _ _ (by simp; omega) HE.out HN.out).mono ?_; rintro e w1 ⟨v, N, rfl, hb⟩))
  go_quiet (fail)
  go_wp2
  go_ret2
  exact ⟨rfl, below_drewNr hb nq⟩

set_option maxRecDepth 100000 in
set_option maxHeartbeats 2000000 in
theorem parse_d (s : ByteArray) (u v : Int) (w : World) (h : 2 ≤ s.size) (h' : s.size ≤ 8) (hu : unitD (s[s.size - 1].toNat : Int) = u) (hu0 : (u == 0) = false) (hn : Lib.atoiAll (s.extract 0 (s.size - 1)).data.toList = .ok v) (hv : v < 0) :
    Calls Tryz.prog 76 #[.string s] w fun e w' => e = .returned (.tuple #[.int .i64 0, .int .i64 2]) ∧ Below w.heap.size w w' := by
  have U := Lib.hid hu
  clear hu
  have HN := Lib.hid hn
  clear hn
  go_enter Tryz.func76, Tryz.ntmps76
  go_wp2_with (first | (go_at_call 88; refine (unit_val _ _ _ U.out).mono ?_; rintro e w' ⟨rfl, rfl⟩) | (go_at_call 89; refine (atoi_ok _ _ _ (by simp; omega) HN.out).mono ?_; rintro e w1 ⟨rfl, hb⟩))
  have hd : decide (v < 0) = true := by simpa using hv
  go_quiet (fail)
  go_wp2
  go_ret2
  exact ⟨rfl, below_drewNr hb nq⟩

set_option maxRecDepth 100000 in
set_option maxHeartbeats 2000000 in
theorem parse_e (s : ByteArray) (u v : Int) (w : World) (hP : Pow w) (h : 2 ≤ s.size) (h' : s.size ≤ 8) (hu : unitD (s[s.size - 1].toNat : Int) = u) (hu0 : (u == 0) = false) (hn : Lib.atoiAll (s.extract 0 (s.size - 1)).data.toList = .ok v) (hv : 0 ≤ v) (hv1 : v ≤ 9223372036854775807)
    (he : (!((str (Lib.itoa v)).toList == (s.extract 0 (s.size - 1)).toList)) = true) :
    Calls Tryz.prog 76 #[.string s] w fun e w' => e = .returned (.tuple #[.int .i64 0, .int .i64 2]) ∧ Below w.heap.size w w' := by
  have U := Lib.hid hu
  clear hu
  have HN := Lib.hid hn
  clear hn
  have HP := Lib.hid hP
  clear hP
  go_enter Tryz.func76, Tryz.ntmps76
  go_wp2_with (first | (go_at_call 88; refine (unit_val _ _ _ U.out).mono ?_; rintro e w' ⟨rfl, rfl⟩) | (go_at_call 89; refine (atoi_ok _ _ _ (by simp; omega) HN.out).mono ?_; rintro e w1 ⟨rfl, hb⟩))
  have hd : decide (v < 0) = false := by simpa using hv
  have hle : (s.size : Int) - 1 ≤ s.size := by omega
  have cI : ∀ d os, Calls Tryz.prog 90 #[.int .i64 v] (grow (redrawn w1 d) os) fun e w'' => e = .returned (.string (str (Lib.itoa v))) ∧ ∃ p : Regrown, w'' = grow (redrawn w1 p.d) p.os := fun d os => Calls.regrown_of (itoa_any _ _ ((HP.out.below hb).below (below_regrown w1 d os)) (by omega) hv1)
  refine wp_region_quiet_below (by kernel_rfl) (by kernel_rfl) ?_
  repeat (quiet_step (exact cI _ _))
  refine wpQuiet_nil ?_
  intro _ hw'
  obtain ⟨⟨dq, osq⟩, hw''⟩ := hw'
  subst hw''
  go_wp2
  go_ret2
  exact ⟨rfl, hb.trans ((below_regrown w1 dq osq).mono hb.size)⟩
set_option maxRecDepth 100000 in
set_option maxHeartbeats 2000000 in
theorem parse_f (s : ByteArray) (u v : Int) (w : World) (hP : Pow w) (h : 2 ≤ s.size) (h' : s.size ≤ 8) (hu : unitD (s[s.size - 1].toNat : Int) = u) (hu0 : (u == 0) = false) (hn : Lib.atoiAll (s.extract 0 (s.size - 1)).data.toList = .ok v) (hv : 0 ≤ v) (hv1 : v ≤ 9223372036854775807)
    (he : (!((str (Lib.itoa v)).toList == (s.extract 0 (s.size - 1)).toList)) = false) :
    Calls Tryz.prog 76 #[.string s] w fun e w' => e = .returned (.tuple #[.int .i64 (daysU v u).1, .int .i64 (daysU v u).2]) ∧ Below w.heap.size w w' := by
  have U := Lib.hid hu
  clear hu
  have HN := Lib.hid hn
  clear hn
  have HP := Lib.hid hP
  clear hP
  go_enter Tryz.func76, Tryz.ntmps76
  go_wp2_with (first | (go_at_call 88; refine (unit_val _ _ _ U.out).mono ?_; rintro e w' ⟨rfl, rfl⟩) | (go_at_call 89; refine (atoi_ok _ _ _ (by simp; omega) HN.out).mono ?_; rintro e w1 ⟨rfl, hb⟩))
  have hd : decide (v < 0) = false := by simpa using hv
  have hle : (s.size : Int) - 1 ≤ s.size := by omega
  have cI : ∀ d os, Calls Tryz.prog 90 #[.int .i64 v] (grow (redrawn w1 d) os) fun e w'' => e = .returned (.string (str (Lib.itoa v))) ∧ ∃ p : Regrown, w'' = grow (redrawn w1 p.d) p.os := fun d os => Calls.regrown_of (itoa_any _ _ ((HP.out.below hb).below (below_regrown w1 d os)) (by omega) hv1)
  refine wp_region_quiet_below (by kernel_rfl) (by kernel_rfl) ?_
  repeat (quiet_step (exact cI _ _))
  refine wpQuiet_nil ?_
  intro _ hw'
  obtain ⟨⟨dq, osq⟩, hw''⟩ := hw'
  subst hw''
  go_wp2_with (go_at_call 91; refine (days_any _ _ _).mono ?_; rintro e w' ⟨rfl, rfl⟩)
  go_ret2
  refine ⟨by unfold daysD; rw [U.out]; rfl, ?_⟩
  exact hb.trans ((below_regrown w1 dq osq).mono hb.size)

/-- The span of a text. -/
def lastD (s : ByteArray) : Int := ((s.data.toList.getD (s.size - 1) 0).toNat : Int)
def parseD (s : ByteArray) : Int × Int :=
  if s.size < 2 ∨ 8 < s.size ∨ unitD (lastD s) = 0 then (0, 2) else
  match Lib.atoiAll (s.data.toList.take (s.size - 1)) with
  | .ok v => if v < 0 ∨ Lib.itoa v ≠ s.data.toList.take (s.size - 1) then (0, 2) else daysD v (lastD s)
  | _ => (0, 2)
theorem ext_list (s : ByteArray) (k : Nat) (_ : k ≤ s.size) : (s.extract 0 k).data.toList = s.data.toList.take k := by
  simp [ByteArray.data_extract, Array.toList_extract, List.extract]
theorem last_eq (s : ByteArray) (h : s.size - 1 < s.size) : (s[s.size - 1].toNat : Int) = lastD s := by
  unfold lastD
  have : s.data.toList.getD (s.size - 1) 0 = s[s.size - 1] := by
    rw [List.getD_eq_getElem?_getD, List.getElem?_eq_getElem (by simpa using h)]
    rfl
  rw [this]
theorem atoiAll_le {l : List UInt8} {v : Int} (h : Lib.atoiAll l = .ok v) : v ≤ 9223372036854775807 := by
  unfold Lib.atoiAll at h
  split at h
  · cases h
  · dsimp only at h
    split at h
    · cases h
    · cases h
    · split at h
      · cases h
      · split at h
        · cases h
        · injection h with h
          subst h
          split <;> omega
theorem bne_of {a b : List UInt8} (h : a ≠ b) : (!(a == b)) = true := by simpa using h
theorem parse_any (s : ByteArray) (w : World) (hs : s.size ≤ 140737488351232) (hP : Pow w) (hE : Errs w) :
    Calls Tryz.prog 76 #[.string s] w fun e w' => e = .returned (.tuple #[.int .i64 (parseD s).1, .int .i64 (parseD s).2]) ∧ Below w.heap.size w w' := by
  by_cases h : s.size < 2 ∨ 8 < s.size
  · have e : parseD s = (0, 2) := by rw [parseD, if_pos (by omega)]
    rw [e]; exact parse_a s w hs h
  · have h1 : 2 ≤ s.size := by omega
    have h2 : s.size ≤ 8 := by omega
    have hl : s.size - 1 < s.size := by omega
    by_cases hu : unitD (lastD s) = 0
    · have e : parseD s = (0, 2) := by rw [parseD, if_pos (by omega)]
      rw [e]; exact parse_b s w h1 h2 (by rw [last_eq s hl]; exact hu)
    · have hu' : unitD (s[s.size - 1].toNat : Int) = unitD (lastD s) := by rw [last_eq s hl]
      have hx := ext_list s (s.size - 1) (by omega)
      rcases ha : Lib.atoiAll (s.data.toList.take (s.size - 1)) with v | _ | _
      · by_cases hv : v < 0
        · have e : parseD s = (0, 2) := by rw [parseD, if_neg (by omega), ha]; simp [hv]
          rw [e]; exact parse_d s _ v w h1 h2 hu' (by simpa using hu) (by rw [hx]; exact ha) hv
        · have hv0 : 0 ≤ v := by omega
          have hv1 := atoiAll_le ha
          by_cases hi : Lib.itoa v = s.data.toList.take (s.size - 1)
          · have e : parseD s = daysU v (unitD (lastD s)) := by rw [parseD, if_neg (by omega), ha]; simp [hv, hi, daysD]
            rw [e]; exact parse_f s _ v w hP h1 h2 hu' (by simpa using hu) (by rw [hx]; exact ha) hv0 hv1 (by
              have : (str (Lib.itoa v)).toList = (s.extract 0 (s.size - 1)).toList := by rw [ByteArray.toList_eq, ByteArray.toList_eq, hx, ← hi]; rfl
              simp [this])
          · have e : parseD s = (0, 2) := by rw [parseD, if_neg (by omega), ha]; simp [hi]
            rw [e]; exact parse_e s _ v w hP h1 h2 hu' (by simpa using hu) (by rw [hx]; exact ha) hv0 hv1 (by
              apply bne_of
              rw [ByteArray.toList_eq, ByteArray.toList_eq, hx]
              exact hi)
      · have e : parseD s = (0, 2) := by rw [parseD, if_neg (by omega), ha]
        rw [e]; exact parse_c s _ w hE h1 h2 hu' (by simpa using hu) (by rw [hx, ha]; intro v h; cases h)
      · have e : parseD s = (0, 2) := by rw [parseD, if_neg (by omega), ha]
        rw [e]; exact parse_c s _ w hE h1 h2 hu' (by simpa using hu) (by rw [hx, ha]; intro v h; cases h)
end Go.Proofs.YtogpmihepfnoaaaGreatDoor
