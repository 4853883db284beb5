/- The walks of package span (unit, Days, Text, Parse, After, Add) and of its reference's functions. -/
import Derived.Test.YtogpmihepfnoaaaGreatDoorBase
namespace Go.Proofs.YtogpmihepfnoaaaGreatDoor
open Go Go.RowKit

/-- How many days a unit has. -/
def unitD (c : Int) : Int := if c = 121 then 365 else if c = 109 then 30 else if c = 119 then 7 else if c = 100 then 1 else 0

theorem unit_any (c : Int) (w : World) : Calls Tryz.prog 88 #[.int .u8 c] w fun e w' => e = .returned (.int .i64 (unitD c)) ∧ w = w' := by
  by_cases h1 : c = 121
  · subst h1
    go_enter Tryz.func88, Tryz.ntmps88
    go_wp2
    go_ret
    exact ⟨rfl, rfl⟩
  · by_cases h2 : c = 109
    · subst h2
      go_enter Tryz.func88, Tryz.ntmps88
      go_wp2
      go_ret
      exact ⟨rfl, rfl⟩
    · by_cases h3 : c = 119
      · subst h3
        go_enter Tryz.func88, Tryz.ntmps88
        go_wp2
        go_ret
        exact ⟨rfl, rfl⟩
      · by_cases h4 : c = 100
        · subst h4
          go_enter Tryz.func88, Tryz.ntmps88
          go_wp2
          go_ret
          exact ⟨rfl, rfl⟩
        · go_enter Tryz.func88, Tryz.ntmps88
          go_wp2
          go_ret
          exact ⟨by simp [unitD, h1, h2, h3, h4], rfl⟩

theorem refunit_any (c : Int) (w : World) : Calls Tryz.prog 48 #[.int .u8 c] w fun e w' => e = .returned (.int .i64 (unitD c)) ∧ w = w' := by
  by_cases h1 : c = 121
  · subst h1
    go_enter Tryz.func48, Tryz.ntmps48
    go_wp2
    go_ret
    exact ⟨rfl, rfl⟩
  · by_cases h2 : c = 109
    · subst h2
      go_enter Tryz.func48, Tryz.ntmps48
      go_wp2
      go_ret
      exact ⟨rfl, rfl⟩
    · by_cases h3 : c = 119
      · subst h3
        go_enter Tryz.func48, Tryz.ntmps48
        go_wp2
        go_ret
        exact ⟨rfl, rfl⟩
      · by_cases h4 : c = 100
        · subst h4
          go_enter Tryz.func48, Tryz.ntmps48
          go_wp2
          go_ret
          exact ⟨rfl, rfl⟩
        · go_enter Tryz.func48, Tryz.ntmps48
          go_wp2
          go_ret
          exact ⟨by simp [unitD, h1, h2, h3, h4], rfl⟩

theorem unitD_cases (c : Int) : unitD c = 0 ∨ unitD c = 1 ∨ unitD c = 7 ∨ unitD c = 30 ∨ unitD c = 365 := by
  unfold unitD
  repeat' split
  all_goals simp

theorem unit_val (c u : Int) (w : World) (h : unitD c = u) : Calls Tryz.prog 88 #[.int .u8 c] w fun e w' => e = .returned (.int .i64 u) ∧ w = w' := h ▸ unit_any c w
theorem refunit_val (c u : Int) (w : World) (h : unitD c = u) : Calls Tryz.prog 48 #[.int .u8 c] w fun e w' => e = .returned (.int .i64 u) ∧ w = w' := h ▸ refunit_any c w

/-- So many of a unit: the days, and the error's number. -/
def daysU (n u : Int) : Int × Int := if n < 0 ∨ u = 0 then (0, 1) else if 1048576 / u < n then (0, 16) else (n * u, 0)
def daysD (n c : Int) : Int × Int := daysU n (unitD c)

set_option maxHeartbeats 1000000 in
theorem days_u (n c u : Int) (w : World) (hu : u = 0 ∨ u = 1 ∨ u = 7 ∨ u = 30 ∨ u = 365) (U : ∀ w, Calls Tryz.prog 88 #[.int .u8 c] w fun e w' => e = .returned (.int .i64 u) ∧ w = w') :
    Calls Tryz.prog 91 #[.int .i64 n, .int .u8 c] w fun e w' => e = .returned (.tuple #[.int .i64 (daysU n u).1, .int .i64 (daysU n u).2]) ∧ w = w' := by
  rcases hu with rfl | rfl | rfl | rfl | rfl
  all_goals
    go_enter Tryz.func91, Tryz.ntmps91
    go_wp2_with (go_at_call 88; refine (U _).mono ?_; rintro e w' ⟨rfl, rfl⟩)
  all_goals
    go_ret2
    refine ⟨ret_ii ?_ ?_, rfl⟩
  all_goals
    unfold daysU
    (repeat' split)
  all_goals (try dsimp only)
  all_goals omega
theorem days_any (n c : Int) (w : World) : Calls Tryz.prog 91 #[.int .i64 n, .int .u8 c] w fun e w' => e = .returned (.tuple #[.int .i64 (daysD n c).1, .int .i64 (daysD n c).2]) ∧ w = w' :=
  days_u n c _ w (unitD_cases c) (fun w => unit_val c _ w rfl)

set_option maxHeartbeats 1000000 in
theorem refdays_u (n c u : Int) (w : World) (hu : u = 0 ∨ u = 1 ∨ u = 7 ∨ u = 30 ∨ u = 365) (U : ∀ w, Calls Tryz.prog 48 #[.int .u8 c] w fun e w' => e = .returned (.int .i64 u) ∧ w = w') :
    Calls Tryz.prog 84 #[.int .i64 n, .int .u8 c] w fun e w' => e = .returned (.tuple #[.int .i64 (daysU n u).1, .int .i64 (daysU n u).2]) ∧ w = w' := by
  rcases hu with rfl | rfl | rfl | rfl | rfl
  all_goals
    go_enter Tryz.func84, Tryz.ntmps84
    go_wp2_with (go_at_call 48; refine (U _).mono ?_; rintro e w' ⟨rfl, rfl⟩)
  all_goals
    go_ret2
    refine ⟨ret_ii ?_ ?_, rfl⟩
  all_goals
    unfold daysU
    (repeat' split)
  all_goals (try dsimp only)
  all_goals omega
theorem refdays_any (n c : Int) (w : World) : Calls Tryz.prog 84 #[.int .i64 n, .int .u8 c] w fun e w' => e = .returned (.tuple #[.int .i64 (daysD n c).1, .int .i64 (daysD n c).2]) ∧ w = w' :=
  refdays_u n c _ w (unitD_cases c) (fun w => refunit_val c _ w rfl)

/-- The tick behind a span. -/
def afterD (t d : Int) : Int × Bool := if t < 0 ∨ 1099511627776 < t ∨ d < 0 ∨ 1048576 < d ∨ 1099511627776 - t < d then (0, false) else (t + d, true)
def addD (c n : Int) : Int × Int := if c < 0 ∨ 1099511627776 < c ∨ n < 1 then (0, 1) else if 1099511627776 - c < n then (0, 16) else (c + n, 0)

end Go.Proofs.YtogpmihepfnoaaaGreatDoor
