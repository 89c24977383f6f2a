/-
  OWN. THE WALK of rank.Decayed at a right use and a tick.
-/
import Derived.Test.YtbhhahnmpkegbaaWalkB
set_option linter.unusedSimpArgs false
set_option linter.unusedVariables false
namespace Go.Proofs.Ytbhhahnmpkegbaa
open Go.RowKit

theorem shr_run (P : Program) (x c : Int) (hx : 0 ≤ x) (hc : 0 ≤ c) : ∃ d : Int, 0 ≤ d ∧ d ≤ x ∧ ∀ w, (Op.shift .shr .i64 x .i64 c).run P w = .ok (.int .i64 d) w := by
  refine ⟨x.fdiv (2 ^ min c.toNat 64), ?_, ?_, fun w => ?_⟩
  · exact Int.fdiv_nonneg hx (Int.le_of_lt (Int.pow_pos (by omega)))
  · have hp : (0 : Int) ≤ 2 ^ min c.toNat 64 := Int.le_of_lt (Int.pow_pos (by omega))
    rw [Int.fdiv_eq_ediv_of_nonneg _ hp]
    exact Int.ediv_le_self _ hx
  · unfold Op.shift
    rw [if_neg (by omega)]
    rfl

/-- what Decayed answers of a right use: a sum that has not grown -/
def DecPost (x : U) (w : World) (e : Ending) (w' : World) : Prop := ∃ d : Int, 0 ≤ d ∧ d ≤ x.2.1 ∧ e = .returned (.tuple #[.int .i64 d, .int .i64 0]) ∧ Below w.heap.size w w'

set_option maxHeartbeats 400000 in
theorem decayed_any (x : U) (now : Int) (w : World) (hx : rightU x = true) (h0 : 0 ≤ now) (h1 : now ≤ 1099511627776) :
    Calls Try.prog 12 #[.agg #[.int .i64 x.1, .int .i64 x.2.1, .int .i64 x.2.2], .int .i64 now] w (DecPost x w) := by
  have hxx := (rightU_iff x).1 hx
  obtain ⟨x1, x2, x3, x4, x5, x6⟩ := hxx
  have hd0 : decide (0 ≤ now) = true := by simpa using h0
  have hd1 : decide (now ≤ 1099511627776) = true := by simpa using h1
  by_cases hc : 0 ≤ now / 1024 - x.2.2 / 1024
  · obtain ⟨d, d0, d1, hrun⟩ := shr_run Try.prog x.2.1 (now / 1024 - x.2.2 / 1024) x3 hc
    go_enter Try.func12, Try.ntmps12
    go_wp2_with (first | (go_at_call 15; refine (rightUse_any x _).mono ?_; rintro e w1 ⟨rfl, hb1⟩; have hc := bcell hb1; obtain ⟨hc, hf⟩ := hc) | (go_at_call 8; refine (tickRight_any _ _).mono ?_; rintro e w' ⟨rfl, rfl⟩))
    go_ret2
    exact ⟨d, d0, d1, rfl, ((Below.refl _ _).alloc (Nat.le_refl _) _).trans (hb1.mono (by simp))⟩
  · go_enter Try.func12, Try.ntmps12
    go_wp2_with (first | (go_at_call 15; refine (rightUse_any x _).mono ?_; rintro e w1 ⟨rfl, hb1⟩; have hc := bcell hb1; obtain ⟨hc, hf⟩ := hc) | (go_at_call 8; refine (tickRight_any _ _).mono ?_; rintro e w' ⟨rfl, rfl⟩))
    go_ret2
    exact ⟨x.2.1, x3, by omega, rfl, ((Below.refl _ _).alloc (Nat.le_refl _) _).trans (hb1.mono (by simp))⟩
end Go.Proofs.Ytbhhahnmpkegbaa
