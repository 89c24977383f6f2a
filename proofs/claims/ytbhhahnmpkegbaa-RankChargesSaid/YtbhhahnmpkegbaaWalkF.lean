/-
  OWN. THE WALKS of hanseref10.Uses and of wakes (rank.Of, age, share at no uses).
-/
import Derived.Test.YtbhhahnmpkegbaaWalkE
set_option linter.unusedSimpArgs false
set_option linter.unusedVariables false
namespace Go.Proofs.Ytbhhahnmpkegbaa
open Go.RowKit

theorem rightAt_no {L : List U} {k : Nat} {x : U} (h : L[k]? = some x) (hx : ¬ (prevU L k < x.1 ∧ x.1 < 16 ∧ 0 ≤ x.2.1 ∧ x.2.1 ≤ 1152921504606846976 ∧ 0 ≤ x.2.2 ∧ x.2.2 ≤ 1099511627776)) : rightAt L k = false := by
  cases hr : rightU x
  · exact rightAt_bad h hr
  · have := (rightU_iff x).1 hr
    exact rightAt_low h (by omega)
theorem rightAt_yes {L : List U} {k : Nat} {x : U} (h : L[k]? = some x) (h0 : -1 ≤ prevU L k) (hx : prevU L k < x.1 ∧ x.1 < 16 ∧ 0 ≤ x.2.1 ∧ x.2.1 ≤ 1152921504606846976 ∧ 0 ≤ x.2.2 ∧ x.2.2 ≤ 1099511627776) : rightAt L k = rightAt L (k + 1) :=
  rightAt_next h ((rightU_iff x).2 (by omega)) (by omega)

set_option maxHeartbeats 1000000 in
theorem uses_any (A : Option Addr) (n c : Nat) (L : List U) (w : World) (h : RU w A n L) (hn : n < 1000000) :
    Calls Try.prog 5 #[.slice A n c] w fun e w' => e = .returned (.bool (rightAt L 0)) ∧ w = w' := by
  go_enter Try.func5, Try.ntmps5
  go_wp2
  go_loop [3, 4] (fun l i => ∃ k : Nat, k ≤ n ∧ i = .int .i64 k ∧ l = .int .i64 (prevU L k) ∧ -1 ≤ prevU L k ∧ Hid (rightAt L 0 = rightAt L k)) (fun _ i => n - (intOf i).toNat)
  case atStart => exact ⟨0, by omega, rfl, rfl, by rw [prevU_zero]; omega, rfl⟩
  case round =>
    obtain ⟨k, hk, rfl, rfl, hp1, HR⟩ := hrel
    by_cases hlt : k < n
    · obtain ⟨b, o, x, rfl, hbl, hx, c0, c1, c2⟩ := h.at_ hlt
      have HX := hide hx
      clear hx h
      go_wp2_with (go_at_call 13; refine (refRight_any _ _).mono ?_; rintro e w' ⟨rfl, rfl⟩)
      all_goals first
        | (go_ret; exact ⟨ret_bool (by rw [HR.out]; exact (rightAt_no HX.out (by omega)).symm), rfl⟩)
        | skip
      · go_ret
        have h8 : (((x.1 ≤ prevU L k ∨ 16 ≤ x.1) ∨ x.2.1 < 0) ∨ 1152921504606846976 < x.2.1) ∨ (!decide (0 ≤ x.2.2)) = true ∨ (!decide (x.2.2 ≤ 1099511627776)) = true := by assumption
        have h9 : (((x.1 ≤ prevU L k ∨ 16 ≤ x.1) ∨ x.2.1 < 0) ∨ 1152921504606846976 < x.2.1) ∨ x.2.2 < 0 ∨ 1099511627776 < x.2.2 := by simpa using h8
        exact ⟨ret_bool (by rw [HR.out]; exact (rightAt_no HX.out (by omega)).symm), rfl⟩
      refine ⟨⟨k + 1, by omega, by go_num, by rw [prevU_succ HX.out], by rw [prevU_succ HX.out]; omega, ?_⟩, by simp [intOf]; omega⟩
      show _ = _
      rw [HR.out]
      refine rightAt_yes HX.out hp1 ?_
      have h7 : (((prevU L k < x.1 ∧ x.1 < 16) ∧ 0 ≤ x.2.1) ∧ x.2.1 ≤ 1152921504606846976) ∧ (!decide (0 ≤ x.2.2)) = false ∧ (!decide (x.2.2 ≤ 1099511627776)) = false := by assumption
      simp at h7
      omega
    · go_wp2
      go_ret
      exact ⟨ret_bool (by rw [HR.out, rightAt_end L (by rw [h.len]; omega)]), rfl⟩
end Go.Proofs.Ytbhhahnmpkegbaa
