/-
  OWN. THE WALK of wakes.
-/
import Derived.Test.YtnbbacomhomnmaaWalkE
set_option linter.unusedSimpArgs false
set_option linter.unusedVariables false
namespace Go.Proofs.Ytnbbacomhomnmaa
open Go.RowKit

theorem wakes_D {D : List Sp} (hp : D.Perm (allE 5 [[(0, 5), (7, 9)], [(3, 8)]])) (hs : SortedE D) : commonD 5 [[(0, 5), (7, 9)], [(3, 8)]] D = (7, true) := by
  have e := sortedE_one D (isortE (allE 5 [[(0, 5), (7, 9)], [(3, 8)]])) (hp.trans (isortE_perm _).symm) hs (isortE_sorted _)
  subst e
  rfl

set_option maxHeartbeats 1000000 in
theorem wakes_any (w : World) :
    Calls Try.prog 8 #[] w fun e w' => e = .returned (.bool true) ∧ Below w.heap.size w w' := by
  go_enter Try.func8, Try.ntmps8
  go_wp2_with fail
  refine (common_any _ 2 2 [[(0, 5), (7, 9)], [(3, 8)]] 5 _ ?_ (by omega)).mono ?_
  · refine ⟨rfl, fun _ => ⟨_, 0, rfl, by simp, ?_⟩⟩
    intro i L hL
    match i, hL with
    | 0, hL =>
      simp at hL
      subst hL
      refine ⟨some ⟨w.heap.size, 0, none⟩, 2, by go_simp, by simp, rfl, lenS _, fun _ => ⟨_, 0, rfl, by simp <;> omega, ?_⟩⟩
      intro j r hr q v hv
      match j, hr with
      | 0, hr =>
        simp [cellsS] at hr
        subst hr
        match q, hv with
        | 0, hv => simp at hv; subst hv; go_simp
        | 1, hv => simp at hv; subst hv; go_simp
      | 1, hr =>
        simp [cellsS] at hr
        subst hr
        match q, hv with
        | 0, hv => simp at hv; subst hv; go_simp
        | 1, hv => simp at hv; subst hv; go_simp
    | 1, hL =>
      simp at hL
      subst hL
      refine ⟨some ⟨w.heap.size + 1, 0, none⟩, 1, by go_simp, by simp, rfl, lenS _, fun _ => ⟨_, 0, rfl, by simp <;> omega, ?_⟩⟩
      intro j r hr q v hv
      match j, hr with
      | 0, hr =>
        simp [cellsS] at hr
        subst hr
        match q, hv with
        | 0, hv => simp at hv; subst hv; go_simp
        | 1, hv => simp at hv; subst hv; go_simp
  · rintro e w' ⟨hb, D, hp, hs, rfl⟩
    rw [wakes_D hp hs]
    go_wp2
    go_ret
    exact ⟨rfl, (by go_grown : Below w.heap.size w _).trans (hb.mono (by simp; omega))⟩
end Go.Proofs.Ytnbbacomhomnmaa
