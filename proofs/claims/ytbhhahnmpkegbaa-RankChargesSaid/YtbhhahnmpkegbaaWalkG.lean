/-
  OWN. THE WALKS of wakes (rank.Of, age, share at no uses).
-/
import Derived.Test.YtbhhahnmpkegbaaWalkF
set_option linter.unusedSimpArgs false
set_option linter.unusedVariables false
namespace Go.Proofs.Ytbhhahnmpkegbaa
open Go.RowKit


set_option maxHeartbeats 1000000 in
theorem age_wakes (w : World) :
    Calls Try.prog 21 #[(.agg #[.int .i64 0, .int .i64 0, .int .i64 0, .complex .f64 0 0, .int .i64 0, .int .i64 0, .int .i64 2, .int .i64 0, .slice none 0 0, .bool false, .int .i64 0, .int .i64 5, .int .i64 0, .int .i64 0, .int .i64 0, .int .i64 0, .int .i64 0]), .int .i64 15] w fun e w' => e = .returned (.int .i64 10) ∧ Below w.heap.size w w' := by
  go_enter Try.func21, Try.ntmps21
  go_wp2_with (go_at_call 8; refine (tickRight_any _ _).mono ?_; rintro e w' ⟨rfl, rfl⟩)
  go_ret
  exact ⟨rfl, by go_grown⟩

set_option maxHeartbeats 1000000 in
theorem share_wakes (w : World) :
    Calls Try.prog 22 #[.int .i64 0, .slice none 0 0, .int .i64 15] w fun e w' => e = .returned (.int .i64 0) ∧ Below w.heap.size w w' := by
  have hr : rightAt [] 0 = true := rfl
  have hp : placeU [] 0 = 0 := rfl
  have hh : hasU [] 0 = false := rfl
  go_enter Try.func22, Try.ntmps22
  go_wp2_with (first | (go_at_call 7; refine (right_any none 0 0 [] _ RU.nil_ (by decide)).mono ?_; rintro e w1 ⟨rfl, hb1⟩) | (go_at_call 8; refine (tickRight_any _ _).mono ?_; rintro e w' ⟨rfl, rfl⟩) | (go_at_call 9; refine (find_any none 0 0 [] 0 _ RU.nil_ (by decide) rfl).mono ?_; rintro e w2 ⟨rfl, hb2⟩))
  go_ret
  exact ⟨rfl, btwo hb1 hb2⟩

set_option maxHeartbeats 1000000 in
theorem of_wakes (w : World) :
    Calls Try.prog 14 #[(.agg #[.int .i64 0, .int .i64 0, .int .i64 0, .complex .f64 0 0, .int .i64 0, .int .i64 0, .int .i64 2, .int .i64 0, .slice none 0 0, .bool false, .int .i64 0, .int .i64 5, .int .i64 0, .int .i64 0, .int .i64 0, .int .i64 0, .int .i64 0]), .slice none 0 0, .int .i64 15] w fun e w' => e = .returned (.int .i64 8202) ∧ Below w.heap.size w w' := by
  go_enter Try.func14, Try.ntmps14
  go_wp2
  have W0 : ∀ (s : BW (w.alloc (.cells #[.int .i64 0, .int .i64 0, .int .i64 0, .complex .f64 0 0, .int .i64 0, .int .i64 0, .int .i64 2, .int .i64 0, .slice none 0 0, .bool false, .int .i64 0, .int .i64 5, .int .i64 0, .int .i64 0, .int .i64 0, .int .i64 0, .int .i64 0] 46))) j, s.w.cell? ⟨w.heap.size, j, none⟩ = (#[.int .i64 0, .int .i64 0, .int .i64 0, .complex .f64 0 0, .int .i64 0, .int .i64 0, .int .i64 2, .int .i64 0, .slice none 0 0, .bool false, .int .i64 0, .int .i64 5, .int .i64 0, .int .i64 0, .int .i64 0, .int .i64 0, .int .i64 0] : Array Value)[j]? := fun s j => BW.new s j
  refine wp_region_bw (by kernel_rfl) (by kernel_rfl) ?_
  repeat (go_big_quiet_step (first | (go_at_call 21; exact Calls.bw (age_wakes _)) | (go_at_call 22; exact Calls.bw (share_wakes _))))
  refine wpQuiet_nil ?_
  rintro _ ⟨s, rfl⟩
  have hs : Below w.heap.size w s.w := ((Below.refl _ _).alloc (Nat.le_refl _) _).trans (s.h.mono (by simp))
  clear W0
  go_wp2
  go_ret
  exact ⟨rfl, hs⟩
set_option maxHeartbeats 1000000 in
theorem wakes_any (w : World) :
    Calls Try.prog 6 #[] w fun e w' => e = .returned (.bool true) ∧ Below w.heap.size w w' := by
  go_enter Try.func6, Try.ntmps6
  go_wp2_with (go_at_call 14; refine (of_wakes _).mono ?_; rintro e w1 ⟨rfl, hb1⟩)
  go_ret
  exact ⟨rfl, hb1⟩
end Go.Proofs.Ytbhhahnmpkegbaa
