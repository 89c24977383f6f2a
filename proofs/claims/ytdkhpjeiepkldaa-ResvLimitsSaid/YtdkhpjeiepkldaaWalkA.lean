/-
  OWN. THE WALKS of amount's functions at 0, 1 and 2.
-/
import Derived.Test.YtdkhpjeiepkldaaKit
set_option linter.unusedSimpArgs false
set_option linter.unusedVariables false
namespace Go.Proofs.Ytdkhpjeiepkldaa
open Go.RowKit

/-- the bits of 0, 1 and 2 -/
def B : Nat → Nat
  | 0 => 0
  | 1 => 4607182418800017408
  | _ => 4611686018427387904

theorem archTrunc_run (b : Nat) (hb : b = 0 ∨ b = 4607182418800017408 ∨ b = 4611686018427387904) (w : World) : (callFunc 29 #[.float .f64 b]).run Try.prog w = .ok (.value (.float .f64 b)) w := by
  rw [run_callFunc_extern Try.func29 (by kernel_rfl) (by kernel_rfl) (by kernel_rfl) (e := Extern.MathFloor.toIntegral "math.archTrunc" .zero) (by kernel_rfl)]
  rcases hb with rfl | rfl | rfl <;> kernel_rfl

set_option maxHeartbeats 400000 in
theorem trunc_any (b : Nat) (hb : b = 0 ∨ b = 4607182418800017408 ∨ b = 4611686018427387904) (w : World) :
    Calls Try.prog 24 #[.float .f64 b] w fun e w' => e = .returned (.float .f64 b) ∧ w = w' := by
  have h := archTrunc_run b hb w
  go_enter Try.func24, Try.ntmps24
  go_wp2_with (simp only [h])
  go_ret
  exact ⟨rfl, rfl⟩

abbrev ord (a b : Nat) : Option Ordering := FloatKind.f64.format.order a b
theorem o00 : FloatKind.f64.format.order 0 0 = some .eq := by kernel_rfl
theorem o01 : FloatKind.f64.format.order 0 4607182418800017408 = some .lt := by kernel_rfl
theorem o02 : FloatKind.f64.format.order 0 4611686018427387904 = some .lt := by kernel_rfl
theorem o10 : FloatKind.f64.format.order 4607182418800017408 0 = some .gt := by kernel_rfl
theorem o11 : FloatKind.f64.format.order 4607182418800017408 4607182418800017408 = some .eq := by kernel_rfl
theorem o12 : FloatKind.f64.format.order 4607182418800017408 4611686018427387904 = some .lt := by kernel_rfl
theorem o20 : FloatKind.f64.format.order 4611686018427387904 0 = some .gt := by kernel_rfl
theorem o21 : FloatKind.f64.format.order 4611686018427387904 4607182418800017408 = some .gt := by kernel_rfl
theorem o22 : FloatKind.f64.format.order 4611686018427387904 4611686018427387904 = some .eq := by kernel_rfl
theorem o0m : FloatKind.f64.format.order 0 4697254411347427328 = some .lt := by kernel_rfl
theorem o1m : FloatKind.f64.format.order 4607182418800017408 4697254411347427328 = some .lt := by kernel_rfl
theorem o2m : FloatKind.f64.format.order 4611686018427387904 4697254411347427328 = some .lt := by kernel_rfl

set_option maxHeartbeats 400000 in
theorem whole_any (b : Nat) (hb : b = 0 ∨ b = 4607182418800017408 ∨ b = 4611686018427387904) (w : World) :
    Calls Try.prog 14 #[.float .f64 b] w fun e w' => e = .returned (.bool true) ∧ w = w' := by
  have ht := trunc_any b hb w
  have h1 := o00
  have h2 := o0m
  have h3 := o10
  have h4 := o1m
  have h5 := o11
  have h6 := o20
  have h7 := o2m
  have h8 := o22
  rcases hb with rfl | rfl | rfl
  all_goals (
    go_enter Try.func14, Try.ntmps14
    go_wp2_with fail
    refine ht.mono ?_
    rintro e w1 ⟨rfl, rfl⟩
    go_wp2
    go_ret
    exact ⟨rfl, rfl⟩)

/-- an amount of n nodes -/
abbrev C (n : Nat) : Value := .complex .f64 (B n) 0
theorem B_cases (n : Nat) (h : n ≤ 2) : B n = 0 ∨ B n = 4607182418800017408 ∨ B n = 4611686018427387904 := by
  rcases (show n = 0 ∨ n = 1 ∨ n = 2 by omega) with rfl | rfl | rfl <;> simp [B]
set_option maxHeartbeats 400000 in
theorem right_any (n : Nat) (hn : n ≤ 2) (w : World) :
    Calls Try.prog 6 #[C n] w fun e w' => e = .returned (.bool true) ∧ w = w' := by
  have hB := B_cases n hn
  unfold C
  go_enter Try.func6, Try.ntmps6
  go_wp2_with fail
  refine (whole_any _ hB _).mono ?_
  rintro e w1 ⟨rfl, rfl⟩
  go_wp2_with fail
  refine (whole_any _ (.inl rfl) _).mono ?_
  rintro e w1 ⟨rfl, rfl⟩
  go_wp2
  go_ret
  exact ⟨rfl, rfl⟩

set_option maxHeartbeats 800000 in
theorem fits_any (n : Nat) (hn : 1 ≤ n ∧ n ≤ 2) (w : World) :
    Calls Try.prog 34 #[C 1, C n] w fun e w' => e = .returned (.bool true) ∧ w = w' := by
  have r1 := right_any 1 (by omega) w
  have r2 := right_any n hn.2 w
  have h1 := o11
  have h2 := o12
  have h3 := o00
  rcases (show n = 1 ∨ n = 2 by omega) with rfl | rfl
  all_goals (
    simp only [C, B] at r1 r2 ⊢
    go_enter Try.func34, Try.ntmps34
    go_wp2_with fail
    refine r1.mono ?_
    rintro e w1 ⟨rfl, rfl⟩
    go_wp2_with fail
    refine r2.mono ?_
    rintro e w1 ⟨rfl, rfl⟩
    go_wp2
    go_ret
    exact ⟨rfl, rfl⟩)

theorem add_zero_run (n : Nat) (hn : n ≤ 2) (t : TypeId) (w : World) : (binOp .add t (.complex .f64 0 0) (C n)).run Try.prog w = .ok (C n) w := by
  rcases (show n = 0 ∨ n = 1 ∨ n = 2 by omega) with rfl | rfl | rfl <;> exact run_complex_sum w .add (.inl rfl) t .f64 _ _ _ _ _ _ (by kernel_rfl)
theorem less_one_run (n : Nat) (hn : 1 ≤ n ∧ n ≤ 2) (t : TypeId) (w : World) : (binOp .add t (C n) (.complex .f64 13830554455654793216 9223372036854775808)).run Try.prog w = .ok (C (n - 1)) w := by
  rcases (show n = 1 ∨ n = 2 by omega) with rfl | rfl <;> exact run_complex_sum w .add (.inl rfl) t .f64 _ _ _ _ _ _ (by kernel_rfl)
set_option maxHeartbeats 800000 in
theorem sum_any (b n c : Nat) (hn : n ≤ 2) (w : World) (h : w.cell? ⟨b, 0, none⟩ = some (C n)) :
    Calls Try.prog 18 #[.slice (some ⟨b, 0, none⟩) 1 c] w fun e w' => e = .returned (.tuple #[C n, .int .i64 0]) ∧ w = w' := by
  have ha := add_zero_run n hn
  unfold C at h ha ⊢
  go_enter Try.func18, Try.ntmps18
  go_wp2
  go_loop [4, 9] (fun v i => (i = .int .i64 0 ∧ v = .complex .f64 0 0) ∨ (i = .int .i64 1 ∧ v = C n)) (fun _ i => 1 - (intOf i).toNat)
  case atStart => exact .inl ⟨rfl, rfl⟩
  case round =>
    rcases hrel with ⟨rfl, rfl⟩ | ⟨rfl, rfl⟩
    · go_wp2_with fail
      refine (right_any n hn _).mono ?_
      rintro e w1 ⟨rfl, rfl⟩
      go_wp2_with fail
      refine (right_any n hn _).mono ?_
      rintro e w1 ⟨rfl, rfl⟩
      go_wp2
      go_round
      case rel => exact .inr ⟨rfl, rfl⟩
      case measure => simp [intOf]
    · go_wp2
      go_ret2
      exact ⟨rfl, rfl⟩
end Go.Proofs.Ytdkhpjeiepkldaa
