/-
  OWN. THE WALK of resv's order.
-/
import Derived.Test.YtdkhpjeiepkldaaWalkL
set_option linter.unusedSimpArgs false
set_option linter.unusedVariables false
namespace Go.Proofs.Ytdkhpjeiepkldaa
open Go.RowKit

abbrev elemV (k : Nat) : Value := .agg #[.int .i64 0, .int .i64 0, .int .i64 ((k : Int) + 1), .int .i64 k, .int .i64 ((k : Int) + 1), K1, .bool false, .int .i64 0]
abbrev newV (a b m f : Int) (s : Bool) : Value := .agg #[.int .i64 a, .int .i64 b, .int .i64 m, .int .i64 f, .int .i64 (f + 1), K1, .bool s, .int .i64 0]
abbrev elemO (k : Nat) : Obj := .cells #[.int .i64 0, .int .i64 0, .int .i64 ((k : Int) + 1), .int .i64 k, .int .i64 ((k : Int) + 1), K1, .bool false, .int .i64 0] 29
abbrev newO (a b m f : Int) (s : Bool) : Obj := .cells #[.int .i64 a, .int .i64 b, .int .i64 m, .int .i64 f, .int .i64 (f + 1), K1, .bool s, .int .i64 0] 29

set_option maxHeartbeats 1000000 in
theorem order_any (k : Nat) (a b m f : Int) (s : Bool) (w : World) :
    Calls Try.prog 11 #[elemV k, newV a b m f s] w fun e w' => e = .returned (.int .i64 (orP (cmpI 0 a) (cmpI 0 b) (cmpI ((k : Int) + 1) m))) ∧ Below w.heap.size w w' := by
  generalize hp : cmpI 0 a = p
  generalize hq : cmpI 0 b = q
  generalize hr : cmpI ((k : Int) + 1) m = r
  have h1 : ∀ w, Calls Try.prog 21 #[.int .i64 0, .int .i64 a] w fun e w' => e = .returned (.int .i64 p) ∧ w' = w := fun w => (compare_any 0 a w).mono fun _ _ ⟨he, hw⟩ => ⟨by rw [he, hp], hw.symm⟩
  have h2 : ∀ w, Calls Try.prog 21 #[.int .i64 0, .int .i64 b] w fun e w' => e = .returned (.int .i64 q) ∧ w' = w := fun w => (compare_any 0 b w).mono fun _ _ ⟨he, hw⟩ => ⟨by rw [he, hq], hw.symm⟩
  have h3 : ∀ w, Calls Try.prog 21 #[.int .i64 ((k : Int) + 1), .int .i64 m] w fun e w' => e = .returned (.int .i64 r) ∧ w' = w := fun w => (compare_any ((k : Int) + 1) m w).mono fun _ _ ⟨he, hw⟩ => ⟨by rw [he, hr], hw.symm⟩
  clear hp hq hr
  go_enter Try.func11, Try.ntmps11
  go_wp2
  have f0 : ((w.alloc (elemO k)).alloc (newO a b m f s)).drew.cell? ⟨w.heap.size, 0, none⟩ = some (.int .i64 0) := by go_simp
  have f1 : ((w.alloc (elemO k)).alloc (newO a b m f s)).drew.cell? ⟨w.heap.size, 1, none⟩ = some (.int .i64 0) := by go_simp
  have f2 : ((w.alloc (elemO k)).alloc (newO a b m f s)).drew.cell? ⟨w.heap.size, 2, none⟩ = some (.int .i64 ((k : Int) + 1)) := by go_simp
  have f3 : ((w.alloc (elemO k)).alloc (newO a b m f s)).drew.cell? ⟨w.heap.size + 1, 0, none⟩ = some (.int .i64 a) := by go_simp
  have f4 : ((w.alloc (elemO k)).alloc (newO a b m f s)).drew.cell? ⟨w.heap.size + 1, 1, none⟩ = some (.int .i64 b) := by go_simp
  have f5 : ((w.alloc (elemO k)).alloc (newO a b m f s)).drew.cell? ⟨w.heap.size + 1, 2, none⟩ = some (.int .i64 m) := by go_simp
  have hgw : Below w.heap.size w ((w.alloc (elemO k)).alloc (newO a b m f s)).drew := (((Below.refl _ _).alloc (Nat.le_refl _) _).alloc (by simp) _).drew
  refine wp_region_still_tail 19 (by kernel_rfl) (by kernel_rfl) ?_
  change wpStill _ _ (((w.alloc (elemO k)).alloc (newO a b m f s)).drew) (fun a' => wpList _ _ _ _ _ (((w.alloc (elemO k)).alloc (newO a b m f s)).drew)) _ _
  simp only [List.take_succ_cons, List.take_zero, List.drop_succ_cons, List.drop_zero]
  generalize ((w.alloc (elemO k)).alloc (newO a b m f s)).drew = w2 at f0 f1 f2 f3 f4 f5 hgw ⊢
  have HG := hide hgw
  clear hgw
  repeat still_step
  still_call (h1 _)
  repeat still_step
  still_call (h2 _)
  repeat still_step
  still_call (h3 _)
  refine wpStill_nil ?_
  go_wp2_with (go_at_call 20; refine (or_any _ p q r 3 _ (by go_simp) (by go_simp) (by go_simp)).mono ?_; rintro e w' ⟨rfl, rfl⟩)
  go_ret
  exact ⟨rfl, HG.out.alloc HG.out.size _⟩
end Go.Proofs.Ytdkhpjeiepkldaa
