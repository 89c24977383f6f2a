/-
  OWN. ResvLimits holds: whatever number and ID, the law answers true and leaves its arguments as they were. No condition.
-/
import Derived.Test.YtdkhpjeiepkldaaRow
import Derived.Test.YtdkhpjeiepkldaaLaw
import Derived.Lib.SmallJoins
set_option linter.unusedSimpArgs false
set_option linter.unusedVariables false
namespace Go.Proofs.Ytdkhpjeiepkldaa
open Go.ChangeShapes Go.WideShapes Go.ChangeAt Go.RowKit Go.Joins

theorem Res.own : ownKnob Try.prog.godebug = none := by kernel_rfl
theorem Res.laidOut : laidOutB Try.prog = true := by kernel_rfl
theorem Res.cells23 : Try.prog.cellsOf 23 = 2 := by kernel_rfl
theorem Res.readable : ∀ u ∈ [3, 23], Try.prog.readableRec u = true ∧ u < Try.prog.types.size := by
  have h3 : (Try.prog.readableRec 3 = true) := by kernel_rfl
  have h23 : (Try.prog.readableRec 23 = true) := by kernel_rfl
  have hs : decide (23 < Try.prog.types.size) = true := by kernel_rfl
  have hs := of_decide_eq_true hs
  intro u hu
  simp at hu
  rcases hu with rfl | rfl
  · exact ⟨h3, Nat.lt_trans (by decide) hs⟩
  · exact ⟨h23, hs⟩

set_option maxRecDepth 100000 in
theorem limits_lifted (os : Os) (started : os.Started) (H : Type) (enc : TypeId × Value → H) :
    ReturnsInHanded {} Try.checked os 3 .any (Rows.resvLimitsSpec.pre6 enc Try.prog Try.f3 Rows.resvLimitsRow.domain false) (Rows.resvLimitsSpec.post enc Try.prog Try.f3 false true false false) := by
  refine returnsInHanded_of_change (C := Try.checked) Res.own started (by kernel_rfl) Try.func3
    (ChangeSpec.witness6 (enc := enc) (C := Try.checked) false ⟨#[], #[.int .i64 0, .agg #[.int .i64 0, .int .i64 0]], []⟩ 8 (by kernel_rfl) (by kernel_rfl) (by kernel_rfl) (by kernel_rfl)) ?_
  intro W base args ds gs before hval0 hW hcnd _
  have hval : ∀ (j : Nat) t v, Try.f3.params[j]? = some t → args[j]? = some v → Value.okWide Try.prog W .any base t v := hval0
  have hW' : DataW.Whole enc Try.prog Try.f3.params.toList Rows.resvLimitsSpec.vars false W args.toList ds gs before := hW
  obtain ⟨p, q, hA0, hV, rfl, hfz, hnd⟩ := hW
  have hA : DataW.TrodAll enc Try.prog W 0 (fun _ => true) true Try.f3.params.toList args.toList ds p := hA0
  rw [Try.params3] at hA hval
  obtain ⟨v0, vs0, d0, ds0, p0, q0, hargs, rfl, rfl, h0, r0⟩ := trodAll_cons hA
  obtain ⟨v1, vs1, d1, ds1, p1, q1, rfl, rfl, rfl, h1, r1⟩ := trodAll_cons r0
  obtain ⟨rfl, rfl, rfl⟩ := trodAll_nil r1
  obtain rfl : args = #[v0, v1] := by cases args; simp_all
  obtain ⟨rfl, rfl⟩ := trodVars_none hV
  obtain ⟨n, rfl, _, _, _⟩ := open_int Try.underlying3 (hval 0 3 v0 rfl rfl) h0
  obtain ⟨c0, c1, y0, y1, m, rfl, _, _, hy0, hy1⟩ := open_agg2 Try.underlying23 (by kernel_rfl) Res.cells23 (hval 1 23 v1 rfl rfl) h1
  obtain ⟨a, e0, _, _⟩ := DataW.trod_int Try.underlying3 hy0
  obtain ⟨b, e1, _, _⟩ := DataW.trod_int Try.underlying3 hy1
  simp at e0 e1
  subst e0 e1
  refine (limits_law_any n a b W).mono ?_
  rintro e W' ⟨rfl, hb⟩
  exact ⟨_, rfl, post_law (t := 4) Res.laidOut rfl hW' rfl rfl rfl Try.underlying4 (by rw [Try.params3]; exact Res.readable) hb⟩

theorem resvLimits_holds : Rows.ResvLimitsSaid :=
  OpenClaim.holds_of_wide 3 Try.f3 rfl rfl rfl rfl rfl rfl rfl ⟨rfl, rfl, rfl, rfl, rfl⟩ rfl rfl rfl rfl rfl (by kernel_rfl) Try.func3 (by kernel_rfl)
    (of_decide_eq_true (by kernel_rfl)) (by unfold Func.isWrapper; rw [if_neg (by decide +kernel)]; exact ⟨rfl, rfl⟩)
    (fun os started H enc _ => limits_lifted os started H enc)
#print axioms resvLimits_holds
end Go.Proofs.Ytdkhpjeiepkldaa
