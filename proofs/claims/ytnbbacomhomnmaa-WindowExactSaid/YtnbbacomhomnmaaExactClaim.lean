/-
  OWN. WindowExact holds: whatever lists and tick, the law answers true and leaves its arguments as they were. No condition.
-/
import Derived.Test.YtnbbacomhomnmaaRow
import Derived.Test.YtnbbacomhomnmaaExactLaw
import Derived.Test.YtnbbacomhomnmaaRowS
set_option linter.unusedSimpArgs false
set_option linter.unusedVariables false
namespace Go.Proofs.Ytnbbacomhomnmaa
open Go.ChangeShapes Go.WideShapes Go.ChangeAt Go.RowKit

theorem Exa.own : ownKnob Try.prog.godebug = none := by kernel_rfl
theorem Exa.laidOut : laidOutB Try.prog = true := by kernel_rfl
theorem Exa.readable : ∀ u ∈ [22, 22, 22, 3], Try.prog.readableRec u = true ∧ u < Try.prog.types.size := by
  have h3 : (Try.prog.readableRec 3 = true) := by kernel_rfl
  have h22 : (Try.prog.readableRec 22 = true) := by kernel_rfl
  have hs : decide (22 < Try.prog.types.size) = true := by kernel_rfl
  have hs := of_decide_eq_true hs
  intro u hu
  simp at hu
  rcases hu with rfl | rfl
  · exact ⟨h22, hs⟩
  · exact ⟨h3, Nat.lt_trans (by decide) hs⟩

set_option maxRecDepth 100000 in
theorem exact_lifted (os : Os) (started : os.Started) (H : Type) (enc : TypeId × Value → H) :
    ReturnsInHanded {} Try.checked os 4 .any (Rows.windowExactSpec.pre6 enc Try.prog Try.f4 Rows.windowExactRow.domain false) (Rows.windowExactSpec.post enc Try.prog Try.f4 false true false false) := by
  refine returnsInHanded_of_change (C := Try.checked) Exa.own started (by kernel_rfl) Try.func4
    (ChangeSpec.witness6 (enc := enc) (C := Try.checked) false ⟨#[], #[.slice none 0 0, .slice none 0 0, .slice none 0 0, .int .i64 0], []⟩ 8 (by kernel_rfl) (by kernel_rfl) (by kernel_rfl) (by kernel_rfl)) ?_
  intro W base args ds gs before hval0 hW hcnd _
  have hval : ∀ (j : Nat) t v, Try.f4.params[j]? = some t → args[j]? = some v → Value.okWide Try.prog W .any base t v := hval0
  have hW' : DataW.Whole enc Try.prog Try.f4.params.toList Rows.windowExactSpec.vars false W args.toList ds gs before := hW
  obtain ⟨p, q, hA0, hV, rfl, hfz, hnd⟩ := hW
  have hA : DataW.TrodAll enc Try.prog W 0 (fun _ => true) true Try.f4.params.toList args.toList ds p := hA0
  rw [Try.params4] at hA hval
  obtain ⟨v0, vs0, d0, ds0, p0, q0, hargs, rfl, rfl, h0, r0⟩ := trodAll_cons hA
  obtain ⟨v1, vs1, d1, ds1, p1, q1, rfl, rfl, rfl, h1, r1⟩ := trodAll_cons r0
  obtain ⟨v2, vs2, d2, ds2, p2, q2, rfl, rfl, rfl, h2, r2⟩ := trodAll_cons r1
  obtain ⟨v3, vs3, d3, ds3, p3, q3, rfl, rfl, rfl, h3, r3⟩ := trodAll_cons r2
  obtain ⟨rfl, rfl, rfl⟩ := trodAll_nil r3
  obtain rfl : args = #[v0, v1, v2, v3] := by cases args; simp_all
  obtain ⟨rfl, rfl⟩ := trodVars_none hV
  obtain ⟨t, rfl, _, _, _⟩ := open_int Try.underlying3 (hval 3 3 v3 rfl rfl) h3
  obtain ⟨a0, len0, cap0, rfl⟩ := okWide_slice Try.underlying22 (hval 0 22 v0 rfl rfl)
  obtain ⟨a1, len1, cap1, rfl⟩ := okWide_slice Try.underlying22 (hval 1 22 v1 rfl rfl)
  obtain ⟨a2, len2, cap2, rfl⟩ := okWide_slice Try.underlying22 (hval 2 22 v2 rfl rfl)
  obtain ⟨fuel0, hf0⟩ := h0
  obtain ⟨fuel1, hf1⟩ := h1
  obtain ⟨fuel2, hf2⟩ := h2
  obtain ⟨A, n, c, R, hcs, hA0, hn, hl, hR, _⟩ := open_int_structs Try.underlying22 Try.underlying37 (by kernel_rfl) (by intro f hf; simp at hf; rcases hf with rfl | rfl <;> exact Try.underlying3) (by kernel_rfl) (by decide) hf0
  obtain ⟨A', n', c', R', hcs', hA1, hn', hl', hR', _⟩ := open_int_structs Try.underlying22 Try.underlying37 (by kernel_rfl) (by intro f hf; simp at hf; rcases hf with rfl | rfl <;> exact Try.underlying3) (by kernel_rfl) (by decide) hf1
  obtain ⟨A2, n2, c2, R2, hcs2, _, hn2, hl2, hR2, _⟩ := open_int_structs Try.underlying22 Try.underlying37 (by kernel_rfl) (by intro f hf; simp at hf; rcases hf with rfl | rfl <;> exact Try.underlying3) (by kernel_rfl) (by decide) hf2
  have hv : Value.slice a0 len0 cap0 = .slice A n c := by simpa [Value.cells] using hcs
  have hv' : Value.slice a1 len1 cap1 = .slice A' n' c' := by simpa [Value.cells] using hcs'
  have hv2 : Value.slice a2 len2 cap2 = .slice A2 n2 c2 := by simpa [Value.cells] using hcs2
  refine (exact_law_any A A' A2 n n' n2 c c' c2 (R.map toS) (R'.map toS) (R2.map toS) t W (RS.of_rows hR hl) (RS.of_rows hR' hl') (RS.of_rows hR2 hl2) hA0 hA1 hn hn' hn2).mono ?_ |> fun h => by rw [hv, hv', hv2]; exact h
  rintro e W' ⟨rfl, hb⟩
  rw [← hv, ← hv', ← hv2]
  exact ⟨_, rfl, post_law (t := 4) Exa.laidOut rfl hW' rfl rfl rfl Try.underlying4 (by rw [Try.params4]; exact Exa.readable) hb⟩

theorem windowExact_holds : Rows.WindowExactSaid :=
  OpenClaim.holds_of_wide 4 Try.f4 rfl rfl rfl rfl rfl rfl rfl ⟨rfl, rfl, rfl, rfl, rfl⟩ rfl rfl rfl rfl rfl (by kernel_rfl) Try.func4 (by kernel_rfl)
    (of_decide_eq_true (by kernel_rfl)) (by unfold Func.isWrapper; rw [if_neg (by decide +kernel)]; exact ⟨rfl, rfl⟩)
    (fun os started H enc _ => exact_lifted os started H enc)
#print axioms windowExact_holds
end Go.Proofs.Ytnbbacomhomnmaa
