/-
  OWN. RankCharges holds: whatever charges are made, and whatever is charged behind them, the law answers true and leaves its arguments as they were. No condition.
-/
import Derived.Test.YtbhhahnmpkegbaaRow
import Derived.Test.YtbhhahnmpkegbaaLaw
set_option linter.unusedSimpArgs false
set_option linter.unusedVariables false
namespace Go.Proofs.Ytbhhahnmpkegbaa
open Go.ChangeShapes Go.WideShapes Go.ChangeAt Go.RowKit

theorem Try.own : ownKnob Try.prog.godebug = none := by kernel_rfl
theorem Try.laidOut : laidOutB Try.prog = true := by kernel_rfl
theorem Try.readable : ∀ u ∈ [3, 3, 3, 22], Try.prog.readableRec u = true ∧ u < Try.prog.types.size := by
  have h3 : (Try.prog.readableRec 3 = true) := by kernel_rfl
  have h22 : (Try.prog.readableRec 22 = true) := by kernel_rfl
  have hs : decide (22 < Try.prog.types.size) = true := by kernel_rfl
  have hs := of_decide_eq_true hs
  intro u hu
  simp at hu
  rcases hu with rfl | rfl
  · exact ⟨h3, Nat.lt_trans (by decide) hs⟩
  · exact ⟨h22, hs⟩

/-- three ints as a use -/
def toU : List Int → U
  | [a, b, c] => (a, b, c)
  | _ => (0, 0, 0)
theorem cellsU_of {r : List Int} (h : r.length = 3) : intCells r = cellsU (toU r) := by
  match r, h with
  | [a, b, c], _ => rfl
theorem RU.of_rows {w : World} {A : Option Addr} {n : Nat} {R : List (List Int)} (h : Rows3 3 w A n (R.map intCells)) (hl : ∀ r ∈ R, r.length = 3) : RU w A n (R.map toU) := by
  unfold RU
  have e : (R.map toU).map cellsU = R.map intCells := by
    rw [List.map_map]
    exact List.map_congr_left (fun r hr => (cellsU_of (hl r hr)).symm)
  rw [e]
  exact h

set_option maxRecDepth 100000 in
theorem lifted (os : Os) (started : os.Started) (H : Type) (enc : TypeId × Value → H) :
    ReturnsInHanded {} Try.checked os 3 .any (Rows.rankChargesSpec.pre6 enc Try.prog Try.f3 Rows.rankChargesRow.domain false) (Rows.rankChargesSpec.post enc Try.prog Try.f3 false true false false) := by
  refine returnsInHanded_of_change (C := Try.checked) Try.own started (by kernel_rfl) Try.func3
    (ChangeSpec.witness6 (enc := enc) (C := Try.checked) false ⟨#[], #[.int .i64 0, .int .i64 0, .int .i64 0, .slice none 0 0], []⟩ 8 (by kernel_rfl) (by kernel_rfl) (by kernel_rfl) (by kernel_rfl)) ?_
  intro W base args ds gs before hval0 hW hcnd _
  have hval : ∀ (j : Nat) t v, Try.f3.params[j]? = some t → args[j]? = some v → Value.okWide Try.prog W .any base t v := hval0
  have hW' : DataW.Whole enc Try.prog Try.f3.params.toList Rows.rankChargesSpec.vars false W args.toList ds gs before := hW
  obtain ⟨p, q, hA0, hV, rfl, hfz, hnd⟩ := hW
  have hA : DataW.TrodAll enc Try.prog W 0 (fun _ => true) true Try.f3.params.toList args.toList ds p := hA0
  rw [Try.params3] at hA hval
  obtain ⟨v0, vs0, d0, ds0, p0, q0, hargs, rfl, rfl, h0, r0⟩ := trodAll_cons hA
  obtain ⟨v1, vs1, d1, ds1, p1, q1, rfl, rfl, rfl, h1, r1⟩ := trodAll_cons r0
  obtain ⟨v2, vs2, d2, ds2, p2, q2, rfl, rfl, rfl, h2, r2⟩ := trodAll_cons r1
  obtain ⟨v3, vs3, d3, ds3, p3, q3, rfl, rfl, rfl, h3, r3⟩ := trodAll_cons r2
  obtain ⟨rfl, rfl, rfl⟩ := trodAll_nil r3
  obtain rfl : args = #[v0, v1, v2, v3] := by cases args; simp_all
  obtain ⟨rfl, rfl⟩ := trodVars_none hV
  obtain ⟨user, rfl, _, _, _⟩ := open_int Try.underlying3 (hval 0 3 v0 rfl rfl) h0
  obtain ⟨sum, rfl, _, _, _⟩ := open_int Try.underlying3 (hval 1 3 v1 rfl rfl) h1
  obtain ⟨now, rfl, _, _, _⟩ := open_int Try.underlying3 (hval 2 3 v2 rfl rfl) h2
  obtain ⟨a3, len3, cap3, rfl⟩ := okWide_slice Try.underlying22 (hval 3 22 v3 rfl rfl)
  obtain ⟨fuel, hf⟩ := h3
  obtain ⟨A, n, c, R, hcs, hA1, hn, hl, hR, _⟩ := open_int_structs Try.underlying22 Try.underlying27 (by kernel_rfl) (by intro f hf; simp at hf; rcases hf with rfl | rfl | rfl <;> exact Try.underlying3) (by kernel_rfl) (by decide) hf
  have hv : Value.slice a3 len3 cap3 = .slice A n c := by simpa [Value.cells] using hcs
  refine (law_any user sum now A n c (R.map toU) W (RU.of_rows hR hl) hn).mono ?_ |> fun h => by rw [hv]; exact h
  rintro e W' ⟨rfl, hb⟩
  rw [← hv]
  exact ⟨_, rfl, post_law (t := 4) Try.laidOut rfl hW' rfl rfl rfl Try.underlying4 (by rw [Try.params3]; exact Try.readable) hb⟩

theorem rankCharges_holds : Rows.RankChargesSaid :=
  OpenClaim.holds_of_wide 3 Try.f3 rfl rfl rfl rfl rfl rfl rfl ⟨rfl, rfl, rfl, rfl, rfl⟩ rfl rfl rfl rfl rfl (by kernel_rfl) Try.func3 (by kernel_rfl)
    (of_decide_eq_true (by kernel_rfl)) (by unfold Func.isWrapper; rw [if_neg (by decide +kernel)]; exact ⟨rfl, rfl⟩)
    (fun os started H enc _ => lifted os started H enc)
#print axioms rankCharges_holds
end Go.Proofs.Ytbhhahnmpkegbaa
