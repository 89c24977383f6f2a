/-
  OWN. THE LAW WindowExact, walked: the three parts joined.
-/
import Derived.Test.YtnbbacomhomnmaaExactA
import Derived.Test.YtnbbacomhomnmaaExactB
import Derived.Test.YtnbbacomhomnmaaExactC
set_option linter.unusedSimpArgs false
set_option linter.unusedVariables false
namespace Go.Proofs.Ytnbbacomhomnmaa
open Go.RowKit

set_option maxHeartbeats 2000000 in
theorem exact_law_any (A B C : Option Addr) (na nb nc ca cb cc : Nat) (La Lb Lc : List Sp) (t : Int) (w : World) (ha : RS w A na La) (hb : RS w B nb Lb) (hc : RS w C nc Lc)
    (hA : A = none → na = 0 ∧ ca = 0) (hB : B = none → nb = 0 ∧ cb = 0) (h1 : na ≤ maxLen) (h2 : nb ≤ maxLen) (h3 : nc ≤ maxLen) :
    Calls Try.prog 4 #[.slice A na ca, .slice B nb cb, .slice C nc cc, .int .i64 t] w fun e w' => e = .returned (.bool true) ∧ Below w.heap.size w w' := by
  simp only [maxLen] at h1 h2 h3
  obtain rfl := ha.len
  obtain rfl := hb.len
  obtain rfl := hc.len
  by_cases hg : La.length ≤ 24 ∧ Lb.length ≤ 24 ∧ Lc.length ≤ 24
  · obtain ⟨g1, g2, g3⟩ := hg
    cases hra : rightS (-1) La
    · exact exactA A B C ca cb cc La Lb Lc t w ha hb hc hA hB g1 g2 g3 hra
    · cases hrb : rightS (-1) Lb
      · exact exactB A B C ca cb cc La Lb Lc t w ha hb hc hA hB g1 g2 g3 hra hrb
      · exact exactC A B C ca cb cc La Lb Lc t w ha hb hc hA hB g1 g2 g3 hra hrb
  · go_enter Try.func4, Try.ntmps4
    by_cases g1 : La.length ≤ 24
    · by_cases g2 : Lb.length ≤ 24
      · have g3 : ¬ Lc.length ≤ 24 := fun h => hg ⟨g1, g2, h⟩
        clear hg
        go_wp2
        go_ret
        exact ⟨rfl, Below.refl _ _⟩
      · clear hg
        go_wp2
        go_ret
        exact ⟨rfl, Below.refl _ _⟩
    · clear hg
      go_wp2
      go_ret
      exact ⟨rfl, Below.refl _ _⟩
end Go.Proofs.Ytnbbacomhomnmaa
