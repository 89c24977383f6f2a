/-
  OWN. SPANS OUT OF ROWS OF INTS.
-/
import Derived.Test.YtnbbacomhomnmaaRow
import Derived.Test.YtnbbacomhomnmaaWalkA
set_option linter.unusedSimpArgs false
set_option linter.unusedVariables false
namespace Go.Proofs.Ytnbbacomhomnmaa
open Go.ChangeShapes Go.WideShapes Go.ChangeAt Go.RowKit

/-- two ints as a span -/
def toS : List Int → Sp
  | [a, b] => (a, b)
  | _ => (0, 0)
theorem cellsS_of {r : List Int} (h : r.length = 2) : intCells r = cellsS (toS r) := by
  match r, h with
  | [a, b], _ => rfl
theorem RS.of_rows {w : World} {A : Option Addr} {n : Nat} {R : List (List Int)} (h : Rows3 2 w A n (R.map intCells)) (hl : ∀ r ∈ R, r.length = 2) : RS w A n (R.map toS) := by
  unfold RS
  have e : (R.map toS).map cellsS = R.map intCells := by
    rw [List.map_map]
    exact List.map_congr_left (fun r hr => (cellsS_of (hl r hr)).symm)
  rw [e]
  exact h

end Go.Proofs.Ytnbbacomhomnmaa
