/-
  No cell of these rows narrows 'for every input' (looked for: loops, veiled, ifaces, maps, wideKeys, modest, calm, conditions, laid).
  DERIVED. THE GIVEN ROWS OF THIS SEAT. 3 by the template 'for every input the law returns true; each argument reads behind the call as it read before'; 0 by the template 'total and deterministic' (their statements: YtnbbacomhomnmaaTotals.lean).
  GIVEN WITH THE SEED: the statements are not yours to turn. If you find one false, say at which input.
  Laid BY PROGRAM, IN A SANDBOX (cutbox-rows.mjs): the forced cells as the released guide's own fill.sh prints them over the translation 44eca8bf0685479b… (all of the seat's roots in one cut). By AI agents, Wed Nov 11 2026. No macro, syntax, notation, axiom, sorry.
-/
import Derived.Test.YtnbbacomhomnmaaChecked
import GoSem.Claim
import GoSem.ClaimJoined
import GoSem.ClaimMapViews
import Derived.JoinedTies
import Derived.KernelRfl
namespace Go.Proofs.Ytnbbacomhomnmaa
/- THE CELL 'sum', in the pinned program and in every row, IS THE sha256 OF THE DUMP (.gsa) THAT YtnbbacomhomnmaaProg.lean LOADS. Nothing in Lean hashes anything: it is a label: what it is worth is what the hold of that sum in a sandbox is worth. -/
noncomputable def Try.pinned : Pinned := { name := "ytnbbacomhomnmaa", sum := "44eca8bf0685479bd446b225f3c89add4c4c714f410dddd1ba2448f0cebabec7", checked := Try.checked }
namespace Rows
def none {H : Type} : Left H := { results := [], args := [] }

/-- 'hanselaw19.WindowCommon': WHATEVER THE INPUT: true; the input reads as it did. -/
def windowCommonSpec : ChangeSpec := { name := "windowCommon", fn := fun _ => fun
  | [d1, d2, d3, d4] => { results := [.lit (.bool true)], args := [d1, d2, d3, d4] }
  | _ => none }
def windowCommonRow : OpenClaim := { program := "ytnbbacomhomnmaa", sum := "44eca8bf0685479bd446b225f3c89add4c4c714f410dddd1ba2448f0cebabec7", func := "hanse/hanselaw19.WindowCommon", spec := "windowCommon", unfollowed := true, recurses := true, apart := false }
def WindowCommonSaid : Prop := windowCommonRow.holds Try.pinned (OpenSpec.ofChange windowCommonSpec)

/-- ITS FALSE NEIGHBOUR: 'it returns false'. Refute it at one input. -/
def windowCommonWrong : ChangeSpec := { name := "windowCommon", fn := fun _ => fun
  | [d1, d2, d3, d4] => { results := [.lit (.bool false)], args := [d1, d2, d3, d4] }
  | _ => none }
def WindowCommonWrongFalsely : Prop := windowCommonRow.holds Try.pinned (OpenSpec.ofChange windowCommonWrong)

/-- 'hanselaw19.WindowExact': WHATEVER THE INPUT: true; the input reads as it did. -/
def windowExactSpec : ChangeSpec := { name := "windowExact", fn := fun _ => fun
  | [d1, d2, d3, d4] => { results := [.lit (.bool true)], args := [d1, d2, d3, d4] }
  | _ => none }
def windowExactRow : OpenClaim := { program := "ytnbbacomhomnmaa", sum := "44eca8bf0685479bd446b225f3c89add4c4c714f410dddd1ba2448f0cebabec7", func := "hanse/hanselaw19.WindowExact", spec := "windowExact", unfollowed := true, recurses := true, apart := false }
def WindowExactSaid : Prop := windowExactRow.holds Try.pinned (OpenSpec.ofChange windowExactSpec)

/-- ITS FALSE NEIGHBOUR: 'it returns false'. Refute it at one input. -/
def windowExactWrong : ChangeSpec := { name := "windowExact", fn := fun _ => fun
  | [d1, d2, d3, d4] => { results := [.lit (.bool false)], args := [d1, d2, d3, d4] }
  | _ => none }
def WindowExactWrongFalsely : Prop := windowExactRow.holds Try.pinned (OpenSpec.ofChange windowExactWrong)

/-- 'hanselaw19.WindowMeets': WHATEVER THE INPUT: true; the input reads as it did. -/
def windowMeetsSpec : ChangeSpec := { name := "windowMeets", fn := fun _ => fun
  | [d1, d2, d3] => { results := [.lit (.bool true)], args := [d1, d2, d3] }
  | _ => none }
def windowMeetsRow : OpenClaim := { program := "ytnbbacomhomnmaa", sum := "44eca8bf0685479bd446b225f3c89add4c4c714f410dddd1ba2448f0cebabec7", func := "hanse/hanselaw19.WindowMeets", spec := "windowMeets", unfollowed := true, recurses := true, apart := false }
def WindowMeetsSaid : Prop := windowMeetsRow.holds Try.pinned (OpenSpec.ofChange windowMeetsSpec)

/-- ITS FALSE NEIGHBOUR: 'it returns false'. Refute it at one input. -/
def windowMeetsWrong : ChangeSpec := { name := "windowMeets", fn := fun _ => fun
  | [d1, d2, d3] => { results := [.lit (.bool false)], args := [d1, d2, d3] }
  | _ => none }
def WindowMeetsWrongFalsely : Prop := windowMeetsRow.holds Try.pinned (OpenSpec.ofChange windowMeetsWrong)

/- THE SECOND FORM. 'bulk': how many values and letters a reading holds, each counted each time it is reached (what is shared counts as often as it is met; a slice's spare places count too). A statement '..UptoSaid' is the law's where the arguments, and the package variables that the reading takes, are together of bulk at most 1048576: NARROWER than '..Said'. Prove '..Said' where nothing that the law and all that it calls make is longer than what came in: it says more and counts as full. Else prove '..UptoSaid'. A law counts once. -/
mutual
def uptoBulk {H : Type} : DataW H → Nat
  | .lit (.string bytes) => bytes.length + 1
  | .lit _ => 1
  | .nil => 1
  | .ptr d => uptoBulk d + 1
  | .slice elems spare => uptoBulkAll elems + uptoBulkAll spare + 1
  | .agg parts => uptoBulkAll parts + 1
  | .iface _ d => uptoBulk d + 1
  | .map entries => uptoBulkEntries entries + 1
  | .held _ => 1
def uptoBulkAll {H : Type} : List (DataW H) → Nat
  | [] => 0
  | d :: r => uptoBulk d + uptoBulkAll r
def uptoBulkEntries {H : Type} : List (Lit × DataW H) → Nat
  | [] => 0
  | x :: r => uptoBulkEntry x + uptoBulkEntries r
def uptoBulkEntry {H : Type} : Lit × DataW H → Nat
  | (.string bytes, d) => bytes.length + uptoBulk d + 1
  | (_, d) => uptoBulk d + 1
 end
def uptoSmall : (H : Type) → List (DataW H) → Bool := fun _ ds => decide (uptoBulkAll ds ≤ 1048576)
def OpenSpec.upto (s : _root_.Go.ChangeSpec) : _root_.Go.OpenSpec := { _root_.Go.OpenSpec.ofChange s with cond := some uptoSmall }

/-- 'hanselaw19.WindowCommon', WHERE WHAT IT READS IS OF BULK AT MOST 1048576: true; the input reads as it did. -/
def windowCommonUptoRow : OpenClaim := { program := "ytnbbacomhomnmaa", sum := "44eca8bf0685479bd446b225f3c89add4c4c714f410dddd1ba2448f0cebabec7", func := "hanse/hanselaw19.WindowCommon", spec := "windowCommon", unfollowed := true, recurses := true, apart := false, narrowed := true }
def WindowCommonUptoSaid : Prop := windowCommonUptoRow.holds Try.pinned (OpenSpec.upto windowCommonSpec)

/-- 'hanselaw19.WindowExact', WHERE WHAT IT READS IS OF BULK AT MOST 1048576: true; the input reads as it did. -/
def windowExactUptoRow : OpenClaim := { program := "ytnbbacomhomnmaa", sum := "44eca8bf0685479bd446b225f3c89add4c4c714f410dddd1ba2448f0cebabec7", func := "hanse/hanselaw19.WindowExact", spec := "windowExact", unfollowed := true, recurses := true, apart := false, narrowed := true }
def WindowExactUptoSaid : Prop := windowExactUptoRow.holds Try.pinned (OpenSpec.upto windowExactSpec)

/-- 'hanselaw19.WindowMeets', WHERE WHAT IT READS IS OF BULK AT MOST 1048576: true; the input reads as it did. -/
def windowMeetsUptoRow : OpenClaim := { program := "ytnbbacomhomnmaa", sum := "44eca8bf0685479bd446b225f3c89add4c4c714f410dddd1ba2448f0cebabec7", func := "hanse/hanselaw19.WindowMeets", spec := "windowMeets", unfollowed := true, recurses := true, apart := false, narrowed := true }
def WindowMeetsUptoSaid : Prop := windowMeetsUptoRow.holds Try.pinned (OpenSpec.upto windowMeetsSpec)

end Rows
end Go.Proofs.Ytnbbacomhomnmaa
