/-
  OWN. SMALL LAWS FOR THE WALK of WindowExact.
-/
import Derived.Test.YtnbbacomhomnmaaCommonLaw
import Derived.Test.YtnbbacomhomnmaaMeetsLaw
import Derived.Test.YtnbbacomhomnmaaWalkH
import Derived.Test.YtnbbacomhomnmaaWalkI
import Derived.Deep.AppendLies
set_option linter.unusedSimpArgs false
set_option linter.unusedVariables false
namespace Go.Proofs.Ytnbbacomhomnmaa
open Go.RowKit

theorem RLL.take {w : World} {A : Option Addr} {n : Nat} {Ls : List (List Sp)} (h : RLL w A n Ls) {k : Nat} (hk : k ≤ n) : RLL w A k (Ls.take k) :=
  ⟨by rw [List.length_take, h.1]; omega, fun h0 => by
    obtain ⟨b, o, e, hb, hc⟩ := h.2 (by omega)
    refine ⟨b, o, e, hb, fun i L hL => hc i L ?_⟩
    rw [List.getElem?_take] at hL
    split at hL
    · exact hL
    · cases hL⟩
theorem ownsRow_below {base : Nat} {e : TypeId} {size : Nat} {w w' : World} {v : Value} {n : Nat} {xs : List Value} (h : w.ownsRow base e size v n xs) (hb : Below w.heap.size w w') : w'.ownsRow base e size v n xs := by
  refine ⟨h.1, ?_⟩
  rcases h.2 with h0 | ⟨g, cap, cur, hv, hg, hh, h1, h2, h3, h4⟩
  · exact .inl h0
  · exact .inr ⟨g, cap, cur, hv, hg, by rw [hb.block g (Array.getElem?_eq_some_iff.1 hh).1]; exact hh, h1, h2, h3, h4⟩
end Go.Proofs.Ytnbbacomhomnmaa
