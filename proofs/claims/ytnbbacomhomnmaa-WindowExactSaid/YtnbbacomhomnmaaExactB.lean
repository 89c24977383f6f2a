/-
  OWN. THE LAW WindowExact, walked: the second list is not right.
-/
import Derived.Test.YtnbbacomhomnmaaExactKit
set_option linter.unusedSimpArgs false
set_option linter.unusedVariables false
namespace Go.Proofs.Ytnbbacomhomnmaa
open Go.RowKit

set_option maxHeartbeats 4000000 in
theorem exactB (A B C : Option Addr) (ca cb cc : Nat) (La Lb Lc : List Sp) (t : Int) (w : World) (ha : RS w A La.length La) (hb : RS w B Lb.length Lb) (hc : RS w C Lc.length Lc)
    (hA : A = none → La.length = 0 ∧ ca = 0) (hB : B = none → Lb.length = 0 ∧ cb = 0) (g1 : La.length ≤ 24) (g2 : Lb.length ≤ 24) (g3 : Lc.length ≤ 24) (hra : rightS (-1) La = true) (hrb : rightS (-1) Lb = false) :
    Calls Try.prog 4 #[.slice A La.length ca, .slice B Lb.length cb, .slice C Lc.length cc, .int .i64 t] w fun e w' => e = .returned (.bool true) ∧ Below w.heap.size w w' := by
  have hcd := codeS_ok hra
  have hbadr : (rightS (-1) La && rightS (-1) Lb) = false := by rw [hra, hrb]; rfl
  go_enter Try.func4, Try.ntmps4
  go_wp2_with fail
  refine (twinSpans_any A _ ca La _ ha hA (by omega)).mono ?_
  rintro e w1 ⟨v1, rfl, ho1, hb1⟩
  go_wp2_with fail
  refine (twinSpans_any B _ cb Lb _ (hb.after hb1) hB (by omega)).mono ?_
  rintro e w2 ⟨v2, rfl, ho2, hb2⟩
  have hw2 := btwo hb1 hb2
  obtain ⟨X, cx, rfl, _, rx⟩ := RS.of_own ho1
  obtain ⟨Y, cy, rfl, _, ry⟩ := RS.of_own ho2
  have ra := ha.after hw2
  have rb := hb.after hw2
  have rc := hc.after hw2
  have rx := rx.after hb2
  clear ha hb hc hb1 hb2 ho1 ho2 hA hB
  go_wp2_with fail
  refine (right_any A _ ca La _ ra (by omega)).mono ?_
  rw [hra]
  rintro e w3 ⟨rfl, h3⟩
  go_wp2_with fail
  refine (right_any B _ cb Lb _ (rb.after h3) (by omega)).mono ?_
  rw [hrb]
  rintro e w4 ⟨rfl, hb4⟩
  have h4 := btwo h3 hb4
  clear h3 hb4
  go_wp2_with fail
  refine (check_any X _ cx La _ (rx.after h4) (by omega)).mono ?_
  rw [hcd]
  rintro e w5 ⟨rfl, hb5⟩
  have h5 := btwo h4 hb5
  clear h4 hb5
  go_wp2_with fail
  refine (right_any A _ ca La _ (ra.after h5) (by omega)).mono ?_
  rw [hra]
  rintro e w6 ⟨rfl, hb6⟩
  have h6 := btwo h5 hb6
  clear h5 hb6
  have hw6 := btwo hw2 h6
  have ra := ra.after h6
  have rb := rb.after h6
  have rc := rc.after h6
  have rx := rx.after h6
  have ry := ry.after h6
  clear h6 hw2 hcd
  go_wp2_with fail
  refine (meet_any X Y _ cx _ cy La Lb _ rx ry (by omega) (by omega)).mono ?_
  rintro e w7 ⟨hb7, ⟨_, rfl⟩ | ⟨hgood, _⟩⟩
  case inr => rw [hbadr] at hgood; cases hgood
  clear hbadr
  go_wp2
  go_loopw [14] (fun i wr => i = .int .i64 0 ∧ Below w6.heap.size w6 wr) (fun i _ => 0)
  case atStart => exact ⟨rfl, hb7⟩
  clear hb7
  case round =>
    obtain ⟨rfl, hbr⟩ := hrel
    by_cases hlt : (0 : Nat) < 0
    · exact absurd hlt (by omega)
    · clear hlt
      have L3 := RLL.three (ca := cx) (cb := cy) (cc := cc) (rx.after hbr) (ry.after hbr) (rc.after hbr) g1 g2 g3
      have hbr3 := hbr.alloc hbr.size (.cells #[.slice X La.length cx, .slice Y Lb.length cy, .slice C Lc.length cc] 22)
      have L3 := hide L3
      have hbr3 := hide hbr3
      go_wp2
      obtain ⟨wa, hwa⟩ : ∃ wa, wa = wr.alloc (.cells #[.slice X La.length cx, .slice Y Lb.length cy, .slice C Lc.length cc] 22) := ⟨_, rfl⟩
      rw [← hwa] at L3 hbr3 ⊢
      clear hwa hbr
      go_loopw [16] (fun i wr => ∃ k : Nat, k ≤ 4 ∧ i = .int .i64 k ∧ Below wa.heap.size wa wr) (fun i _ => 4 - (intOf i).toNat)
      case atStart => exact ⟨0, by omega, rfl, Below.refl _ _⟩
      case round =>
        obtain ⟨k, hk, rfl, hbz⟩ := hrel
        have hz6 : Below w6.heap.size w6 wr := bafter hbr3.out hbr3.out.size hbz
        by_cases hlt : k ≤ 3
        · have hL := hide ((L3.out.after hbz).take hlt)
          go_wp2_with fail
          refine (common_any _ k 3 ([La, Lb, Lc].take k) t _ hL.out (by omega)).mono ?_
          rintro e w10 ⟨hb10, D, hp, hs, rfl⟩
          have HS1 := hide (RefSpec.common hp hs)
          obtain ⟨r, hrr⟩ : ∃ r, r = commonD t ([La, Lb, Lc].take k) D := ⟨_, rfl⟩
          rw [← hrr] at HS1 ⊢
          clear hrr hp hs hL
          obtain ⟨r1, r2⟩ := r
          have hz10 : Below w6.heap.size w6 w10 := bafter hz6 hz6.size hb10
          have hza := btwo hbz hb10
          have hL2 := hide ((RLL.three (ca := ca) (cb := cb) (cc := cc) (ra.after hz10) (rb.after hz10) (rc.after hz10) g1 g2 g3).take hlt)
          have hza2 := hza.alloc hza.size (.cells #[.slice A La.length ca, .slice B Lb.length cb, .slice C Lc.length cc] 22)
          clear hbz hz6 hb10 hz10 hza
          go_wp2_with fail
          refine (refCommon_any _ k 3 ([La, Lb, Lc].take k) t _ hL2.out (by omega)).mono ?_
          rintro e w11 ⟨hb11, r', hs2, rfl⟩
          obtain rfl := HS1.out.one hs2
          have hz := bafter hza2 hza2.size hb11
          clear hza2 hb11 HS1 hs2 hL2
          go_wp2
          go_roundw
          case rel => exact ⟨k + 1, by omega, by go_num, hz⟩
          case measure => simp [intOf]; omega
        · clear L3 hbr3 hbz
          go_wp2_with fail
          refine (spans_any X A _ cx _ ca La La _ (rx.after hz6) (ra.after hz6) (by omega) (by omega)).mono ?_
          rw [show decide (La = La) = true from decide_eq_true rfl]
          rintro e w10 ⟨rfl, hb10⟩
          have hz10 : Below w6.heap.size w6 w10 := bafter hz6 hz6.size hb10
          clear hz6 hb10
          go_wp2_with fail
          refine (spans_any Y B _ cy _ cb Lb Lb _ (ry.after hz10) (rb.after hz10) (by omega) (by omega)).mono ?_
          rw [show decide (Lb = Lb) = true from decide_eq_true rfl]
          rintro e w11 ⟨rfl, hb11⟩
          have hz11 : Below w6.heap.size w6 w11 := bafter hz10 hz10.size hb11
          clear hz10 hb11
          go_wp2_with fail
          refine (wakes_any _).mono ?_
          rintro e w12 ⟨rfl, hb12⟩
          go_wp2
          go_ret
          exact ⟨rfl, bafter hw6 hw6.size (bafter hz11 hz11.size hb12)⟩
end Go.Proofs.Ytnbbacomhomnmaa
