/-
  OWN. THE WALKS of slices.BinarySearchFunc at uses, and rank.find.
-/
import Derived.Test.YtbhhahnmpkegbaaWalkA
set_option linter.unusedSimpArgs false
set_option linter.unusedVariables false
namespace Go.Proofs.Ytbhhahnmpkegbaa
open Go.RowKit

theorem cmpI_lt {x y : Int} (h : x < y) : cmpI x y = -1 := by unfold cmpI; rw [if_pos h]
theorem cmpI_gt {x y : Int} (h : y < x) : cmpI x y = 1 := by unfold cmpI; rw [if_neg (by omega), if_pos h]
theorem cmpI_eq {x y : Int} (h : x = y) : cmpI x y = 0 := by unfold cmpI; rw [if_neg (by omega), if_neg (by omega)]

set_option maxHeartbeats 400000 in
theorem bsearch_any (A : Option Addr) (n c : Nat) (L : List U) (u : Int) (w : World) (h : RU w A n L) (hn : n < 1000000) (hr : rightL (-1) L = true) :
    Calls Try.prog 16 #[.slice A n c, .int .i64 u, .func (.func 17) #[] #[]] w fun e w' => e = .returned (.tuple #[.int .i64 (placeU L u), .bool (hasU L u)]) ∧ Below w.heap.size w w' := by
  have hlen := h.len
  have hple : placeU L u ≤ n := by rw [← hlen]; exact placeU_le L u
  have HL := hide hlen
  have HR := hide hr
  clear hlen hr
  go_enter Try.func16, Try.ntmps16
  go_wp2
  go_loopw [9, 10] (fun i j wr => ∃ a b : Nat, a ≤ placeU L u ∧ placeU L u ≤ b ∧ b ≤ n ∧ i = .int .i64 a ∧ j = .int .i64 b ∧ Below w.heap.size w wr) (fun i j _ => (intOf j).toNat - (intOf i).toNat)
  case atStart => exact ⟨0, n, by omega, hple, by omega, rfl, rfl, by go_grown⟩
  case round =>
    obtain ⟨a, b, ha, hpb, hbn, rfl, rfl, hb⟩ := hrel
    by_cases hlt : a < b
    · obtain ⟨bl, o, x, rfl, hbl, hx, c0, c1, c2⟩ := (h.after hb).at_ (i := (a + b) / 2) (by omega)
      have hpl := placeU_lt L (-1) HR.out u ((a + b) / 2) x hx
      have HP := hide hpl
      clear h hx hpl
      go_wp2_with fail
      by_cases hxu : x.1 < u
      · have hm : (a + b) / 2 < placeU L u := HP.out.1 hxu
        refine (findCmp_any x u _).mono ?_
        rw [cmpI_lt hxu]
        rintro e w1 ⟨rfl, hb1⟩
        clear c0 c1 c2
        go_wp2
        go_roundw
        case rel => exact ⟨(a + b) / 2 + 1, b, by omega, hpb, hbn, by go_num, rfl, bafter hb hb.size hb1⟩
        case measure => simp [intOf]; omega
      · have hm : placeU L u ≤ (a + b) / 2 := by
          have := HP.out.2
          omega
        refine (findCmp_any x u _).mono ?_
        have hc : 0 ≤ cmpI x.1 u := by unfold cmpI; rw [if_neg hxu]; split <;> omega
        rintro e w1 ⟨rfl, hb1⟩
        clear c0 c1 c2
        go_wp2
        go_roundw
        case rel => exact ⟨a, (a + b) / 2, ha, hm, by omega, rfl, by go_num, bafter hb hb.size hb1⟩
        case measure => simp [intOf]; omega
    · obtain rfl : a = b := by omega
      obtain rfl : placeU L u = a := by omega
      clear ha hpb hple
      by_cases hn2 : placeU L u < n
      · obtain ⟨bl, o, x, rfl, hbl, hx, c0, c1, c2⟩ := (h.after hb).at_ hn2
        have HH := hide (hasU_some hx)
        clear h hx
        go_wp2_with fail
        by_cases hxu : x.1 = u
        · refine (findCmp_any x u _).mono ?_
          rw [cmpI_eq hxu]
          rintro e w1 ⟨rfl, hb1⟩
          clear c0 c1 c2
          go_wp2
          go_ret2
          refine ⟨?_, bafter hb hb.size hb1⟩
          rw [HH.out, decide_eq_true hxu]; rfl
        · have hc : (cmpI x.1 u == 0) = false := by unfold cmpI; split <;> (try split) <;> simp; omega
          refine (findCmp_any x u _).mono ?_
          rintro e w1 ⟨rfl, hb1⟩
          clear c0 c1 c2
          go_wp2
          go_ret2
          refine ⟨?_, bafter hb hb.size hb1⟩
          rw [HH.out, decide_eq_false hxu]; rfl
      · have HH := hide (hasU_none (L := L) (u := u) (List.getElem?_eq_none (by rw [HL.out]; omega)))
        go_wp2
        go_ret2
        refine ⟨?_, hb⟩
        rw [HH.out]; rfl

set_option maxHeartbeats 400000 in
theorem find_any (A : Option Addr) (n c : Nat) (L : List U) (u : Int) (w : World) (h : RU w A n L) (hn : n < 1000000) (hr : rightL (-1) L = true) :
    Calls Try.prog 9 #[.slice A n c, .int .i64 u] w fun e w' => e = .returned (.tuple #[.int .i64 (placeU L u), .bool (hasU L u)]) ∧ Below w.heap.size w w' := by
  go_enter Try.func9, Try.ntmps9
  go_wp2_with (go_at_call 16; refine (bsearch_any A n c L u _ h hn hr).mono ?_; rintro e w1 ⟨rfl, hb1⟩)
  go_ret2
  exact ⟨rfl, hb1⟩
end Go.Proofs.Ytbhhahnmpkegbaa
