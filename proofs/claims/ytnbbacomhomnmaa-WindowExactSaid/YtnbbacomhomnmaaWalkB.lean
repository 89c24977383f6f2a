/-
  OWN. THE WALK of hanseref19.Right.
-/
import Derived.Test.YtnbbacomhomnmaaWalkA
set_option linter.unusedSimpArgs false
set_option linter.unusedVariables false
namespace Go.Proofs.Ytnbbacomhomnmaa
open Go.RowKit

def spanB (x y : Int) : Bool := decide (0 ≤ x) && decide (x < y) && decide (y ≤ 1099511627776)
theorem spanB_iff {x y : Int} : spanB x y = true ↔ 0 ≤ x ∧ x < y ∧ y ≤ 1099511627776 := by simp [spanB, and_assoc]
theorem span_b (x y : Int) (w : World) : Calls Try.prog 21 #[.int .i64 x, .int .i64 y] w fun e w' => e = .returned (.bool (spanB x y)) ∧ w = w' := span_any x y w

def PrevS (L : List Sp) (k : Nat) (p : Int) : Prop := -1 ≤ p ∧ (k = 0 → p = -1) ∧ (0 < k → ∃ y, L[k - 1]? = some y ∧ y.2 = p)
theorem PrevS.next {L : List Sp} {k : Nat} {x : Sp} (h : L[k]? = some x) (h2 : -1 ≤ x.2) : PrevS L (k + 1) x.2 := ⟨h2, fun e => by omega, fun _ => ⟨x, by simpa using h, rfl⟩⟩

set_option maxHeartbeats 1000000 in
theorem right_any (A : Option Addr) (n c : Nat) (L : List Sp) (w : World) (h : RS w A n L) (hn : n < 1000000) :
    Calls Try.prog 11 #[.slice A n c] w fun e w' => e = .returned (.bool (rightS (-1) L)) ∧ Below w.heap.size w w' := by
  go_enter Try.func11, Try.ntmps11
  go_wp2
  go_loopw [3] (fun i wr => ∃ (k : Nat) (p : Int), k ≤ n ∧ i = .int .i64 k ∧ Below w.heap.size w wr ∧ Hid (PrevS L k p) ∧ Hid (rightS (-1) L = rightS p (L.drop k))) (fun i _ => n - (intOf i).toNat)
  case atStart => exact ⟨0, -1, by omega, rfl, by go_grown, ⟨by omega, fun _ => rfl, fun h => absurd h (by omega)⟩, rfl⟩
  case round =>
    obtain ⟨k, p, hk, rfl, hb, HP, HR⟩ := hrel
    by_cases hlt : k < n
    · obtain ⟨b, o, x, rfl, hbl, hx, c0, c1⟩ := (h.after hb).at_ hlt
      obtain ⟨y, hy⟩ : ∃ y : Sp, 0 < k → y.2 = p ∧ wr.cell? ⟨b, o + (k - 1) * 2 + 1, none⟩ = some (.int .i64 y.2) := by
        by_cases h0 : 0 < k
        · obtain ⟨b', o', y, he, _, hy, d0, d1⟩ := (h.after hb).at_ (i := k - 1) (by omega)
          simp only [Option.some.injEq, Addr.mk.injEq, and_true] at he
          obtain ⟨rfl, rfl⟩ := he
          obtain ⟨z, hz, hzp⟩ := HP.out.2.2 h0
          rw [hy] at hz
          injection hz with hz
          exact ⟨y, fun _ => ⟨by rw [hz]; exact hzp, d1⟩⟩
        · exact ⟨x, fun h => absurd h h0⟩
      have HX := hide hx
      have HY := hide hy
      have hp1 : -1 ≤ p := HP.out.1
      clear hx hy h
      go_wp2
      have W0 : ∀ s : BW wr, s.w.cell? ⟨b, o + k * 2, none⟩ = some (.int .i64 x.1) := BW.cell c0
      have W1 : ∀ s : BW wr, s.w.cell? ⟨b, o + k * 2 + 1, none⟩ = some (.int .i64 x.2) := BW.cell c1
      have e2 : (0 : Int) ≤ (k : Int) := by omega
      have e3 : (k : Int) < (n : Int) := by omega
      cases hr : spanB x.1 x.2
      · have HN : rightS (-1) L = false := by
          rw [HR.out, drop_at HX.out]
          refine rightS_no fun hc => ?_
          have := spanB_iff.2 (show 0 ≤ x.1 ∧ x.1 < x.2 ∧ x.2 ≤ 1099511627776 by omega)
          rw [hr] at this
          cases this
        refine wp_region_bw (by kernel_rfl) (by kernel_rfl) ?_
        repeat (go_big_quiet_step ((go_at_call 21; exact Calls.bw_same (span_b x.1 x.2 _))))
        refine wpQuiet_nil ?_
        rintro _ ⟨s, rfl⟩
        go_wp2
        go_ret
        first | exact ⟨rfl, hb.trans (s.h.mono hb.size)⟩ | exact ⟨ret_bool HN.symm, hb.trans (s.h.mono hb.size)⟩
      · have hsp := spanB_iff.1 hr
        by_cases h0 : 0 < k
        · obtain ⟨hyp, hyc⟩ := HY.out h0
          have W3 : ∀ s : BW wr, s.w.cell? ⟨b, o + (k - 1) * 2 + 1, none⟩ = some (.int .i64 y.2) := BW.cell hyc
          have hk1 : ((k : Int) - 1).toNat = k - 1 := by omega
          have hk2 : (0 : Int) ≤ (k : Int) - 1 := by omega
          have hk3 : (k : Int) - 1 < (n : Int) := by omega
          refine wp_region_bw (by kernel_rfl) (by kernel_rfl) ?_
          repeat (go_big_quiet_step ((go_at_call 21; exact Calls.bw_same (span_b x.1 x.2 _))))
          refine wpQuiet_nil ?_
          rintro _ ⟨s, rfl⟩
          have hs : Below w.heap.size w s.w := hb.trans (s.h.mono hb.size)
          clear W0 W1 W3
          by_cases hle : x.1 ≤ y.2
          · have HN : rightS (-1) L = false := by
              rw [HR.out, drop_at HX.out]
              exact rightS_no (by omega)
            go_wp2
            go_ret
            first | exact ⟨rfl, hs⟩ | exact ⟨ret_bool HN.symm, hs⟩
          · have HN : rightS (-1) L = rightS x.2 (L.drop (k + 1)) := by rw [HR.out, drop_at HX.out, rightS_yes (by omega)]
            have HQ : PrevS L (k + 1) x.2 := PrevS.next HX.out (by omega)
            go_wp2
            go_roundw
            case rel => exact ⟨k + 1, x.2, by omega, by go_num, hs, HQ, HN⟩
            case measure => simp [intOf]; omega
        · have hp : p = -1 := HP.out.2.1 (by omega)
          have HN : rightS (-1) L = rightS x.2 (L.drop (k + 1)) := by rw [HR.out, drop_at HX.out, rightS_yes (by omega)]
          have HQ : PrevS L (k + 1) x.2 := PrevS.next HX.out (by omega)
          have hd : decide (0 < k) = false := by simp; omega
          refine wp_region_bw (by kernel_rfl) (by kernel_rfl) ?_
          repeat (go_big_quiet_step ((go_at_call 21; exact Calls.bw_same (span_b x.1 x.2 _))))
          refine wpQuiet_nil ?_
          rintro _ ⟨s, rfl⟩
          have hs : Below w.heap.size w s.w := hb.trans (s.h.mono hb.size)
          clear W0 W1
          go_wp2
          go_roundw
          case rel => exact ⟨k + 1, x.2, by omega, by go_num, hs, HQ, HN⟩
          case measure => simp [intOf]; omega
    · have HN : rightS (-1) L = true := by rw [HR.out, List.drop_eq_nil_of_le (by rw [h.len]; omega)]; rfl
      go_wp2
      go_ret
      first | exact ⟨rfl, hb⟩ | exact ⟨ret_bool HN.symm, hb⟩
end Go.Proofs.Ytnbbacomhomnmaa
