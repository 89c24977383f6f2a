/-
  OWN. THE LAW WindowCommon, walked.
-/
import Derived.Test.YtnbbacomhomnmaaSweep
import Derived.Test.YtnbbacomhomnmaaWalkF
set_option linter.unusedSimpArgs false
set_option linter.unusedVariables false
namespace Go.Proofs.Ytnbbacomhomnmaa
open Go.RowKit

/-- three lists in a new block -/
theorem RLL.three {w : World} {A B C : Option Addr} {na nb nc ca cb cc : Nat} {La Lb Lc : List Sp} (ha : RS w A na La) (hb : RS w B nb Lb) (hc : RS w C nc Lc) (h1 : na ≤ 24) (h2 : nb ≤ 24) (h3 : nc ≤ 24) :
    RLL (w.alloc (.cells #[.slice A na ca, .slice B nb cb, .slice C nc cc] 22)) (some ⟨w.heap.size, 0, none⟩) 3 [La, Lb, Lc] := by
  have hbw : Below w.heap.size w (w.alloc (.cells #[.slice A na ca, .slice B nb cb, .slice C nc cc] 22)) := (Below.refl _ _).alloc (Nat.le_refl _) _
  refine ⟨rfl, fun _ => ⟨w.heap.size, 0, rfl, by simp, fun i L hL => ?_⟩⟩
  match i, hL with
  | 0, hL =>
    simp at hL; subst hL
    refine ⟨A, ca, ?_, by rw [ha.len]; omega, by rw [ha.len]; exact ha.after hbw⟩
    rw [ha.len, Nat.zero_add, cell_of_row _ w.heap.size 0 _ _ (0, 0) (heap_alloc_new w _)]; rfl
  | 1, hL =>
    simp at hL; subst hL
    refine ⟨B, cb, ?_, by rw [hb.len]; omega, by rw [hb.len]; exact hb.after hbw⟩
    rw [hb.len, Nat.zero_add, cell_of_row _ w.heap.size 1 _ _ (0, 0) (heap_alloc_new w _)]; rfl
  | 2, hL =>
    simp at hL; subst hL
    refine ⟨C, cc, ?_, by rw [hc.len]; omega, by rw [hc.len]; exact hc.after hbw⟩
    rw [hc.len, Nat.zero_add, cell_of_row _ w.heap.size 2 _ _ (0, 0) (heap_alloc_new w _)]; rfl

theorem common_bad {t : Int} {Ls : List (List Sp)} {D : List Sp} (h : ¬ ∀ L ∈ Ls, rightS (-1) L = true) : commonD t Ls D = (0, false) := by
  unfold commonD
  split
  · rfl
  · first | rfl | rw [if_pos h]

set_option maxHeartbeats 4000000 in
theorem common_law_any (A B C : Option Addr) (na nb nc ca cb cc : Nat) (La Lb Lc : List Sp) (t : Int) (w : World) (ha : RS w A na La) (hb : RS w B nb Lb) (hc : RS w C nc Lc) (h1 : na ≤ maxLen) (h2 : nb ≤ maxLen) (h3 : nc ≤ maxLen) :
    Calls Try.prog 3 #[.slice A na ca, .slice B nb cb, .slice C nc cc, .int .i64 t] w fun e w' => e = .returned (.bool true) ∧ Below w.heap.size w w' := by
  simp only [maxLen] at h1 h2 h3
  by_cases hg : (na ≤ 24 ∧ nb ≤ 24 ∧ nc ≤ 24) ∧ 0 ≤ t ∧ t ≤ 1073741824
  · obtain ⟨⟨g1, g2, g3⟩, g4, g5⟩ := hg
    have HLL := hide (RLL.three (ca := ca) (cb := cb) (cc := cc) ha hb hc g1 g2 g3)
    go_enter Try.func3, Try.ntmps3
    go_wp2_with fail
    refine (common_any _ 3 3 [La, Lb, Lc] t _ HLL.out (by omega)).mono ?_
    rintro e w1 ⟨hb1, D, hp, hs, rfl⟩
    have hw1 : Below w.heap.size w w1 := ((Below.refl _ _).alloc (Nat.le_refl _) _).trans (hb1.mono (by simp))
    clear hb1 HLL
    obtain ⟨r, hrr⟩ : ∃ r, r = commonD t [La, Lb, Lc] D := ⟨_, rfl⟩
    obtain ⟨t1, ok⟩ := r
    rw [← hrr]
    have HD := hide hrr
    clear hrr
    have HP := hide hp
    have HS := hide hs
    clear hp hs
    cases hra : rightS (-1) La
    · have hx := HD.out.trans (common_bad (t := t) (D := D) (Ls := [La, Lb, Lc]) (fun h => by have := h La (by simp); rw [hra] at this; cases this))
      injection hx with hx1 hx2
      subst hx1 hx2
      have hcd := codeS_no hra
      go_wp2_with fail
      refine (check_any A na ca La _ (ha.after hw1) (by omega)).mono ?_
      rw [hcd]
      rintro e w2 ⟨rfl, hb2⟩
      go_wp2_with fail
      refine (wakes_any _).mono ?_
      rintro e w3 ⟨rfl, hb3⟩
      go_wp2
      go_ret
      exact ⟨rfl, btwo (btwo hw1 hb2) hb3⟩
    · have hcd := codeS_ok hra
      go_wp2_with fail
      refine (check_any A na ca La _ (ha.after hw1) (by omega)).mono ?_
      rw [hcd]
      rintro e w2 ⟨rfl, hb2⟩
      have hw2 := btwo hw1 hb2
      clear hw1 hb2 hcd
      cases hrb : rightS (-1) Lb
      · have hx := HD.out.trans (common_bad (t := t) (D := D) (Ls := [La, Lb, Lc]) (fun h => by have := h Lb (by simp); rw [hrb] at this; cases this))
        injection hx with hx1 hx2
        subst hx1 hx2
        have hcd := codeS_no hrb
        go_wp2_with fail
        refine (check_any B nb cb Lb _ (hb.after hw2) (by omega)).mono ?_
        rw [hcd]
        rintro e w3 ⟨rfl, hb3⟩
        go_wp2_with fail
        refine (wakes_any _).mono ?_
        rintro e w4 ⟨rfl, hb4⟩
        go_wp2
        go_ret
        exact ⟨rfl, btwo (btwo hw2 hb3) hb4⟩
      · have hcd := codeS_ok hrb
        go_wp2_with fail
        refine (check_any B nb cb Lb _ (hb.after hw2) (by omega)).mono ?_
        rw [hcd]
        rintro e w3 ⟨rfl, hb3⟩
        have hw3 := btwo hw2 hb3
        clear hw2 hb3 hcd
        cases hrc : rightS (-1) Lc
        · have hx := HD.out.trans (common_bad (t := t) (D := D) (Ls := [La, Lb, Lc]) (fun h => by have := h Lc (by simp); rw [hrc] at this; cases this))
          injection hx with hx1 hx2
          subst hx1 hx2
          have hcd := codeS_no hrc
          go_wp2_with fail
          refine (check_any C nc cc Lc _ (hc.after hw3) (by omega)).mono ?_
          rw [hcd]
          rintro e w4 ⟨rfl, hb4⟩
          go_wp2_with fail
          refine (wakes_any _).mono ?_
          rintro e w5 ⟨rfl, hb5⟩
          go_wp2
          go_ret
          exact ⟨rfl, btwo (btwo hw3 hb4) hb5⟩
        · have hcd := codeS_ok hrc
          go_wp2_with fail
          refine (check_any C nc cc Lc _ (hc.after hw3) (by omega)).mono ?_
          rw [hcd]
          rintro e w4 ⟨rfl, hb4⟩
          have hw4 := btwo hw3 hb4
          clear hw3 hb4 hcd
          have hlaw := common_law (t := t) (Ls := [La, Lb, Lc]) (D := D) ⟨g4, by omega⟩ (fun L hL => by simp at hL; rcases hL with rfl | rfl | rfl <;> assumption) HP.out HS.out
          rw [← HD.out] at hlaw
          have hsz4 := hw4.size
          clear hra hrb hrc HP HS HD
          cases ok
          · obtain ⟨hz, hno⟩ := hlaw.2 rfl
            simp only at hz
            subst hz
            have HNO := hide hno
            clear hno hlaw
            go_wp2
            go_loop [11] (fun i => ∃ s : Int, i = .int .i64 s ∧ t ≤ s ∧ s ≤ t + 300) (fun i => (t + 300 - intOf i).toNat)
            case atStart => exact ⟨t, rfl, by omega, by omega⟩
            case round =>
              obtain ⟨s, rfl, hs1, hs2⟩ := hrel
              by_cases hlt : s < t + 300
              · have hx := HNO.out s hs1
                simp only [allIn, List.all_cons, List.all_nil, Bool.and_true] at hx
                go_wp2_with fail
                refine (in_any s A na ca La _ (ha.after hw4) (by omega)).mono ?_
                rintro e w5 ⟨rfl, rfl⟩
                cases hi1 : inS s La
                · go_wp2
                  go_round
                  case rel => exact ⟨s + 1, rfl, by omega, by omega⟩
                  case measure => simp [intOf]; omega
                · go_wp2_with fail
                  refine (in_any s B nb cb Lb _ (hb.after hw4) (by omega)).mono ?_
                  rintro e w5 ⟨rfl, rfl⟩
                  cases hi2 : inS s Lb
                  · go_wp2
                    go_round
                    case rel => exact ⟨s + 1, rfl, by omega, by omega⟩
                    case measure => simp [intOf]; omega
                  · have hi3 : inS s Lc = false := by rw [hi1, hi2] at hx; simpa using hx
                    go_wp2_with fail
                    refine (in_any s C nc cc Lc _ (hc.after hw4) (by omega)).mono ?_
                    rw [hi3]
                    rintro e w5 ⟨rfl, rfl⟩
                    go_wp2
                    go_round
                    case rel => exact ⟨s + 1, rfl, by omega, by omega⟩
                    case measure => simp [intOf]; omega
              · go_wp2_with fail
                refine (wakes_any _).mono ?_
                rintro e w5 ⟨rfl, hb5⟩
                go_wp2
                go_ret
                exact ⟨rfl, btwo hw4 hb5⟩
          · obtain ⟨hz, hin, hno⟩ := hlaw.1 rfl
            simp only at hz hin hno
            simp only [allIn, List.all_cons, List.all_nil, Bool.and_true, Bool.and_eq_true] at hin
            obtain ⟨hin1, hin2, hin3⟩ := hin
            have HNO := hide hno
            clear hno hlaw
            have hd0 : decide (t1 < t) = false := decide_eq_false (by omega)
            go_wp2_with fail
            refine (in_any t1 A na ca La _ (ha.after hw4) (by omega)).mono ?_
            rw [hin1]
            rintro e w5 ⟨rfl, rfl⟩
            go_wp2_with fail
            refine (in_any t1 B nb cb Lb _ (hb.after hw4) (by omega)).mono ?_
            rw [hin2]
            rintro e w5 ⟨rfl, rfl⟩
            go_wp2_with fail
            refine (in_any t1 C nc cc Lc _ (hc.after hw4) (by omega)).mono ?_
            rw [hin3]
            rintro e w5 ⟨rfl, rfl⟩
            clear hin1 hin2 hin3 hd0
            go_wp2
            go_loop [11] (fun i => ∃ s : Int, i = .int .i64 s ∧ t ≤ s ∧ s ≤ t + 300) (fun i => (t + 300 - intOf i).toNat)
            case atStart => exact ⟨t, rfl, by omega, by omega⟩
            case round =>
              obtain ⟨s, rfl, hs1, hs2⟩ := hrel
              by_cases hlt : s < t + 300
              · have hx : s < t1 → (inS s La && (inS s Lb && inS s Lc)) = false := fun h => by
                  have := HNO.out s hs1 h
                  simpa only [allIn, List.all_cons, List.all_nil, Bool.and_true] using this
                have HX := hide hx
                clear hx
                go_wp2_with fail
                refine (in_any s A na ca La _ (ha.after hw4) (by omega)).mono ?_
                rintro e w5 ⟨rfl, rfl⟩
                cases hi1 : inS s La
                · go_wp2
                  go_round
                  case rel => exact ⟨s + 1, rfl, by omega, by omega⟩
                  case measure => simp [intOf]; omega
                · go_wp2_with fail
                  refine (in_any s B nb cb Lb _ (hb.after hw4) (by omega)).mono ?_
                  rintro e w5 ⟨rfl, rfl⟩
                  cases hi2 : inS s Lb
                  · go_wp2
                    go_round
                    case rel => exact ⟨s + 1, rfl, by omega, by omega⟩
                    case measure => simp [intOf]; omega
                  · go_wp2_with fail
                    refine (in_any s C nc cc Lc _ (hc.after hw4) (by omega)).mono ?_
                    rintro e w5 ⟨rfl, rfl⟩
                    cases hi3 : inS s Lc
                    · go_wp2
                      go_round
                      case rel => exact ⟨s + 1, rfl, by omega, by omega⟩
                      case measure => simp [intOf]; omega
                    · have hge : ¬ s < t1 := fun h => by
                        have := HX.out h
                        rw [hi1, hi2, hi3] at this
                        cases this
                      go_wp2
                      go_round
                      case rel => exact ⟨s + 1, rfl, by omega, by omega⟩
                      case measure => simp [intOf]; omega
              · go_wp2_with fail
                refine (wakes_any _).mono ?_
                rintro e w5 ⟨rfl, hb5⟩
                go_wp2
                go_ret
                exact ⟨rfl, btwo hw4 hb5⟩
  · go_enter Try.func3, Try.ntmps3
    by_cases g1 : na ≤ 24
    · by_cases g2 : nb ≤ 24
      · by_cases g3 : nc ≤ 24
        · by_cases g4 : 0 ≤ t
          · have g5 : ¬ t ≤ 1073741824 := fun h => hg ⟨⟨g1, g2, g3⟩, g4, h⟩
            clear hg
            go_wp2
            go_ret
            exact ⟨rfl, Below.refl _ _⟩
          · clear hg
            go_wp2
            go_ret
            exact ⟨rfl, Below.refl _ _⟩
        · clear hg
          go_wp2
          go_ret
          exact ⟨rfl, Below.refl _ _⟩
      · clear hg
        go_wp2
        go_ret
        exact ⟨rfl, Below.refl _ _⟩
    · clear hg
      go_wp2
      go_ret
      exact ⟨rfl, Below.refl _ _⟩
end Go.Proofs.Ytnbbacomhomnmaa
