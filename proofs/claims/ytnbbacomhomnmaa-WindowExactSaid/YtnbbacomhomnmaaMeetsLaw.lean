/-
  OWN. THE LAW WindowMeets, walked.
-/
import Derived.Test.YtnbbacomhomnmaaWalkC
import Derived.Test.YtnbbacomhomnmaaWalkF
set_option linter.unusedSimpArgs false
set_option linter.unusedVariables false
namespace Go.Proofs.Ytnbbacomhomnmaa
open Go.RowKit

theorem meet1_len (x y : Sp) : (meet1 x y).length ≤ 1 := by unfold meet1; split <;> simp
theorem meetP_len : ∀ (n : Nat) (a b : List Sp), a.length + b.length = n → (meetP a b).length ≤ n := by
  intro n
  induction n with
  | zero =>
    intro a b h
    obtain rfl : a = [] := List.eq_nil_of_length_eq_zero (by omega)
    rw [meetP_nil]; simp
  | succ n ih =>
    intro a b h
    match a, b with
    | [], b => rw [meetP_nil]; simp
    | a, [] => rw [meetP_nil']; simp
    | x :: a, y :: b =>
      have h1 := meet1_len x y
      by_cases hlt : x.2 < y.2
      · have := ih a (y :: b) (by simp at h ⊢; omega)
        rw [meetP_lt hlt, List.length_append]; omega
      · have := ih (x :: a) b (by simp at h ⊢; omega)
        rw [meetP_ge hlt, List.length_append]; omega

/-- what Meet answers of two right lists -/
def MeetOk (a b : List Sp) (w : World) (e : Ending) (w' : World) : Prop :=
  ∃ (A : Option Addr) (m c : Nat), e = .returned (.tuple #[.slice A m c, .int .i64 0]) ∧ m < 1000000 ∧ RS w' A m (meetP a b) ∧ Below w.heap.size w w'
theorem meet_ok (A A' : Option Addr) (n c n' c' : Nat) (L L' : List Sp) (w : World) (h : RS w A n L) (h' : RS w A' n' L') (hn : n ≤ 24) (hn' : n' ≤ 24) (hr : rightS (-1) L = true) (hr' : rightS (-1) L' = true) :
    Calls Try.prog 12 #[.slice A n c, .slice A' n' c'] w (MeetOk L L' w) := by
  refine (meet_any A A' n c n' c' L L' w h h' (by omega) (by omega)).mono ?_
  rintro e w' ⟨hb, ⟨hbad, _⟩ | ⟨_, v, rfl, hown⟩⟩
  · rw [hr, hr'] at hbad; cases hbad
  · obtain ⟨A2, c2, rfl, _, hR⟩ := RS.of_own hown
    exact ⟨A2, _, c2, rfl, by have := meetP_len _ L L' rfl; have := h.len; have := h'.len; omega, hR, hb⟩

set_option maxHeartbeats 2000000 in
theorem meets_any (A A' : Option Addr) (n c n' c' : Nat) (L L' : List Sp) (t : Int) (w : World) (h : RS w A n L) (h' : RS w A' n' L') (hn : n ≤ maxLen) (hn' : n' ≤ maxLen) :
    Calls Try.prog 5 #[.slice A n c, .slice A' n' c', .int .i64 t] w fun e w' => e = .returned (.bool true) ∧ Below w.heap.size w w' := by
  simp only [maxLen] at hn hn'
  by_cases h24 : n ≤ 24
  · by_cases h24' : n' ≤ 24
    · cases hr : rightS (-1) L
      · have hc := codeS_no hr
        go_enter Try.func5, Try.ntmps5
        go_wp2_with fail
        refine (check_any A n c L _ h (by omega)).mono ?_
        rw [hc]
        rintro e w1 ⟨rfl, hb1⟩
        go_wp2
        go_ret
        exact ⟨rfl, hb1⟩
      · have hc := codeS_ok hr
        cases hr' : rightS (-1) L'
        · have hc' := codeS_no hr'
          go_enter Try.func5, Try.ntmps5
          go_wp2_with fail
          refine (check_any A n c L _ h (by omega)).mono ?_
          rw [hc]
          rintro e w1 ⟨rfl, hb1⟩
          go_wp2_with fail
          refine (check_any A' n' c' L' _ (h'.after hb1) (by omega)).mono ?_
          rw [hc']
          rintro e w2 ⟨rfl, hb2⟩
          go_wp2
          go_ret
          exact ⟨rfl, btwo hb1 hb2⟩
        · have hc' := codeS_ok hr'
          have F1 := hide (meetP_comm _ L L' _ _ rfl hr hr')
          have F2 := hide (meetP_self L _ hr)
          have F3 := hide (codeS_ok (meetP_right _ L L' _ _ rfl hr hr'))
          have F4 := hide (show inS t (meetP L L') = (inS t L && inS t L') by rw [meetP_eq _ _ _ _ _ rfl hr hr', inS_meetR])
          go_enter Try.func5, Try.ntmps5
          go_wp2_with fail
          refine (check_any A n c L _ h (by omega)).mono ?_
          rw [hc]
          rintro e w1 ⟨rfl, hb1⟩
          go_wp2_with fail
          refine (check_any A' n' c' L' _ (h'.after hb1) (by omega)).mono ?_
          rw [hc']
          rintro e w2 ⟨rfl, hb2⟩
          have hw2 := btwo hb1 hb2
          clear hb1 hb2 hc hc'
          go_wp2_with fail
          refine (meet_ok A A' n c n' c' L L' _ (h.after hw2) (h'.after hw2) h24 h24' hr hr').mono ?_
          rintro e w3 ⟨A3, m3, c3, rfl, hm3, hR3, hb3⟩
          have hw3 := btwo hw2 hb3
          clear hw2 hb3
          go_wp2_with fail
          refine (meet_ok A' A n' c' n c L' L _ (h'.after hw3) (h.after hw3) h24' h24 hr' hr).mono ?_
          rintro e w4 ⟨A4, m4, c4, rfl, hm4, hR4, hb4⟩
          have hw4 := btwo hw3 hb4
          clear hw3
          go_wp2_with fail
          refine (meet_ok A A n c n c L L _ (h.after hw4) (h.after hw4) h24 h24 hr hr).mono ?_
          rintro e w5 ⟨A5, m5, c5, rfl, hm5, hR5, hb5⟩
          have hw5 := btwo hw4 hb5
          have hR3' := hR3.after (btwo hb4 hb5)
          have hR4' := hR4.after hb5
          clear hw4 hR3 hR4 hb4 hb5
          clear hr hr'
          go_wp2_with fail
          refine (spans_any A3 A4 m3 c3 m4 c4 _ _ _ hR3' hR4' (by omega) (by omega)).mono ?_
          rw [F1.out, decide_eq_true rfl]
          rintro e w6 ⟨rfl, hb6⟩
          go_wp2_with fail
          refine (spans_any A5 A m5 c5 n c _ _ _ (hR5.after hb6) ((h.after hw5).after hb6) (by omega) (by omega)).mono ?_
          rw [F2.out, decide_eq_true rfl]
          rintro e w7 ⟨rfl, hb7⟩
          have hb67 := btwo hb6 hb7
          clear hb6 hb7 hR4' hR5
          go_wp2_with fail
          refine (check_any A3 m3 c3 _ _ (hR3'.after hb67) (by omega)).mono ?_
          rw [F3.out]
          rintro e w8 ⟨rfl, hb8⟩
          have hb58 := btwo hb67 hb8
          clear hb67 hb8
          have hw8 := btwo hw5 hb58
          have hRl := hR3'.after hb58
          clear hw5 hb58 hR3'
          go_wp2_with fail
          refine (in_any t A3 m3 c3 _ _ hRl (by omega)).mono ?_
          rw [F4.out]
          rintro e w9 ⟨rfl, rfl⟩
          go_wp2_with fail
          refine (in_any t A n c L _ (h.after hw8) (by omega)).mono ?_
          rintro e w9 ⟨rfl, rfl⟩
          cases hi : inS t L
          · go_wp2_with fail
            refine (wakes_any _).mono ?_
            rintro e w9 ⟨rfl, hb9⟩
            go_wp2
            go_ret
            exact ⟨rfl, btwo hw8 hb9⟩
          · go_wp2_with fail
            refine (in_any t A' n' c' L' _ (h'.after hw8) (by omega)).mono ?_
            rintro e w9 ⟨rfl, rfl⟩
            cases hi' : inS t L'
            · go_wp2_with fail
              refine (wakes_any _).mono ?_
              rintro e w9 ⟨rfl, hb9⟩
              go_wp2
              go_ret
              exact ⟨rfl, btwo hw8 hb9⟩
            · go_wp2_with fail
              refine (wakes_any _).mono ?_
              rintro e w9 ⟨rfl, hb9⟩
              go_wp2
              go_ret
              exact ⟨rfl, btwo hw8 hb9⟩
    · go_enter Try.func5, Try.ntmps5
      go_wp2
      go_ret
      exact ⟨rfl, Below.refl _ _⟩
  · go_enter Try.func5, Try.ntmps5
    go_wp2
    go_ret
    exact ⟨rfl, Below.refl _ _⟩
end Go.Proofs.Ytnbbacomhomnmaa
