/-
  OWN. PLAIN LAW: the profile of the law's spans, one behind the other. No walk.
-/
import Derived.Test.YtdkhpjeiepkldaaWalkJ
set_option linter.unusedSimpArgs false
set_option linter.unusedVariables false
namespace Go.Proofs.Ytdkhpjeiepkldaa

/-- what is free when the first k spans are taken, of one node -/
def stP (N : Nat) (k : Nat) : List St := if k = 0 then [] else if k ≤ N then [(0, 0), ((k : Int), 1)] else takeP 1 [(0, 0), ((N : Int), 1)] 500
theorem take_zero : takeP 1 [] 0 = [(0, 0), (1, 1)] := by
  simp [takeP, keepP, aheadP, filterF]
theorem take_next (k : Nat) : takeP 1 [(0, 0), ((k : Int), 1)] k = [(0, 0), ((k : Int) + 1, 1)] := by
  simp [takeP, keepP, aheadP, filterF]
theorem ahead_two (k : Nat) : aheadP 1 [(0, 0), ((k : Int), 1)] = 1 := by simp [aheadP]
theorem stP_step (N : Nat) (h1 : 1 ≤ N) (h2 : N ≤ 63) : ∀ k f, (froms N ++ [500])[k]? = some f → OkT 1 (stP N k) f ∧ stP N (k + 1) = takeP 1 (stP N k) f := by
  intro k f hf
  by_cases hk : k < N
  · rw [List.getElem?_append_left (by rw [froms_len]; exact hk)] at hf
    have hfk : f = (k : Int) := by
      unfold froms at hf
      rw [List.getElem?_map, List.getElem?_range hk] at hf
      simpa using hf.symm
    subst hfk
    by_cases h0 : k = 0
    · subst h0
      have e0 : stP N 0 = [] := by simp [stP]
      have e1 : stP N (0 + 1) = [(0, 0), (1, 1)] := by simp [stP]; omega
      rw [e0, e1]
      refine ⟨⟨by simp, by simp, by simp, by simp [aheadP], by omega, by simp⟩, ?_⟩
      exact take_zero.symm
    · have e0 : stP N k = [(0, 0), ((k : Int), 1)] := by unfold stP; rw [if_neg h0, if_pos (by omega)]
      have e1 : stP N (k + 1) = [(0, 0), ((k : Int) + 1, 1)] := by unfold stP; rw [if_neg (by omega), if_pos (by omega)]; simp
      rw [e0, e1]
      refine ⟨⟨by omega, by omega, ?_, by rw [ahead_two]; omega, by omega, by simp⟩, (take_next k).symm⟩
      intro x hx
      simp at hx
      rcases hx with rfl | rfl <;> simp only <;> omega
  · rw [List.getElem?_append_right (by rw [froms_len]; omega), froms_len] at hf
    have hkn : k = N := by
      by_cases h : k - N = 0
      · omega
      · rw [List.getElem?_eq_none (by simp; omega)] at hf; cases hf
    subst hkn
    simp at hf
    subst hf
    have e0 : stP k k = [(0, 0), ((k : Int), 1)] := by unfold stP; rw [if_neg (by omega), if_pos (by omega)]
    have e1 : stP k (k + 1) = takeP 1 [(0, 0), ((k : Int), 1)] 500 := by unfold stP; rw [if_neg (by omega), if_neg (by omega)]
    rw [e0, e1]
    refine ⟨⟨by omega, by omega, ?_, by rw [ahead_two]; omega, by omega, by simp⟩, rfl⟩
    intro x hx
    simp at hx
    rcases hx with rfl | rfl <;> simp only <;> omega

/-- the same of the one span in 'wakes', of two nodes -/
def stW (k : Nat) : List St := if k = 0 then [] else takeP 2 [] 3
theorem stW_step : ∀ k f, (froms 0 ++ [3])[k]? = some f → OkT 2 (stW k) f ∧ stW (k + 1) = takeP 2 (stW k) f := by
  intro k f hf
  have hk : k = 0 := by
    by_cases h : k = 0
    · exact h
    · rw [List.getElem?_eq_none (by simp [froms]; omega)] at hf; cases hf
  subst hk
  simp [froms] at hf
  subst hf
  have e0 : stW 0 = [] := by simp [stW]
  have e1 : stW (0 + 1) = takeP 2 [] 3 := by simp [stW]
  rw [e0, e1]
  exact ⟨⟨by omega, by omega, by simp, by simp [aheadP], by omega, by simp⟩, rfl⟩
end Go.Proofs.Ytdkhpjeiepkldaa
