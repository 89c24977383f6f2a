/-
  OWN. PLAIN: what a charge leaves of the others' uses.
-/
import Derived.Test.YtbhhahnmpkegbaaPlain
namespace Go.Proofs.Ytbhhahnmpkegbaa

/-- the others' uses -/
def oth (u : Int) (L : List U) : List U := L.filter fun x => decide (x.1 ≠ u)
theorem oth_cons_eq {u : Int} {x : U} {L : List U} (h : x.1 = u) : oth u (x :: L) = oth u L := by simp [oth, h]
theorem oth_cons_ne {u : Int} {x : U} {L : List U} (h : x.1 ≠ u) : oth u (x :: L) = x :: oth u L := by simp [oth, h]
theorem putU_oth : ∀ (L : List U) (last u s now : Int), rightL last L = true → oth u (putU L u s now) = oth u L
  | [], last, u, s, now, _ => by rw [putU_nil, oth_cons_eq (u := u) (x := (u, s, now)) rfl]
  | x :: r, last, u, s, now, h => by
    simp only [rightL, Bool.and_eq_true, decide_eq_true_eq] at h
    by_cases h1 : x.1 < u
    · rw [putU_lt h1, oth_cons_ne (by omega), oth_cons_ne (by omega), putU_oth r x.1 u s now h.2]
    · by_cases h2 : x.1 = u
      · rw [putU_eq h2, oth_cons_eq (u := u) (x := (u, s, now)) rfl, oth_cons_eq h2]
      · rw [putU_gt (by omega), oth_cons_eq (u := u) (x := (u, s, now)) rfl]
theorem putU_user : ∀ (L : List U) (last u s now : Int), rightL last L = true → ∀ x ∈ putU L u s now, x.1 = u → x = (u, s, now)
  | [], last, u, s, now, _, x, hx, _ => by rw [putU_nil] at hx; simpa using hx
  | y :: r, last, u, s, now, h, x, hx, hxu => by
    simp only [rightL, Bool.and_eq_true, decide_eq_true_eq] at h
    by_cases h1 : y.1 < u
    · rw [putU_lt h1] at hx
      rcases List.mem_cons.1 hx with rfl | hx
      · omega
      · exact putU_user r y.1 u s now h.2 x hx hxu
    · by_cases h2 : y.1 = u
      · rw [putU_eq h2] at hx
        rcases List.mem_cons.1 hx with rfl | hx
        · rfl
        · have := (rightL_all r y.1 h.2 x hx).2; omega
      · rw [putU_gt (by omega)] at hx
        rcases List.mem_cons.1 hx with rfl | hx
        · rfl
        · rcases List.mem_cons.1 hx with rfl | hx
          · omega
          · have := (rightL_all r y.1 h.2 x hx).2; omega

theorem drop_cons_get {α : Type} {L : List α} {k : Nat} {x : α} (h : L[k]? = some x) : L.drop k = x :: L.drop (k + 1) := by
  have hk : k < L.length := (List.getElem?_eq_some_iff.1 h).1
  rw [List.drop_eq_getElem_cons hk]; congr 1; exact (List.getElem?_eq_some_iff.1 h).2

/-- where both are: what of the others is left on the one side is left on the other -/
def same (u : Int) (X L : List U) (i k : Nat) : Prop := oth u (L.drop k) = oth u (X.drop i)
theorem same_zero {u : Int} {X L : List U} (h : oth u X = oth u L) : same u X L 0 0 := by simp [same, h]
theorem same_skipX {u : Int} {X L : List U} {i k : Nat} {x : U} (h : same u X L i k) (hx : X[i]? = some x) (hu : x.1 = u) : same u X L (i + 1) k := by
  unfold same at *; rw [h, drop_cons_get hx, oth_cons_eq hu]
theorem same_skipL {u : Int} {X L : List U} {i k : Nat} {x : U} (h : same u X L i k) (hx : L[k]? = some x) (hu : x.1 = u) : same u X L i (k + 1) := by
  unfold same at *; rw [← h, drop_cons_get hx, oth_cons_eq hu]
theorem same_end {u : Int} {X L : List U} {i k : Nat} {x : U} (h : same u X L i k) (hx : X[i]? = some x) (hu : x.1 ≠ u) (hk : L.length ≤ k) : False := by
  unfold same at h; rw [drop_cons_get hx, oth_cons_ne hu, List.drop_eq_nil_of_le hk] at h; simp [oth] at h
theorem same_both {u : Int} {X L : List U} {i k : Nat} {x y : U} (h : same u X L i k) (hx : X[i]? = some x) (hu : x.1 ≠ u) (hy : L[k]? = some y) (hyu : y.1 ≠ u) : y = x ∧ same u X L (i + 1) (k + 1) := by
  unfold same at *
  rw [drop_cons_get hx, oth_cons_ne hu, drop_cons_get hy, oth_cons_ne hyu] at h
  simpa using h
end Go.Proofs.Ytbhhahnmpkegbaa
