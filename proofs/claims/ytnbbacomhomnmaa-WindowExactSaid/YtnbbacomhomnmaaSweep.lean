/-
  OWN. PLAIN LAW OF THE SWEEP: the first tick that lies in each of some right lists. No program.
-/
import Derived.Test.YtnbbacomhomnmaaWalkE0
set_option linter.unusedSimpArgs false
set_option linter.unusedVariables false
namespace Go.Proofs.Ytnbbacomhomnmaa

def sumE : List Sp → Int
  | [] => 0
  | x :: D => x.2 + sumE D
theorem sumE_append (a b : List Sp) : sumE (a ++ b) = sumE a + sumE b := by
  induction a with
  | nil => simp [sumE]
  | cons x a ih => simp only [List.cons_append, sumE, ih]; omega
theorem sumE_perm {a b : List Sp} (h : a.Perm b) : sumE a = sumE b := by
  induction h with
  | nil => rfl
  | cons x _ ih => simp only [sumE, ih]
  | swap x y l => simp only [sumE]; omega
  | trans _ _ h1 h2 => exact h1.trans h2
def upto (s : Int) (D : List Sp) : List Sp := D.filter fun x => decide (x.1 ≤ s)
def csum (s : Int) (D : List Sp) : Int := sumE (upto s D)
theorem csum_append (s : Int) (a b : List Sp) : csum s (a ++ b) = csum s a + csum s b := by unfold csum upto; rw [List.filter_append, sumE_append]
theorem csum_perm {s : Int} {a b : List Sp} (h : a.Perm b) : csum s a = csum s b := sumE_perm (h.filter _)

/-- the part up to s stands ahead -/
theorem upto_split (s : Int) : ∀ {D : List Sp}, SortedE D → ∃ R, D = upto s D ++ R ∧ ∀ y ∈ R, s < y.1
  | [], _ => ⟨[], rfl, fun y hy => by cases hy⟩
  | x :: D, h => by
    unfold SortedE at h
    rw [List.pairwise_cons] at h
    obtain ⟨R, hR, hy⟩ := upto_split s h.2
    by_cases hx : x.1 ≤ s
    · refine ⟨R, ?_, hy⟩
      unfold upto at *
      rw [List.filter_cons_of_pos (by simpa using hx), List.cons_append, ← hR]
    · have hall : ∀ y ∈ x :: D, s < y.1 := by
        intro y hy'
        rcases List.mem_cons.1 hy' with rfl | hm
        · omega
        · have := h.1 y hm
          unfold ltE at this; omega
      refine ⟨x :: D, ?_, hall⟩
      have : upto s (x :: D) = [] := by
        unfold upto
        rw [List.filter_eq_nil_iff]
        intro y hy'
        have := hall y hy'
        simp; omega
      rw [this]; rfl

/-- what the sweep finds -/
theorem sweep_found (n : Int) (D : List Sp) : ∀ (D' P : List Sp), D = P ++ D' → (∀ Q, Q <+: P → Q ≠ [] → sumE Q ≠ n) →
    ((sweep n (sumE P) D').2 = true → ∃ P' x R, D = P' ++ x :: R ∧ sumE P' + x.2 = n ∧ (sweep n (sumE P) D').1 = x.1 ∧ ∀ Q, Q <+: P' → Q ≠ [] → sumE Q ≠ n) ∧
    ((sweep n (sumE P) D').2 = false → (sweep n (sumE P) D').1 = 0 ∧ ∀ Q, Q <+: D → Q ≠ [] → sumE Q ≠ n)
  | [], P, hD, hP => by
    refine ⟨fun h => by simp [sweep] at h, fun _ => ⟨rfl, ?_⟩⟩
    rw [hD, List.append_nil]; exact hP
  | x :: D', P, hD, hP => by
    by_cases hx : sumE P + x.2 = n
    · rw [sweep, if_pos hx]
      exact ⟨fun _ => ⟨P, x, D', hD, hx, rfl, hP⟩, fun h => by cases h⟩
    · rw [sweep, if_neg hx]
      have hs : sumE P + x.2 = sumE (P ++ [x]) := by rw [sumE_append]; simp [sumE]
      rw [hs]
      refine sweep_found n D D' (P ++ [x]) (by rw [hD, List.append_assoc]; rfl) ?_
      intro Q hQ hQ0
      rcases List.prefix_concat_iff.1 hQ with rfl | hQ
      · rw [← hs]; exact hx
      · exact hP Q hQ hQ0

/-! what is open at s -/
def ind (b : Bool) : Int := if b then 1 else 0
theorem csum_edges1 {t s : Int} {x : Sp} (hs : t ≤ s) (hx : x.1 < x.2) : csum s (edges1 t x) = ind (decide (x.1 ≤ s) && decide (s < x.2)) := by
  unfold csum upto edges1 ind
  by_cases h1 : t < x.2
  · rw [if_pos h1]
    by_cases h2 : x.1 ≤ s
    · by_cases h3 : s < x.2
      · have a1 : max x.1 t ≤ s := by omega
        have a2 : ¬ x.2 ≤ s := by omega
        simp [a1, a2, h2, h3, sumE]
      · have a1 : max x.1 t ≤ s := by omega
        have a2 : x.2 ≤ s := by omega
        simp [a1, a2, h2, h3, sumE]
    · have a1 : ¬ max x.1 t ≤ s := by omega
      have a2 : ¬ x.2 ≤ s := by omega
      simp [a1, a2, h2, sumE]
  · have a2 : ¬ s < x.2 := by omega
    rw [if_neg h1]
    simp [a2, sumE]
theorem inS_past {s : Int} : ∀ {L : List Sp} {l : Int}, rightS l L = true → s ≤ l → inS s L = false
  | [], _, _, _ => rfl
  | x :: L, l, h, hs => by
    rw [rightS_cons] at h
    rw [inS_cons, inS_past h.2 (by omega)]
    simp; omega
theorem csum_edgesOf {t s : Int} (hs : t ≤ s) : ∀ {L : List Sp} {l : Int}, rightS l L = true → csum s (edgesOf t L) = ind (inS s L)
  | [], _, _ => rfl
  | x :: L, l, h => by
    rw [rightS_cons] at h
    have e : edgesOf t (x :: L) = edges1 t x ++ edgesOf t L := by unfold edgesOf; rw [List.flatMap_cons]
    rw [e, csum_append, csum_edges1 hs h.1.2.1, csum_edgesOf hs h.2, inS_cons]
    by_cases h3 : s < x.2
    · rw [inS_past h.2 (by omega)]
      simp [ind]
    · have : (decide (x.1 ≤ s) && decide (s < x.2)) = false := by simp; omega
      rw [this]; simp [ind]
def allIn (s : Int) (Ls : List (List Sp)) : Bool := Ls.all fun L => inS s L
theorem csum_allE {t s : Int} (hs : t ≤ s) : ∀ {Ls : List (List Sp)}, (∀ L ∈ Ls, rightS (-1) L = true) → csum s (allE t Ls) ≤ Ls.length ∧ (csum s (allE t Ls) = Ls.length ↔ allIn s Ls = true)
  | [], _ => by simp [allE, csum, upto, sumE, allIn]
  | L :: Ls, h => by
    have e : allE t (L :: Ls) = edgesOf t L ++ allE t Ls := by unfold allE; rw [List.flatMap_cons]
    obtain ⟨i1, i2⟩ := csum_allE hs (Ls := Ls) (fun L' hL' => h L' (by simp [hL']))
    have ei := csum_edgesOf hs (h L (by simp))
    rw [e, csum_append, ei]
    have ea : allIn s (L :: Ls) = (inS s L && allIn s Ls) := rfl
    rw [ea]
    simp only [List.length_cons]
    cases hb : inS s L
    · simp [ind]; omega
    · simp only [ind, if_true, Bool.true_and]
      rw [← i2]
      omega
theorem at_from {t : Int} {Ls : List (List Sp)} : ∀ x ∈ allE t Ls, t ≤ x.1 := by
  intro x hx
  obtain ⟨L, _, hx⟩ := List.mem_flatMap.1 hx
  obtain ⟨y, _, hx⟩ := List.mem_flatMap.1 hx
  unfold edges1 at hx
  split at hx
  · simp at hx
    rcases hx with rfl | rfl <;> simp <;> omega
  · cases hx
theorem up_is {t : Int} {Ls : List (List Sp)} : ∀ x ∈ allE t Ls, x.2 = 1 ∨ x.2 = -1 := by
  intro x hx
  obtain ⟨L, _, hx⟩ := List.mem_flatMap.1 hx
  obtain ⟨y, _, hx⟩ := List.mem_flatMap.1 hx
  unfold edges1 at hx
  split at hx
  · simp at hx
    rcases hx with rfl | rfl <;> simp
  · cases hx
theorem sumE_pos : ∀ {R : List Sp}, (∀ x ∈ R, 0 ≤ x.2) → 0 ≤ sumE R
  | [], _ => by simp [sumE]
  | x :: R, h => by
    have := sumE_pos (R := R) (fun y hy => h y (by simp [hy]))
    have := h x (by simp)
    simp only [sumE]; omega

/-- a part ahead that ends in an opening edge: at its tick as many are open, or more -/
theorem sum_le_csum {P R : List Sp} {x : Sp} (hs : SortedE (P ++ x :: R)) (hup : ∀ y ∈ P ++ x :: R, y.2 = 1 ∨ y.2 = -1) (hx : x.2 = 1) : sumE P + x.2 ≤ csum x.1 (P ++ x :: R) := by
  unfold SortedE at hs
  rw [List.pairwise_append] at hs
  obtain ⟨h1, h2, h3⟩ := hs
  rw [List.pairwise_cons] at h2
  have hP : upto x.1 P = P := by
    unfold upto
    rw [List.filter_eq_self]
    intro y hy
    have := h3 y hy x (by simp)
    unfold ltE at this
    simp; omega
  rw [csum_append]
  have e1 : csum x.1 P = sumE P := by unfold csum; rw [hP]
  have e2 : csum x.1 (x :: R) = x.2 + csum x.1 R := by
    unfold csum upto
    rw [List.filter_cons_of_pos (by simp)]; rfl
  have e3 : 0 ≤ csum x.1 R := by
    unfold csum
    refine sumE_pos fun y hy => ?_
    unfold upto at hy
    rw [List.mem_filter] at hy
    have hle : y.1 ≤ x.1 := by simpa using hy.2
    have hn := h2.1 y hy.1
    unfold ltE at hn
    rcases hup y (by simp [hy.1]) with h | h <;> omega
  rw [e1, e2]; omega

/-- THE LAW OF Common -/
theorem common_law {t : Int} {Ls : List (List Sp)} {D : List Sp} (ht : 0 ≤ t ∧ t < 1099511627776) (hr : ∀ L ∈ Ls, rightS (-1) L = true) (hp : D.Perm (allE t Ls)) (hs : SortedE D) :
    ((commonD t Ls D).2 = true → t ≤ (commonD t Ls D).1 ∧ allIn (commonD t Ls D).1 Ls = true ∧ ∀ s, t ≤ s → s < (commonD t Ls D).1 → allIn s Ls = false) ∧
    ((commonD t Ls D).2 = false → (commonD t Ls D).1 = 0 ∧ ∀ s, t ≤ s → allIn s Ls = false) := by
  unfold commonD
  rw [if_neg (by simpa using ht), if_neg (by simpa using hr)]
  by_cases hL : Ls = []
  · rw [if_pos hL]
    subst hL
    exact ⟨fun _ => ⟨Int.le_refl _, rfl, fun s h1 h2 => by simp only at h2; omega⟩, fun h => by cases h⟩
  · rw [if_neg hL]
    have hn : 0 < Ls.length := List.length_pos_iff.2 hL
    have hat : ∀ x ∈ D, t ≤ x.1 := fun x hx => at_from x (hp.mem_iff.1 hx)
    have hup : ∀ x ∈ D, x.2 = 1 ∨ x.2 = -1 := fun x hx => up_is x (hp.mem_iff.1 hx)
    have hcs : ∀ s, t ≤ s → csum s D ≤ Ls.length ∧ (csum s D = Ls.length ↔ allIn s Ls = true) := fun s h => by rw [csum_perm hp]; exact csum_allE h hr
    have key := sweep_found Ls.length D D [] rfl (fun Q hQ hQ0 => absurd (List.prefix_nil.1 hQ) hQ0)
    -- a part ahead never sums to more than the lists
    have hle' : ∀ (m : Nat) P, P.length = m → P <+: D → sumE P ≤ Ls.length := by
      intro m
      induction m with
      | zero =>
        intro P hm _
        obtain rfl : P = [] := List.eq_nil_of_length_eq_zero hm
        simp [sumE]
      | succ m ih =>
        intro P0 hm hP
        have hex : ∃ P x, P0 = P ++ [x] := by
          rcases List.eq_nil_or_concat P0 with h | ⟨P, x, h⟩
          · rw [h] at hm; simp at hm
          · exact ⟨P, x, by rw [h]; simp⟩
        obtain ⟨P, x, rfl⟩ := hex
        obtain ⟨R, hR⟩ := hP
        have ih' := ih P (by simpa using hm) ⟨x :: R, by rw [← hR, List.append_assoc]; rfl⟩
        have e : D = P ++ x :: R := by rw [← hR, List.append_assoc]; rfl
        rw [sumE_append]
        rcases hup x (by rw [e]; simp) with h1 | h1
        · have h2 := sum_le_csum (P := P) (x := x) (R := R) (by rw [← e]; exact hs) (by rw [← e]; exact hup) h1
          have h3 := (hcs x.1 (hat x (by rw [e]; simp))).1
          rw [← e] at h2
          simp only [sumE]; omega
        · simp only [sumE]; omega
    have hle : ∀ P, P <+: D → sumE P ≤ Ls.length := fun P h => hle' _ P rfl h
    refine ⟨fun h => ?_, fun h => ?_⟩
    · obtain ⟨P', x, R, e, hsum, ha, hno⟩ := key.1 h
      change (sweep _ 0 D).1 = x.1 at ha
      rw [ha]
      have hxt := hat x (by rw [e]; simp)
      have hx1 : x.2 = 1 := by
        rcases hup x (by rw [e]; simp) with h1 | h1
        · exact h1
        · have := hle P' ⟨x :: R, e.symm⟩
          omega
      refine ⟨hxt, ?_, fun s h1 h2 => ?_⟩
      · have h2 := sum_le_csum (P := P') (x := x) (R := R) (by rw [← e]; exact hs) (by rw [← e]; exact hup) hx1
        rw [← e] at h2
        obtain ⟨h3, h4⟩ := hcs x.1 hxt
        exact h4.1 (by omega)
      · obtain ⟨R2, e2, hR2⟩ := upto_split s hs
        have hpre : upto s D <+: P' := by
          have hlen : (upto s D).length ≤ P'.length := by
            refine Nat.le_of_not_lt fun hlt => ?_
            have hxm : x ∈ upto s D := by
              have hg : D[P'.length]? = some x := by rw [e, List.getElem?_append_right (Nat.le_refl _)]; simp
              rw [e2, List.getElem?_append_left hlt] at hg
              exact List.mem_of_getElem? hg
            unfold upto at hxm
            rw [List.mem_filter] at hxm
            have : x.1 ≤ s := by simpa using hxm.2
            omega
          exact List.prefix_of_prefix_length_le ⟨R2, e2.symm⟩ ⟨x :: R, e.symm⟩ hlen
        cases hb : allIn s Ls
        · rfl
        · have h5 := (hcs s h1).2.2 hb
          by_cases h0 : upto s D = []
          · unfold csum at h5; rw [h0] at h5; simp [sumE] at h5; omega
          · exact absurd h5 (hno _ hpre h0)
    · obtain ⟨h0, hno⟩ := key.2 h
      refine ⟨h0, fun s h1 => ?_⟩
      obtain ⟨R2, e2, hR2⟩ := upto_split s hs
      cases hb : allIn s Ls
      · rfl
      · have h5 := (hcs s h1).2.2 hb
        by_cases h0 : upto s D = []
        · unfold csum at h5; rw [h0] at h5; simp [sumE] at h5; omega
        · exact absurd h5 (hno _ ⟨R2, e2.symm⟩ h0)
end Go.Proofs.Ytnbbacomhomnmaa
