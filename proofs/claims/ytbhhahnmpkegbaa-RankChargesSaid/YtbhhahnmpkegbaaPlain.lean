/-
  OWN. PLAIN: uses (user, sum, at) as triples; when a list of them is right; a charge. No program in sight.
-/
namespace Go.Proofs.Ytbhhahnmpkegbaa

abbrev U := Int × Int × Int
def rightU (x : U) : Bool := decide (0 ≤ x.1 ∧ x.1 < 16 ∧ 0 ≤ x.2.1 ∧ x.2.1 ≤ 1152921504606846976 ∧ 0 ≤ x.2.2 ∧ x.2.2 ≤ 1099511627776)
theorem rightU_iff (x : U) : rightU x = true ↔ (0 ≤ x.1 ∧ x.1 < 16 ∧ 0 ≤ x.2.1 ∧ x.2.1 ≤ 1152921504606846976 ∧ 0 ≤ x.2.2 ∧ x.2.2 ≤ 1099511627776) := by simp [rightU]
def rightL : Int → List U → Bool
  | _, [] => true
  | last, x :: r => rightU x && decide (last < x.1) && rightL x.1 r
/-- the user ahead of place k -/
def prevU (L : List U) (k : Nat) : Int := if k = 0 then -1 else (L.getD (k - 1) (0, 0, 0)).1
theorem prevU_zero (L : List U) : prevU L 0 = -1 := rfl
theorem prevU_succ {L : List U} {k : Nat} {x : U} (h : L[k]? = some x) : prevU L (k + 1) = x.1 := by
  simp [prevU, List.getD, h]
theorem prevU_pos {L : List U} {k : Nat} {y : U} (hk : 0 < k) (h : L[k - 1]? = some y) : prevU L k = y.1 := by
  simp [prevU, List.getD, h]; omega

/-- what is right from place k on -/
def rightAt (L : List U) (k : Nat) : Bool := rightL (prevU L k) (L.drop k)
theorem rightAt_zero (L : List U) : rightAt L 0 = rightL (-1) L := by simp [rightAt, prevU]
theorem rightAt_end (L : List U) {k : Nat} (h : L.length ≤ k) : rightAt L k = true := by simp [rightAt, List.drop_eq_nil_of_le h, rightL]
theorem rightAt_step {L : List U} {k : Nat} {x : U} (h : L[k]? = some x) : rightAt L k = (rightU x && decide (prevU L k < x.1) && rightAt L (k + 1)) := by
  have hk : k < L.length := (List.getElem?_eq_some_iff.1 h).1
  have e : L.drop k = x :: L.drop (k + 1) := by
    rw [List.drop_eq_getElem_cons hk]; congr 1; exact (List.getElem?_eq_some_iff.1 h).2
  unfold rightAt
  rw [e, rightL, prevU_succ h]
theorem rightAt_bad {L : List U} {k : Nat} {x : U} (h : L[k]? = some x) (hx : rightU x = false) : rightAt L k = false := by
  rw [rightAt_step h, hx]; rfl
theorem rightAt_low {L : List U} {k : Nat} {x : U} (h : L[k]? = some x) (hx : x.1 ≤ prevU L k) : rightAt L k = false := by
  rw [rightAt_step h, decide_eq_false (by omega)]; simp
theorem rightAt_next {L : List U} {k : Nat} {x : U} (h : L[k]? = some x) (hx : rightU x = true) (hp : prevU L k < x.1) : rightAt L k = rightAt L (k + 1) := by
  rw [rightAt_step h, hx, decide_eq_true hp]; rfl

/-- all are right, and the users rise: by places -/
theorem rightL_all : ∀ (L : List U) (last : Int), rightL last L = true → ∀ x ∈ L, rightU x = true ∧ last < x.1
  | [], _, _, x, hx => by simp at hx
  | y :: r, last, h, x, hx => by
    simp only [rightL, Bool.and_eq_true, decide_eq_true_eq] at h
    rcases List.mem_cons.1 hx with rfl | hx
    · exact ⟨h.1.1, h.1.2⟩
    · have := rightL_all r y.1 h.2 x hx
      exact ⟨this.1, by omega⟩
theorem rightL_length : ∀ (L : List U) (last : Int), rightL last L = true → last < 16 → (L.length : Int) ≤ 15 - last
  | [], last, _, hl => by simp; omega
  | y :: r, last, h, _ => by
    simp only [rightL, Bool.and_eq_true, decide_eq_true_eq] at h
    have hy := (rightU_iff y).1 h.1.1
    have := rightL_length r y.1 h.2 (by omega)
    simp only [List.length_cons]; omega
theorem rightL_len16 {L : List U} (h : rightL (-1) L = true) : L.length ≤ 16 := by
  have := rightL_length L (-1) h (by omega); omega

/-- the place of a user: how many are below -/
def placeU (L : List U) (u : Int) : Nat := (L.takeWhile fun x => decide (x.1 < u)).length
theorem placeU_le (L : List U) (u : Int) : placeU L u ≤ L.length := by
  unfold placeU; exact (List.takeWhile_sublist _).length_le
def hasU (L : List U) (u : Int) : Bool := match L[placeU L u]? with | some x => decide (x.1 = u) | none => false
theorem hasU_some {L : List U} {u : Int} {x : U} (h : L[placeU L u]? = some x) : hasU L u = decide (x.1 = u) := by simp [hasU, h]
theorem hasU_none {L : List U} {u : Int} (h : L[placeU L u]? = none) : hasU L u = false := by simp [hasU, h]

theorem placeU_cons_lt {x : U} {L : List U} {u : Int} (h : x.1 < u) : placeU (x :: L) u = placeU L u + 1 := by simp [placeU, h]
theorem placeU_cons_ge {x : U} {L : List U} {u : Int} (h : ¬ x.1 < u) : placeU (x :: L) u = 0 := by simp [placeU, h]
/-- rising: an element below u stands ahead of the place of u, and the others behind it -/
theorem placeU_lt : ∀ (L : List U) (last : Int), rightL last L = true → ∀ (u : Int) (i : Nat) (x : U), L[i]? = some x → (x.1 < u ↔ i < placeU L u)
  | [], _, _, u, i, x, h => by simp at h
  | y :: r, last, hr, u, i, x, h => by
    simp only [rightL, Bool.and_eq_true, decide_eq_true_eq] at hr
    by_cases hy : y.1 < u
    · rw [placeU_cons_lt hy]
      cases i with
      | zero => simp at h; subst h; simp [hy]
      | succ i =>
        have := placeU_lt r y.1 hr.2 u i x (by simpa using h)
        rw [this]; omega
    · rw [placeU_cons_ge hy]
      constructor
      · intro hx
        exfalso
        cases i with
        | zero => simp at h; subst h; exact hy hx
        | succ i =>
          have := (rightL_all r y.1 hr.2 x (List.mem_of_getElem? (by simpa using h))).2
          omega
      · intro h0; omega

/-- a user's use is put in its place -/
def putU (L : List U) (u s now : Int) : List U :=
  if hasU L u then L.set (placeU L u) (u, s, now) else L.take (placeU L u) ++ (u, s, now) :: L.drop (placeU L u)
theorem putU_nil (u s now : Int) : putU [] u s now = [(u, s, now)] := by simp [putU, hasU, placeU]
theorem putU_lt {x : U} {L : List U} {u s now : Int} (h : x.1 < u) : putU (x :: L) u s now = x :: putU L u s now := by
  have hp := placeU_cons_lt (L := L) h
  unfold putU
  have hh : hasU (x :: L) u = hasU L u := by simp [hasU, hp]
  rw [hh, hp]
  split <;> simp
theorem putU_eq {x : U} {L : List U} {u s now : Int} (h : x.1 = u) : putU (x :: L) u s now = (u, s, now) :: L := by
  have hp := placeU_cons_ge (L := L) (x := x) (u := u) (by omega)
  unfold putU
  have hh : hasU (x :: L) u = true := by simp [hasU, hp, h]
  rw [hh, hp]; simp
theorem putU_gt {x : U} {L : List U} {u s now : Int} (h : u < x.1) : putU (x :: L) u s now = (u, s, now) :: x :: L := by
  have hp := placeU_cons_ge (L := L) (x := x) (u := u) (by omega)
  unfold putU
  have hh : hasU (x :: L) u = false := by simp [hasU, hp]; omega
  rw [hh, hp]; simp
theorem rightL_mono : ∀ {L : List U} {a b : Int}, rightL a L = true → b ≤ a → rightL b L = true
  | [], _, _, _, _ => rfl
  | x :: r, a, b, h, hb => by
    simp only [rightL, Bool.and_eq_true, decide_eq_true_eq] at h ⊢
    exact ⟨⟨h.1.1, by omega⟩, h.2⟩
theorem putU_right : ∀ (L : List U) (last u s now : Int), rightL last L = true → last < u → rightU (u, s, now) = true → rightL last (putU L u s now) = true
  | [], last, u, s, now, _, hl, hu => by
    rw [putU_nil]; simp only [rightL, hu, Bool.true_and, Bool.and_true, decide_eq_true_eq]; exact hl
  | x :: r, last, u, s, now, h, hl, hu => by
    have h0 := h
    simp only [rightL, Bool.and_eq_true, decide_eq_true_eq] at h
    by_cases h1 : x.1 < u
    · rw [putU_lt h1]
      simp only [rightL, Bool.and_eq_true, decide_eq_true_eq]
      exact ⟨h.1, putU_right r x.1 u s now h.2 h1 hu⟩
    · by_cases h2 : x.1 = u
      · rw [putU_eq h2]
        simp only [rightL, Bool.and_eq_true, decide_eq_true_eq, hu, true_and]
        exact ⟨hl, by rw [← h2]; exact h.2⟩
      · rw [putU_gt (by omega)]
        simp only [rightL, Bool.and_eq_true, decide_eq_true_eq, hu, true_and]
        exact ⟨hl, ⟨⟨h.1.1, by omega⟩, h.2⟩⟩
end Go.Proofs.Ytbhhahnmpkegbaa
