/-
  OWN. PLAIN LAW OF SPANS: right lists, meets, common ticks. No program.
-/
set_option linter.unusedSimpArgs false
set_option linter.unusedVariables false
namespace Go.Proofs.Ytnbbacomhomnmaa

abbrev Sp := Int × Int
def rightS : Int → List Sp → Bool
  | _, [] => true
  | last, x :: L => (decide (last < x.1) && decide (x.1 < x.2) && decide (x.2 ≤ 1099511627776)) && rightS x.2 L
def inS (t : Int) (L : List Sp) : Bool := L.any fun x => decide (x.1 ≤ t) && decide (t < x.2)

theorem drop_at {α : Type} {L : List α} {k : Nat} {x : α} (h : L[k]? = some x) : L.drop k = x :: L.drop (k + 1) := by
  obtain ⟨hk, rfl⟩ := List.getElem?_eq_some_iff.1 h
  exact List.drop_eq_getElem_cons hk
theorem rightS_cons {last : Int} {x : Sp} {L : List Sp} : rightS last (x :: L) = true ↔ (last < x.1 ∧ x.1 < x.2 ∧ x.2 ≤ 1099511627776) ∧ rightS x.2 L = true := by
  simp [rightS, and_assoc]
theorem rightS_no {last : Int} {x : Sp} {L : List Sp} (h : ¬ (last < x.1 ∧ x.1 < x.2 ∧ x.2 ≤ 1099511627776)) : rightS last (x :: L) = false := by
  cases hr : rightS last (x :: L)
  · rfl
  · exact absurd (rightS_cons.1 hr).1 h
theorem rightS_yes {last : Int} {x : Sp} {L : List Sp} (h : last < x.1 ∧ x.1 < x.2 ∧ x.2 ≤ 1099511627776) : rightS last (x :: L) = rightS x.2 L := by
  simp [rightS, h]
theorem inS_cons {t : Int} {x : Sp} {L : List Sp} : inS t (x :: L) = ((decide (x.1 ≤ t) && decide (t < x.2)) || inS t L) := rfl

/-- where two lists meet, two fingers -/
def meetP : List Sp → List Sp → List Sp
  | [], _ => []
  | _ :: _, [] => []
  | x :: a, y :: b =>
    let h := if max x.1 y.1 < min x.2 y.2 then [(max x.1 y.1, min x.2 y.2)] else []
    h ++ (if x.2 < y.2 then meetP a (y :: b) else meetP (x :: a) b)
termination_by a b => a.length + b.length

/-- where two lists meet, span by span -/
def meet1 (x y : Sp) : List Sp := if max x.1 y.1 < min x.2 y.2 then [(max x.1 y.1, min x.2 y.2)] else []
def meetR (a b : List Sp) : List Sp := a.flatMap fun x => b.flatMap fun y => meet1 x y

theorem meetP_nil (b : List Sp) : meetP [] b = [] := by rw [meetP]
theorem meetP_nil' (a : List Sp) : meetP a [] = [] := by cases a <;> rw [meetP]
theorem meetP_lt {x y : Sp} {a b : List Sp} (h : x.2 < y.2) : meetP (x :: a) (y :: b) = meet1 x y ++ meetP a (y :: b) := by rw [meetP, if_pos h]; rfl
theorem meetP_ge {x y : Sp} {a b : List Sp} (h : ¬ x.2 < y.2) : meetP (x :: a) (y :: b) = meet1 x y ++ meetP (x :: a) b := by rw [meetP, if_neg h]; rfl

theorem rightS_mono {l l' : Int} {L : List Sp} (h : l' ≤ l) (hr : rightS l L = true) : rightS l' L = true := by
  cases L with
  | nil => rfl
  | cons x L =>
    rw [rightS_cons] at hr ⊢
    exact ⟨by omega, hr.2⟩

/-- a span that ends no later than the list begins meets nothing -/
theorem meet1_none {x y : Sp} (h : x.2 ≤ y.1 ∨ y.2 ≤ x.1) : meet1 x y = [] := by
  unfold meet1; rw [if_neg (by omega)]
theorem flat1_none {x : Sp} : ∀ {b : List Sp} {l : Int}, rightS l b = true → x.2 ≤ l → (b.flatMap fun y => meet1 x y) = []
  | [], _, _, _ => rfl
  | y :: b, l, h, hx => by
    rw [rightS_cons] at h
    rw [List.flatMap_cons, meet1_none (by omega), flat1_none h.2 (by omega)]; rfl
theorem flat2_none {y : Sp} : ∀ {a : List Sp} {l : Int}, rightS l a = true → y.2 ≤ l → (a.flatMap fun x => meet1 x y) = []
  | [], _, _, _ => rfl
  | x :: a, l, h, hx => by
    rw [rightS_cons] at h
    rw [List.flatMap_cons, meet1_none (by omega), flat2_none h.2 (by omega)]; rfl

theorem meetR_cons {x : Sp} {a b : List Sp} : meetR (x :: a) b = (b.flatMap fun y => meet1 x y) ++ meetR a b := by
  unfold meetR; rw [List.flatMap_cons]
theorem meetR_nil (b : List Sp) : meetR [] b = [] := rfl
theorem meetR_nil' (a : List Sp) : meetR a [] = [] := by unfold meetR; simp
/-- the first of the second list, dropped: the others' ends lie behind it -/
theorem meetR_drop {y : Sp} {b : List Sp} : ∀ {a : List Sp} {l : Int}, rightS l a = true → y.2 ≤ l → meetR a (y :: b) = meetR a b
  | [], _, _, _ => rfl
  | x :: a, l, h, hx => by
    rw [rightS_cons] at h
    rw [meetR_cons, meetR_cons, List.flatMap_cons, meet1_none (by omega), List.nil_append, meetR_drop h.2 (by omega)]

theorem meetP_eq : ∀ (n : Nat) (a b : List Sp) (l l' : Int), a.length + b.length = n → rightS l a = true → rightS l' b = true → meetP a b = meetR a b := by
  intro n
  induction n with
  | zero =>
    intro a b l l' h ha hb
    obtain rfl : a = [] := List.eq_nil_of_length_eq_zero (by omega)
    rw [meetP_nil, meetR_nil]
  | succ n ih =>
    intro a b l l' h ha hb
    match a, b with
    | [], b => rw [meetP_nil, meetR_nil]
    | a, [] => rw [meetP_nil', meetR_nil']
    | x :: a, y :: b =>
      have ha' := rightS_cons.1 ha
      have hb' := rightS_cons.1 hb
      by_cases hlt : x.2 < y.2
      · rw [meetP_lt hlt, ih a (y :: b) x.2 l' (by simp at h ⊢; omega) ha'.2 hb, meetR_cons, List.flatMap_cons, flat1_none hb'.2 (by omega), List.append_nil]
      · rw [meetP_ge hlt, ih (x :: a) b l y.2 (by simp at h ⊢; omega) ha hb'.2, meetR_cons, meetR_cons, List.flatMap_cons, List.append_assoc, meetR_drop ha'.2 (by omega)]

theorem meetP_right : ∀ (n : Nat) (a b : List Sp) (l l' : Int), a.length + b.length = n → rightS l a = true → rightS l' b = true → rightS (max l l') (meetP a b) = true := by
  intro n
  induction n with
  | zero =>
    intro a b l l' h ha hb
    obtain rfl : a = [] := List.eq_nil_of_length_eq_zero (by omega)
    rw [meetP_nil]; rfl
  | succ n ih =>
    intro a b l l' h ha hb
    match a, b with
    | [], b => rw [meetP_nil]; rfl
    | a, [] => rw [meetP_nil']; rfl
    | x :: a, y :: b =>
      have ha' := rightS_cons.1 ha
      have hb' := rightS_cons.1 hb
      by_cases hlt : x.2 < y.2
      · rw [meetP_lt hlt]
        by_cases hm : max x.1 y.1 < min x.2 y.2
        · have := ih a (y :: b) x.2 y.1 (by simp at h ⊢; omega) ha'.2
          have hb2 : rightS l' (y :: b) = true := hb
          have i2 := ih a (y :: b) x.2 l' (by simp at h ⊢; omega) ha'.2 hb
          unfold meet1
          rw [if_pos hm, List.singleton_append, rightS_cons]
          exact ⟨by simp only; omega, rightS_mono (by simp only; omega) i2⟩
        · unfold meet1
          rw [if_neg hm, List.nil_append]
          exact rightS_mono (by omega) (ih a (y :: b) x.2 l' (by simp at h ⊢; omega) ha'.2 hb)
      · rw [meetP_ge hlt]
        by_cases hm : max x.1 y.1 < min x.2 y.2
        · have i2 := ih (x :: a) b l y.2 (by simp at h ⊢; omega) ha hb'.2
          unfold meet1
          rw [if_pos hm, List.singleton_append, rightS_cons]
          exact ⟨by simp only; omega, rightS_mono (by simp only; omega) i2⟩
        · unfold meet1
          rw [if_neg hm, List.nil_append]
          exact rightS_mono (by omega) (ih (x :: a) b l y.2 (by simp at h ⊢; omega) ha hb'.2)

theorem inS_append {t : Int} {a b : List Sp} : inS t (a ++ b) = (inS t a || inS t b) := by simp [inS]
theorem inS_iff {t : Int} {L : List Sp} : inS t L = true ↔ ∃ x ∈ L, x.1 ≤ t ∧ t < x.2 := by simp [inS]
theorem inS_meetR {t : Int} {a b : List Sp} : inS t (meetR a b) = (inS t a && inS t b) := by
  rw [Bool.eq_iff_iff, Bool.and_eq_true, inS_iff, inS_iff, inS_iff]
  unfold meetR
  constructor
  · rintro ⟨z, hz, h1, h2⟩
    obtain ⟨x, hx, hz⟩ := List.mem_flatMap.1 hz
    obtain ⟨y, hy, hz⟩ := List.mem_flatMap.1 hz
    unfold meet1 at hz
    split at hz
    · obtain rfl := List.mem_singleton.1 hz
      simp only at h1 h2
      exact ⟨⟨x, hx, by omega, by omega⟩, ⟨y, hy, by omega, by omega⟩⟩
    · cases hz
  · rintro ⟨⟨x, hx, h1, h2⟩, ⟨y, hy, h3, h4⟩⟩
    refine ⟨(max x.1 y.1, min x.2 y.2), List.mem_flatMap.2 ⟨x, hx, List.mem_flatMap.2 ⟨y, hy, ?_⟩⟩, by simp only; omega, by simp only; omega⟩
    unfold meet1
    rw [if_pos (by omega)]
    exact List.mem_singleton.2 rfl
theorem meetP_comm : ∀ (n : Nat) (a b : List Sp) (l l' : Int), a.length + b.length = n → rightS l a = true → rightS l' b = true → meetP a b = meetP b a := by
  intro n
  induction n with
  | zero =>
    intro a b l l' h ha hb
    obtain rfl : a = [] := List.eq_nil_of_length_eq_zero (by omega)
    rw [meetP_nil, meetP_nil']
  | succ n ih =>
    intro a b l l' h ha hb
    match a, b with
    | [], b => rw [meetP_nil, meetP_nil']
    | a, [] => rw [meetP_nil, meetP_nil']
    | x :: a, y :: b =>
      have ha' := rightS_cons.1 ha
      have hb' := rightS_cons.1 hb
      have hs : meet1 x y = meet1 y x := by unfold meet1; rw [show max x.1 y.1 = max y.1 x.1 by omega, show min x.2 y.2 = min y.2 x.2 by omega]
      by_cases hlt : x.2 < y.2
      · rw [meetP_lt hlt, meetP_ge (show ¬ y.2 < x.2 by omega), hs, ih a (y :: b) x.2 l' (by simp at h ⊢; omega) ha'.2 hb]
      · by_cases hgt : y.2 < x.2
        · rw [meetP_ge hlt, meetP_lt hgt, hs, ih (x :: a) b l y.2 (by simp at h ⊢; omega) ha hb'.2]
        · have e : x.2 = y.2 := by omega
          rw [meetP_eq _ _ _ l l' rfl ha hb, meetP_eq _ _ _ l' l rfl hb ha, meetR_cons, meetR_cons, List.flatMap_cons, List.flatMap_cons, flat1_none hb'.2 (by omega), flat1_none ha'.2 (by omega), meetR_drop ha'.2 (by omega), meetR_drop hb'.2 (by omega), hs,
            ← meetP_eq _ a b x.2 y.2 rfl ha'.2 hb'.2, ← meetP_eq _ b a y.2 x.2 rfl hb'.2 ha'.2]
          cases n with
          | zero => simp only [List.length_cons] at h; omega
          | succ n =>
            by_cases hb0 : b = []
            · subst hb0; rw [meetP_nil, meetP_nil']
            · by_cases ha0 : a = []
              · subst ha0; rw [meetP_nil, meetP_nil']
              · have h5 := ih a (y :: b) x.2 l' (by simp at h ⊢; omega) ha'.2 hb
                rw [meetP_eq _ _ _ x.2 l' rfl ha'.2 hb, meetP_eq _ _ _ l' x.2 rfl hb ha'.2, meetR_drop ha'.2 (by omega), meetR_cons, flat1_none ha'.2 (by omega), List.nil_append, ← meetP_eq _ a b x.2 y.2 rfl ha'.2 hb'.2, ← meetP_eq _ b a y.2 x.2 rfl hb'.2 ha'.2] at h5
                rw [h5]
theorem meetP_self : ∀ (a : List Sp) (l : Int), rightS l a = true → meetP a a = a
  | [], _, _ => meetP_nil _
  | x :: a, l, h => by
    have h' := rightS_cons.1 h
    rw [meetP_eq _ _ _ l l rfl h h, meetR_cons, List.flatMap_cons, flat1_none h'.2 (Int.le_refl _), meetR_drop h'.2 (Int.le_refl _), ← meetP_eq _ a a x.2 x.2 rfl h'.2 h'.2, meetP_self a x.2 h'.2]
    unfold meet1
    rw [if_pos (by omega), show max x.1 x.1 = x.1 by omega, show min x.2 x.2 = x.2 by omega]
    rfl
end Go.Proofs.Ytnbbacomhomnmaa
