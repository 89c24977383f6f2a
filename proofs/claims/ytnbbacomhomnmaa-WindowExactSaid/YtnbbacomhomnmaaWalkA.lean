/-
  OWN. THE WALKS of window's small functions: tick.Right, cmp.Compare, cmp.Or, Check, in, lies, Span, Right, Spans.
-/
import Derived.Test.YtnbbacomhomnmaaKit
import Derived.Test.YtnbbacomhomnmaaPlain
set_option linter.unusedSimpArgs false
set_option linter.unusedVariables false
namespace Go.Proofs.Ytnbbacomhomnmaa
open Go.RowKit

def cellsS (x : Sp) : List Value := [.int .i64 x.1, .int .i64 x.2]
/-- the slice '.slice A n c' reads as the spans L -/
def RS (w : World) (A : Option Addr) (n : Nat) (L : List Sp) : Prop := Rows3 2 w A n (L.map cellsS)
theorem RS.len {w : World} {A : Option Addr} {n : Nat} {L : List Sp} (h : RS w A n L) : L.length = n := by simpa using h.1
theorem RS.after {w w' : World} {A : Option Addr} {n : Nat} {L : List Sp} (h : RS w A n L) (hb : Below w.heap.size w w') : RS w' A n L := Rows3.after h hb
theorem RS.below {w w' : World} {A : Option Addr} {n B : Nat} {L : List Sp} (h : RS w A n L) (hb : Below B w w') (hB : w.heap.size ≤ B) : RS w' A n L := Rows3.below h hb hB
theorem RS.nil_ {w : World} {A : Option Addr} : RS w A 0 [] := Rows3.nil_
theorem RS.at_ {w : World} {A : Option Addr} {n : Nat} {L : List Sp} (h : RS w A n L) {i : Nat} (hi : i < n) :
    ∃ b o x, A = some ⟨b, o, none⟩ ∧ b < w.heap.size ∧ L[i]? = some x ∧ w.cell? ⟨b, o + i * 2, none⟩ = some (.int .i64 x.1) ∧ w.cell? ⟨b, o + i * 2 + 1, none⟩ = some (.int .i64 x.2) := by
  obtain ⟨b, o, r, hA, hb, hr, hk, hc⟩ := Rows3.at_ h hi
  rw [List.getElem?_map] at hr
  cases hx : L[i]? with
  | none => simp [hx] at hr
  | some x =>
    simp [hx] at hr
    subst hr
    exact ⟨b, o, x, hA, hb, rfl, hc 0 _ rfl, hc 1 _ rfl⟩

set_option maxHeartbeats 400000 in
theorem tickRight_any (t : Int) (w : World) :
    Calls Try.prog 16 #[.int .i64 t] w fun e w' => e = .returned (.bool (decide (0 ≤ t) && decide (t ≤ 1099511627776))) ∧ w = w' := by
  go_enter Try.func16, Try.ntmps16
  go_wp2
  all_goals go_ret
  all_goals simp [*]
  omega
set_option maxHeartbeats 400000 in
theorem span_any (x y : Int) (w : World) :
    Calls Try.prog 21 #[.int .i64 x, .int .i64 y] w fun e w' => e = .returned (.bool (decide (0 ≤ x) && decide (x < y) && decide (y ≤ 1099511627776))) ∧ w = w' := by
  go_enter Try.func21, Try.ntmps21
  go_wp2
  all_goals go_ret
  all_goals simp [*]
  all_goals omega

def cmpI (x y : Int) : Int := if x < y then -1 else if y < x then 1 else 0
set_option maxHeartbeats 400000 in
theorem compare_any (x y : Int) (w : World) :
    Calls Try.prog 20 #[.int .i64 x, .int .i64 y] w fun e w' => e = .returned (.int .i64 (cmpI x y)) ∧ w = w' := by
  go_enter Try.func20, Try.ntmps20
  go_wp2
  all_goals go_ret
  all_goals (refine ⟨ret_int ?_, rfl⟩; unfold cmpI)
  · rw [if_pos (by assumption)]
  · rw [if_neg (by omega), if_pos (by omega)]
  · rw [if_neg (by omega), if_neg (by omega)]

def codeS (L : List Sp) : Int := if rightS (-1) L then 0 else 9
theorem codeS_ok {L : List Sp} (h : rightS (-1) L = true) : codeS L = 0 := by unfold codeS; rw [h]; rfl
theorem codeS_no {L : List Sp} (h : rightS (-1) L = false) : codeS L = 9 := by unfold codeS; rw [h]; rfl
set_option maxHeartbeats 1000000 in
theorem check_any (A : Option Addr) (n c : Nat) (L : List Sp) (w : World) (h : RS w A n L) (hn : n < 1000000) :
    Calls Try.prog 7 #[.slice A n c] w fun e w' => e = .returned (.int .i64 (codeS L)) ∧ Below w.heap.size w w' := by
  go_enter Try.func7, Try.ntmps7
  go_wp2
  go_loopw [3, 8] (fun l i wr => ∃ (k : Nat) (last : Int), k ≤ n ∧ l = .int .i64 last ∧ i = .int .i64 k ∧ Below w.heap.size w wr ∧ Hid (rightS (-1) L = rightS last (L.drop k))) (fun _ i _ => n - (intOf i).toNat)
  case atStart => exact ⟨0, -1, by omega, rfl, rfl, by go_grown, rfl⟩
  case round =>
    obtain ⟨k, last, hk, rfl, rfl, hb, HR⟩ := hrel
    by_cases hlt : k < n
    · obtain ⟨b, o, x, rfl, hbl, hx, c0, c1⟩ := (h.after hb).at_ hlt
      have HX := hide (drop_at hx)
      clear hx h
      go_wp2
      all_goals first
        | (have hno : ¬ (last < x.1 ∧ x.1 < x.2 ∧ x.2 ≤ 1099511627776) := by omega
           have HN : rightS (-1) L = false := by rw [HR.out, HX.out, rightS_no hno]
           go_ret
           exact ⟨ret_int (codeS_no HN).symm, hb.alloc hb.size _⟩)
        | skip
      have HN : rightS (-1) L = rightS x.2 (L.drop (k + 1)) := by rw [HR.out, HX.out, rightS_yes (by omega)]
      go_roundw
      case rel => exact ⟨k + 1, x.2, by omega, rfl, by go_num, hb.alloc hb.size _, HN⟩
      case measure => simp [intOf]; omega
    · have HN : rightS (-1) L = true := by rw [HR.out, List.drop_eq_nil_of_le (by rw [h.len]; omega)]; rfl
      go_wp2
      go_ret
      exact ⟨ret_int (codeS_ok HN).symm, hb⟩

theorem inS_drop {t : Int} {L : List Sp} {k : Nat} {x : Sp} (h : L[k]? = some x) : inS t (L.drop k) = ((decide (x.1 ≤ t) && decide (t < x.2)) || inS t (L.drop (k + 1))) := by rw [drop_at h]; rfl

set_option maxHeartbeats 1000000 in
theorem in_any (t : Int) (A : Option Addr) (n c : Nat) (L : List Sp) (w : World) (h : RS w A n L) (hn : n < 1000000) :
    Calls Try.prog 9 #[.int .i64 t, .slice A n c] w fun e w' => e = .returned (.bool (inS t L)) ∧ w = w' := by
  go_enter Try.func9, Try.ntmps9
  go_wp2
  go_loop [5] (fun i => ∃ k : Nat, k ≤ n ∧ i = .int .i64 k ∧ Hid (inS t L = inS t (L.drop k))) (fun i => n - (intOf i).toNat)
  case atStart => exact ⟨0, by omega, rfl, rfl⟩
  case round =>
    obtain ⟨k, hk, rfl, HR⟩ := hrel
    by_cases hlt : k < n
    · obtain ⟨b, o, x, rfl, hbl, hx, c0, c1⟩ := h.at_ hlt
      have HX := hide (inS_drop (t := t) hx)
      clear hx h
      go_wp2
      all_goals first
        | (have HN : inS t L = true := by rw [HR.out, HX.out]; simp; omega
           rw [HN]
           go_ret
           exact ⟨rfl, rfl⟩)
        | skip
      all_goals (
        have HN : inS t L = inS t (L.drop (k + 1)) := by
          have h9 : (decide (x.1 ≤ t) && decide (t < x.2)) = false := by simp; omega
          rw [HR.out, HX.out, h9, Bool.false_or]
        first
          | exact ⟨⟨k + 1, by omega, by go_num, HN⟩, by simp [intOf]; omega⟩
          | (go_round
             case rel => exact ⟨k + 1, by omega, by go_num, HN⟩
             case measure => simp [intOf]; omega))
    · have HN : inS t L = false := by rw [HR.out, List.drop_eq_nil_of_le (by rw [h.len]; omega)]; rfl
      rw [HN]
      go_wp2
      go_ret
      exact ⟨rfl, rfl⟩
set_option maxHeartbeats 1000000 in
theorem lies_any (t : Int) (A : Option Addr) (n c : Nat) (L : List Sp) (w : World) (h : RS w A n L) (hn : n < 1000000) :
    Calls Try.prog 26 #[.int .i64 t, .slice A n c] w fun e w' => e = .returned (.bool (inS t L)) ∧ w = w' := by
  go_enter Try.func26, Try.ntmps26
  go_wp2
  go_loop [5] (fun i => ∃ k : Nat, k ≤ n ∧ i = .int .i64 k ∧ Hid (inS t L = inS t (L.drop k))) (fun i => n - (intOf i).toNat)
  case atStart => exact ⟨0, by omega, rfl, rfl⟩
  case round =>
    obtain ⟨k, hk, rfl, HR⟩ := hrel
    by_cases hlt : k < n
    · obtain ⟨b, o, x, rfl, hbl, hx, c0, c1⟩ := h.at_ hlt
      have HX := hide (inS_drop (t := t) hx)
      clear hx h
      go_wp2
      all_goals first
        | (have HN : inS t L = true := by rw [HR.out, HX.out]; simp; omega
           rw [HN]
           go_ret
           exact ⟨rfl, rfl⟩)
        | skip
      all_goals (
        have HN : inS t L = inS t (L.drop (k + 1)) := by
          have h9 : (decide (x.1 ≤ t) && decide (t < x.2)) = false := by simp; omega
          rw [HR.out, HX.out, h9, Bool.false_or]
        first
          | exact ⟨⟨k + 1, by omega, by go_num, HN⟩, by simp [intOf]; omega⟩
          | (go_round
             case rel => exact ⟨k + 1, by omega, by go_num, HN⟩
             case measure => simp [intOf]; omega))
    · have HN : inS t L = false := by rw [HR.out, List.drop_eq_nil_of_le (by rw [h.len]; omega)]; rfl
      rw [HN]
      go_wp2
      go_ret
      exact ⟨rfl, rfl⟩

theorem below_drewN' {B : Nat} {w w' : World} (h : Below B w w') (n : Nat) : Below B w (w'.drewN n) := below_drewN h n

set_option maxHeartbeats 1000000 in
theorem spans_any (A A' : Option Addr) (n c n' c' : Nat) (L L' : List Sp) (w : World) (h : RS w A n L) (h' : RS w A' n' L') (hn : n < 1000000) (hn' : n' < 1000000) :
    Calls Try.prog 13 #[.slice A n c, .slice A' n' c'] w fun e w' => e = .returned (.bool (decide (L = L'))) ∧ Below w.heap.size w w' := by
  by_cases hne : n = n'
  · subst hne
    go_enter Try.func13, Try.ntmps13
    go_wp2
    go_loopw [5] (fun i wr => ∃ k : Nat, k ≤ n ∧ i = .int .i64 k ∧ Below w.heap.size w wr ∧ Hid (decide (L = L') = decide (L.drop k = L'.drop k))) (fun i _ => n - (intOf i).toNat)
    case atStart => exact ⟨0, by omega, rfl, by go_grown, rfl⟩
    case round =>
      obtain ⟨k, hk, rfl, hb, HR⟩ := hrel
      by_cases hlt : k < n
      · obtain ⟨b, o, x, rfl, hbl, hx, c0, c1⟩ := (h.after hb).at_ hlt
        obtain ⟨b', o', y, rfl, hbl', hy, d0, d1⟩ := (h'.after hb).at_ hlt
        have HX := hide (drop_at hx)
        have HY := hide (drop_at hy)
        clear hx hy h h'
        have hd2 : (0 : Int) ≤ (k : Int) := by omega
        have hd3 : (k : Int) < (n : Int) := by omega
        go_wp2
        by_cases hxy : x = y
        · subst hxy
          have e1 : (x.1 == x.1) = true := by simp
          have e2 : (x.2 == x.2) = true := by simp
          go_quiet (fail)
          go_wp2
          have HN : decide (L = L') = decide (L.drop (k + 1) = L'.drop (k + 1)) := by rw [HR.out, HX.out, HY.out]; simp
          go_roundw
          case rel => exact ⟨k + 1, by omega, by go_num, below_drewN' hb _, HN⟩
          case measure => simp [intOf]; omega
        · have HN : decide (L = L') = false := by rw [HR.out, HX.out, HY.out]; simp [hxy]
          by_cases h1 : x.1 = y.1
          · have h2 : x.2 ≠ y.2 := fun e => hxy (Prod.ext h1 e)
            have e1 : (x.1 == y.1) = true := by simp [h1]
            have e2 : (x.2 == y.2) = false := by simp [h2]
            go_quiet (fail)
            go_wp2
            go_ret
            exact ⟨ret_bool HN.symm, below_drewN' hb _⟩
          · have e1 : (x.1 == y.1) = false := by simp [h1]
            go_quiet (fail)
            go_wp2
            go_ret
            exact ⟨ret_bool HN.symm, below_drewN' hb _⟩
      · have HN : decide (L = L') = true := by rw [HR.out, List.drop_eq_nil_of_le (by rw [h.len]; omega), List.drop_eq_nil_of_le (by rw [h'.len]; omega)]; rfl
        go_wp2
        go_ret
        exact ⟨ret_bool HN.symm, hb⟩
  · have HN : decide (L = L') = false := by
      refine decide_eq_false fun e => hne ?_
      rw [← h.len, ← h'.len, e]
    go_enter Try.func13, Try.ntmps13
    go_wp2
    go_ret
    exact ⟨ret_bool HN.symm, Below.refl _ _⟩
end Go.Proofs.Ytnbbacomhomnmaa
