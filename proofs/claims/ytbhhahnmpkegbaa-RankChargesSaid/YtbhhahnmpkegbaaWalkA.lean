/-
  OWN. THE WALKS of rank's small functions: tick.Right, cmp.Compare, rightUse, right, find.
-/
import Derived.Test.YtbhhahnmpkegbaaKit
import Derived.Test.YtbhhahnmpkegbaaPlain
set_option linter.unusedSimpArgs false
set_option linter.unusedVariables false
namespace Go.Proofs.Ytbhhahnmpkegbaa
open Go.RowKit

def cellsU (x : U) : List Value := [.int .i64 x.1, .int .i64 x.2.1, .int .i64 x.2.2]
def valU (x : U) : Value := .agg #[.int .i64 x.1, .int .i64 x.2.1, .int .i64 x.2.2]
/-- the slice '.slice A n c' reads as the uses L -/
def RU (w : World) (A : Option Addr) (n : Nat) (L : List U) : Prop := Rows3 3 w A n (L.map cellsU)
theorem RU.len {w : World} {A : Option Addr} {n : Nat} {L : List U} (h : RU w A n L) : L.length = n := by simpa using h.1
theorem RU.after {w w' : World} {A : Option Addr} {n : Nat} {L : List U} (h : RU w A n L) (hb : Below w.heap.size w w') : RU w' A n L := Rows3.after h hb
theorem RU.nil_ {w : World} {A : Option Addr} : RU w A 0 [] := Rows3.nil_
theorem RU.at_ {w : World} {A : Option Addr} {n : Nat} {L : List U} (h : RU w A n L) {i : Nat} (hi : i < n) :
    ∃ b o x, A = some ⟨b, o, none⟩ ∧ b < w.heap.size ∧ L[i]? = some x ∧ w.cell? ⟨b, o + i * 3, none⟩ = some (.int .i64 x.1) ∧ w.cell? ⟨b, o + i * 3 + 1, none⟩ = some (.int .i64 x.2.1) ∧ w.cell? ⟨b, o + i * 3 + 2, none⟩ = some (.int .i64 x.2.2) := by
  obtain ⟨b, o, r, hA, hb, hr, hk, hc⟩ := Rows3.at_ h hi
  rw [List.getElem?_map] at hr
  cases hx : L[i]? with
  | none => simp [hx] at hr
  | some x =>
    simp [hx] at hr
    subst hr
    exact ⟨b, o, x, hA, hb, rfl, hc 0 _ rfl, hc 1 _ rfl, hc 2 _ rfl⟩

set_option maxHeartbeats 400000 in
theorem tickRight_any (t : Int) (w : World) :
    Calls Try.prog 8 #[.int .i64 t] w fun e w' => e = .returned (.bool (decide (0 ≤ t) && decide (t ≤ 1099511627776))) ∧ w = w' := by
  go_enter Try.func8, Try.ntmps8
  go_wp2
  all_goals go_ret
  all_goals simp [*]
  omega
set_option maxHeartbeats 400000 in
theorem refRight_any (t : Int) (w : World) :
    Calls Try.prog 13 #[.int .i64 t] w fun e w' => e = .returned (.bool (decide (0 ≤ t) && decide (t ≤ 1099511627776))) ∧ w = w' := by
  go_enter Try.func13, Try.ntmps13
  go_wp2
  all_goals go_ret
  all_goals simp [*]
  omega

def cmpI (x y : Int) : Int := if x < y then -1 else if y < x then 1 else 0
set_option maxHeartbeats 400000 in
theorem compare_any (x y : Int) (w : World) :
    Calls Try.prog 18 #[.int .i64 x, .int .i64 y] w fun e w' => e = .returned (.int .i64 (cmpI x y)) ∧ w = w' := by
  go_enter Try.func18, Try.ntmps18
  go_wp2
  all_goals go_ret
  all_goals (refine ⟨ret_int ?_, rfl⟩; unfold cmpI)
  · rw [if_pos (by assumption)]
  · rw [if_neg (by omega), if_pos (by omega)]
  · rw [if_neg (by omega), if_neg (by omega)]
set_option maxHeartbeats 400000 in
theorem findCmp_any (x : U) (t : Int) (w : World) :
    Calls Try.prog 17 #[.agg #[.int .i64 x.1, .int .i64 x.2.1, .int .i64 x.2.2], .int .i64 t] w fun e w' => e = .returned (.int .i64 (cmpI x.1 t)) ∧ Below w.heap.size w w' := by
  go_enter Try.func17, Try.ntmps17
  go_wp2_with (go_at_call 18; refine (compare_any _ _ _).mono ?_; rintro e w' ⟨rfl, rfl⟩)
  go_ret
  exact ⟨rfl, by go_grown⟩
set_option maxHeartbeats 400000 in
theorem rightUse_any (x : U) (w : World) :
    Calls Try.prog 15 #[.agg #[.int .i64 x.1, .int .i64 x.2.1, .int .i64 x.2.2]] w fun e w' => e = .returned (.bool (rightU x)) ∧ Below w.heap.size w w' := by
  go_enter Try.func15, Try.ntmps15
  go_wp2_with (go_at_call 8; refine (tickRight_any _ _).mono ?_; rintro e w' ⟨rfl, rfl⟩)
  all_goals go_ret
  all_goals (refine ⟨ret_bool ?_, by go_grown⟩; unfold rightU; rw [Bool.eq_iff_iff]; simp [*])
  all_goals omega

set_option maxHeartbeats 400000 in
theorem right_any (A : Option Addr) (n c : Nat) (L : List U) (w : World) (h : RU w A n L) (hn : n < 1000000):
    Calls Try.prog 7 #[.slice A n c] w fun e w' => e = .returned (.bool (rightAt L 0)) ∧ Below w.heap.size w w' := by
  go_enter Try.func7, Try.ntmps7
  go_wp2
  go_loopw [7] (fun i wr => ∃ k : Nat, k ≤ n ∧ i = .int .i64 k ∧ Below w.heap.size w wr ∧ Hid (rightAt L 0 = rightAt L k)) (fun i _ => n - (intOf i).toNat)
  case atStart => exact ⟨0, by omega, rfl, by go_grown, rfl⟩
  case round =>
    obtain ⟨k, hk, rfl, hb, HR⟩ := hrel
    by_cases hlt : k < n
    · obtain ⟨b, o, x, rfl, hbl, hx, c0, c1, c2⟩ := (h.after hb).at_ hlt
      obtain ⟨y, hy⟩ : ∃ y : U, 0 < k → L[k - 1]? = some y ∧ wr.cell? ⟨b, o + (k - 1) * 3, none⟩ = some (.int .i64 y.1) := by
        by_cases h0 : 0 < k
        · obtain ⟨b', o', y, he, _, hy, d0, _⟩ := (h.after hb).at_ (i := k - 1) (by omega)
          simp only [Option.some.injEq, Addr.mk.injEq, and_true] at he
          obtain ⟨rfl, rfl⟩ := he
          exact ⟨y, fun _ => ⟨hy, d0⟩⟩
        · exact ⟨x, fun h => absurd h h0⟩
      have HX := hide hx
      have HY := hide hy
      clear hx hy h
      go_wp2
      have W0 : ∀ s : BW (wr.alloc (.cells #[Value.int IntKind.i64 x.fst, Value.int IntKind.i64 x.snd.fst, Value.int IntKind.i64 x.snd.snd] 27)), s.w.cell? ⟨wr.heap.size, 0, none⟩ = some (.int .i64 x.1) := BW.cell (by go_simp)
      have W1 : ∀ s : BW (wr.alloc (.cells #[Value.int IntKind.i64 x.fst, Value.int IntKind.i64 x.snd.fst, Value.int IntKind.i64 x.snd.snd] 27)), s.w.cell? ⟨wr.heap.size, 1, none⟩ = some (.int .i64 x.2.1) := BW.cell (by go_simp)
      have W2 : ∀ s : BW (wr.alloc (.cells #[Value.int IntKind.i64 x.fst, Value.int IntKind.i64 x.snd.fst, Value.int IntKind.i64 x.snd.snd] 27)), s.w.cell? ⟨wr.heap.size, 2, none⟩ = some (.int .i64 x.2.2) := BW.cell (by go_simp)
      cases hr : rightU x
      · refine wp_region_bw (by kernel_rfl) (by kernel_rfl) ?_
        repeat (go_big_quiet_step ((go_at_call 15; exact Calls.bw (rightUse_any x _))))
        refine wpQuiet_nil ?_
        rintro _ ⟨s, rfl⟩
        go_wp2
        go_ret
        exact ⟨ret_bool (by rw [HR.out, rightAt_bad HX.out hr]), (hb.alloc hb.size _).trans (s.h.mono (by simp; have := hb.size; omega))⟩
      · by_cases h0 : 0 < k
        · obtain ⟨_, hyc⟩ := HY.out h0
          have W3 : ∀ s : BW (wr.alloc (.cells #[Value.int IntKind.i64 x.fst, Value.int IntKind.i64 x.snd.fst, Value.int IntKind.i64 x.snd.snd] 27)), s.w.cell? ⟨b, o + (k - 1) * 3, none⟩ = some (.int .i64 y.1) := BW.cell (by go_simp)
          have hk1 : ((k : Int) - 1).toNat = k - 1 := by omega
          have hk2 : (0 : Int) ≤ (k : Int) - 1 := by omega
          have hk3 : (k : Int) - 1 < (n : Int) := by omega
          refine wp_region_bw (by kernel_rfl) (by kernel_rfl) ?_
          repeat (go_big_quiet_step ((go_at_call 15; exact Calls.bw (rightUse_any x _))))
          refine wpQuiet_nil ?_
          rintro _ ⟨s, rfl⟩
          have hsz : wr.heap.size + 1 ≤ s.w.heap.size := by have := s.h.size; simpa using this
          have hs : Below w.heap.size w s.w := (hb.alloc hb.size _).trans (s.h.mono (by simp; have := hb.size; omega))
          have hp : prevU L k = y.1 := prevU_pos h0 (HY.out h0).1
          have HP := hide hp
          clear hp
          go_wp2
          · go_ret
            have hle : x.1 ≤ y.1 := by assumption
            exact ⟨ret_bool (by rw [HR.out, rightAt_low HX.out (by rw [HP.out]; exact hle)]), hs⟩
          · have hgt : y.1 < x.1 := by omega
            go_roundw
            case rel => exact ⟨k + 1, by omega, by go_num, hs, by show _ = _; rw [HR.out, rightAt_next HX.out hr (by rw [HP.out]; exact hgt)]⟩
            case measure => simp [intOf]; omega
        · obtain rfl : k = 0 := by omega
          have hp : prevU L 0 < x.1 := by have := ((rightU_iff x).1 hr).1; rw [prevU_zero]; omega
          have HP := hide hp
          clear hp
          refine wp_region_bw (by kernel_rfl) (by kernel_rfl) ?_
          repeat (go_big_quiet_step ((go_at_call 15; exact Calls.bw (rightUse_any x _))))
          refine wpQuiet_nil ?_
          rintro _ ⟨s, rfl⟩
          have hs : Below w.heap.size w s.w := (hb.alloc hb.size _).trans (s.h.mono (by simp; have := hb.size; omega))
          go_wp2
          go_roundw
          case rel => exact ⟨1, by omega, by go_num, hs, by show _ = _; rw [HR.out, rightAt_next HX.out hr HP.out]⟩
          case measure => simp [intOf]; omega
    · go_wp2
      go_ret
      exact ⟨ret_bool (by rw [HR.out, rightAt_end L (by rw [h.len]; omega)]), hb⟩
end Go.Proofs.Ytbhhahnmpkegbaa
