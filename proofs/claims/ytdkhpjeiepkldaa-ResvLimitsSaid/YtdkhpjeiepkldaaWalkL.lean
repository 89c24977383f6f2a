/-
  OWN. THE WALKS of resv's find where nobody has the ID, and of order.
-/
import Derived.Test.YtdkhpjeiepkldaaWalkJ
import Derived.StillTailTactics
set_option linter.unusedSimpArgs false
set_option linter.unusedVariables false
namespace Go.Proofs.Ytdkhpjeiepkldaa
open Go.RowKit

set_option maxHeartbeats 1000000 in
theorem findClo_any (k : Nat) (a b m : Int) (hab : ¬ (a = 0 ∧ b = 0)) (b4 b5 : Nat) (w : World) (c0 : w.cell? ⟨b4, 0, none⟩ = some (.int .i64 a)) (c1 : w.cell? ⟨b4, 1, none⟩ = some (.int .i64 b)) (c2 : w.cell? ⟨b5, 0, none⟩ = some (.int .i64 m)) (hb4 : b4 < w.heap.size) (hb5 : b5 < w.heap.size) :
    Calls Try.prog 16 #[.agg #[.int .i64 0, .int .i64 0, .int .i64 ((k : Int) + 1), .int .i64 k, .int .i64 ((k : Int) + 1), K1, .bool false, .int .i64 0], .pointer (some ⟨b4, 0, none⟩), .pointer (some ⟨b5, 0, none⟩)] w fun e w' => e = .returned (.bool false) ∧ Below w.heap.size w w' := by
  by_cases ha : a = 0
  · have hb : ¬ b = 0 := fun h => hab ⟨ha, h⟩
    subst ha
    have hz : ((0 : Int) == b) = false := beq_eq_false_iff_ne.2 (fun h => hb h.symm)
    clear hab hb
    go_enter Try.func16, Try.ntmps16
    go_wp2
    go_ret
    exact ⟨rfl, by go_grown⟩
  · have hz : ((0 : Int) == a) = false := beq_eq_false_iff_ne.2 (fun h => ha h.symm)
    clear hab ha
    go_enter Try.func16, Try.ntmps16
    go_wp2
    go_ret
    exact ⟨rfl, by go_grown⟩

set_option maxHeartbeats 1000000 in
theorem indexFunc_any (A : Option Addr) (n cap : Nat) (a b m : Int) (hab : 0 < n → ¬ (a = 0 ∧ b = 0)) (b4 b5 : Nat) (w : World) (h : RR w A n) (hn : n ≤ 1000) (c0 : w.cell? ⟨b4, 0, none⟩ = some (.int .i64 a)) (c1 : w.cell? ⟨b4, 1, none⟩ = some (.int .i64 b)) (c2 : w.cell? ⟨b5, 0, none⟩ = some (.int .i64 m)) (hb4 : b4 < w.heap.size) (hb5 : b5 < w.heap.size) :
    Calls Try.prog 15 #[.slice A n cap, .func (.func 16) #[] #[.pointer (some ⟨b4, 0, none⟩), .pointer (some ⟨b5, 0, none⟩)]] w fun e w' => e = .returned (.int .i64 (-1)) ∧ Below w.heap.size w w' := by
  have H := hide (fun (k : Nat) w' (hk : 0 < n) (hb : Below w.heap.size w w') => findClo_any k a b m (hab hk) b4 b5 w' ((hb.cell (p := ⟨b4, _, none⟩) hb4).trans c0) ((hb.cell (p := ⟨b4, _, none⟩) hb4).trans c1) ((hb.cell (p := ⟨b5, _, none⟩) hb5).trans c2) (Nat.lt_of_lt_of_le hb4 hb.size) (Nat.lt_of_lt_of_le hb5 hb.size))
  clear c0 c1 c2 hab
  go_enter Try.func15, Try.ntmps15
  go_wp2
  go_loopw [8] (fun i wr => ∃ k : Nat, k ≤ n ∧ i = .int .i64 k ∧ Below w.heap.size w wr) (fun i _ => n - (intOf i).toNat)
  case atStart => exact ⟨0, by omega, rfl, by go_grown⟩
  case round =>
    obtain ⟨k, hk, rfl, hb⟩ := hrel
    by_cases hlt : k < n
    · obtain ⟨bb, o, rfl, hbl, d0, d1, d2, d3, d4, d5, d6, d7⟩ := (h.after hb).at_ hlt
      have H2 := hide (H.out k wr (by omega) hb)
      go_wp2_with fail
      refine H2.out.mono ?_
      rintro e w1 ⟨rfl, hb1⟩
      have hb4 := bafter hb hb.size hb1
      go_wp2
      go_roundw
      case rel => exact ⟨k + 1, by omega, by go_num, hb4⟩
      case measure => simp [intOf] <;> omega
    · go_wp2
      go_ret
      exact ⟨rfl, hb⟩

set_option maxHeartbeats 1000000 in
theorem find_any (A : Option Addr) (n cap : Nat) (a b m : Int) (hab : 0 < n → ¬ (a = 0 ∧ b = 0)) (w : World) (h : RR w A n) (hn : n ≤ 1000) :
    Calls Try.prog 7 #[.slice A n cap, .agg #[.int .i64 a, .int .i64 b], .int .i64 m] w fun e w' => e = .returned (.int .i64 (-1)) ∧ Below w.heap.size w w' := by
  have hmf : ∀ (fn : Fn) (first cap : Array Value) (w : World), (Instr.makeFunc fn first cap).run Try.prog w = .ok (.func fn first cap) w := fun _ _ _ _ => rfl
  obtain ⟨w2, hw2⟩ : ∃ w2, w2 = (w.alloc (.cells #[.int .i64 a, .int .i64 b] 23)).alloc (.cells #[.int .i64 m] 3) := ⟨_, rfl⟩
  have hbw : Below w.heap.size w w2 := by rw [hw2]; exact ((Below.refl _ _).alloc (Nat.le_refl _) _).alloc (by simp) _
  have hsz : w2.heap.size = w.heap.size + 2 := by rw [hw2]; simp
  have f0 : w2.cell? ⟨w.heap.size, 0, none⟩ = some (.int .i64 a) := by rw [hw2]; go_simp
  have f1 : w2.cell? ⟨w.heap.size, 1, none⟩ = some (.int .i64 b) := by rw [hw2]; go_simp
  have f2 : w2.cell? ⟨w.heap.size + 1, 0, none⟩ = some (.int .i64 m) := by rw [hw2]; go_simp
  have H := hide (indexFunc_any A n cap a b m hab w.heap.size (w.heap.size + 1) w2 (h.after hbw) hn f0 f1 f2 (by omega) (by omega))
  have HB := hide hbw
  have HW := hide hw2
  clear f0 f1 f2 hsz hbw hw2 h hab
  go_enter Try.func7, Try.ntmps7
  go_wp2_with fail
  rw [← HW.out]
  refine H.out.mono ?_
  rintro e w1 ⟨rfl, hb1⟩
  have hb4 := bafter HB.out HB.out.size hb1
  go_wp2
  go_ret
  exact ⟨rfl, hb4⟩

/-! order -/
def cmpI (x y : Int) : Int := if x < y then -1 else if y < x then 1 else 0
set_option maxHeartbeats 400000 in
theorem isNaN_any (x : Int) (w : World) : Calls Try.prog 27 #[.int .i64 x] w fun e w' => e = .returned (.bool false) ∧ w = w' := by
  go_enter Try.func27, Try.ntmps27
  go_wp2
  go_ret
  exact ⟨rfl, rfl⟩
set_option maxHeartbeats 400000 in
theorem compare_any (x y : Int) (w : World) :
    Calls Try.prog 21 #[.int .i64 x, .int .i64 y] w fun e w' => e = .returned (.int .i64 (cmpI x y)) ∧ w = w' := by
  go_enter Try.func21, Try.ntmps21
  go_wp2_with fail
  refine (isNaN_any x _).mono ?_
  rintro e w' ⟨rfl, rfl⟩
  go_wp2_with fail
  refine (isNaN_any y _).mono ?_
  rintro e w' ⟨rfl, rfl⟩
  go_wp2
  all_goals go_ret
  all_goals (refine ⟨ret_int ?_, rfl⟩; unfold cmpI)
  · rw [if_pos (by assumption)]
  · rw [if_neg (by omega), if_pos (by omega)]
  · rw [if_neg (by omega), if_neg (by omega)]

def orP (x y z : Int) : Int := if x ≠ 0 then x else if y ≠ 0 then y else z
set_option maxHeartbeats 1000000 in
theorem or_any (b : Nat) (x y z : Int) (c : Nat) (w : World) (h0 : w.cell? ⟨b, 0, none⟩ = some (.int .i64 x)) (h1 : w.cell? ⟨b, 1, none⟩ = some (.int .i64 y)) (h2 : w.cell? ⟨b, 2, none⟩ = some (.int .i64 z)) :
    Calls Try.prog 20 #[.slice (some ⟨b, 0, none⟩) 3 c] w fun e w' => e = .returned (.int .i64 (orP x y z)) ∧ w = w' := by
  go_enter Try.func20, Try.ntmps20
  go_wp2
  go_loop [8] (fun i => i = .int .i64 0 ∨ (i = .int .i64 1 ∧ x = 0) ∨ (i = .int .i64 2 ∧ x = 0 ∧ y = 0) ∨ (i = .int .i64 3 ∧ x = 0 ∧ y = 0 ∧ z = 0)) (fun i => 3 - (intOf i).toNat)
  case atStart => exact .inl rfl
  case round =>
    rcases hrel with rfl | ⟨rfl, rfl⟩ | ⟨rfl, rfl, rfl⟩ | ⟨rfl, rfl, rfl, rfl⟩
    · by_cases hx : x = 0
      · subst hx
        go_wp2
        go_round
        case rel => exact .inr (.inl (by simp))
        case measure => simp [intOf]
      · have hb : (x != 0) = true := bne_iff_ne.2 hx
        have HN := hide (show orP x y z = x by unfold orP; rw [if_pos hx])
        go_wp2
        go_ret
        exact ⟨ret_int HN.out.symm, rfl⟩
    · by_cases hx : y = 0
      · subst hx
        go_wp2
        go_round
        case rel => exact .inr (.inr (.inl (by simp)))
        case measure => simp [intOf]
      · have hb : (y != 0) = true := bne_iff_ne.2 hx
        have HN := hide (show orP 0 y z = y by unfold orP; rw [if_neg (by simp), if_pos hx])
        go_wp2
        go_ret
        exact ⟨ret_int HN.out.symm, rfl⟩
    · by_cases hx : z = 0
      · subst hx
        go_wp2
        go_round
        case rel => exact .inr (.inr (.inr (by simp)))
        case measure => simp [intOf]
      · have hb : (z != 0) = true := bne_iff_ne.2 hx
        go_wp2
        go_ret
        exact ⟨rfl, rfl⟩
    · go_wp2
      go_ret
      exact ⟨rfl, rfl⟩
end Go.Proofs.Ytdkhpjeiepkldaa
