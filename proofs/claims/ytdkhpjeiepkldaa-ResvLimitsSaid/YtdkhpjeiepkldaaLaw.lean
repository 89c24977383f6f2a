/-
  OWN. THE LAW ResvLimits, walked.
-/
import Derived.Test.YtdkhpjeiepkldaaWalkP
import Derived.Test.YtdkhpjeiepkldaaPlain
set_option linter.unusedSimpArgs false
set_option linter.unusedVariables false
namespace Go.Proofs.Ytdkhpjeiepkldaa
open Go.RowKit

/-- as many as may be are refused -/
theorem add4_full (c : Nat) (A : Option Addr) (N cap : Nat) (a b m f : Int) (s : Bool) (w : World) (hN : 64 ≤ N) (hN2 : N ≤ 1000) :
    Calls Try.prog 4 #[C c, .slice none 0 0, .slice A N cap, newV a b m f s] w fun e w' => e = .returned (.tuple #[.slice none 0 0, .int .i64 20]) ∧ Below w.heap.size w w' := by
  go_enter Try.func4, Try.ntmps4
  go_wp2
  go_ret2
  exact ⟨rfl, by go_grown⟩

theorem RR.none_ (w : World) (A : Option Addr) : RR w A 0 := Rows3.nil_

set_option maxHeartbeats 1000000 in
theorem wakes_any (w : World) : Calls Try.prog 5 #[] w fun e w' => e = .returned (.bool true) ∧ Below w.heap.size w w' := by
  have H : Calls Try.prog 4 #[.complex .f64 4611686018427387904 0, .slice none 0 0, .slice none 0 0, .agg #[.int .i64 0, .int .i64 0, .int .i64 1, .int .i64 3, .int .i64 4, .complex .f64 4607182418800017408 0, .bool true, .int .i64 0]] w (AddPost5 0 0 0 1 3 true w) :=
    add4_any 2 (by omega) none 0 0 0 0 1 3 true w (RR.none_ w none) (fun _ => ⟨rfl, rfl⟩) (by omega) (fun h => absurd h (by omega)) (by omega) stW rfl stW_step
  have H := hide H
  go_enter Try.func5, Try.ntmps5
  go_wp2_with fail
  refine H.out.mono ?_
  rintro e w1 ⟨hb, v', at_, rfl, ho⟩
  obtain ⟨g, cap, rfl, _, hlt⟩ := World.ownsRow.form ho (by omega)
  have hc : w1.cell? ⟨g, 2, none⟩ = some (.int .i64 1) := by
    rw [ho.cellAt 2 (by omega)]
    have e0 : flatR 0 = [] := rfl
    rw [e0]
    simp [cellsV]
  clear ho
  go_wp2
  go_ret
  exact ⟨rfl, hb⟩

theorem flatR_succ (n : Nat) : flatR (n + 1) = flatR n ++ cellsR n := by simp [flatR, List.range_succ]
theorem cellsR_one (k : Nat) : ∀ u ∈ cellsR k, u.oneCell' = true := oneV _ _ _ _ _
theorem cells_newR (w : World) (k : Nat) : ∀ j u, (cellsR k)[j]? = some u → (w.alloc (elemO k)).cell? ((⟨w.heap.size, 0, none⟩ : Addr).add j) = some u := cells_new w (cellsR k) 29

set_option maxHeartbeats 2000000 in
theorem law_go (p : Nat) (hp : p ≤ 2) (a b : Int) (hab : ¬ (a = 0 ∧ b = 0)) (w : World) :
    Calls Try.prog 3 #[.int .i64 p, .agg #[.int .i64 a, .int .i64 b]] w fun e w' => e = .returned (.bool true) ∧ Below w.heap.size w w' := by
  obtain ⟨i0, hi, hz0, hz1, hz2⟩ := info_parts info29
  have HAB := hide hab
  by_cases ha : a = 0
  · have hb0 : ¬ b = 0 := fun h => hab ⟨ha, h⟩
    subst ha
    clear hab
    go_enter Try.func3, Try.ntmps3
    go_wp2
    clear hb0
    have hw1 := below_alloc w (.cells #[.int .i64 0, .int .i64 b] 23)
    have hid : ∀ w', Below (w.alloc (.cells #[.int .i64 0, .int .i64 b] 23)).heap.size (w.alloc (.cells #[.int .i64 0, .int .i64 b] 23)) w' → w'.cell? ⟨w.heap.size, 0, none⟩ = some (.int .i64 0) ∧ w'.cell? ⟨w.heap.size, 1, none⟩ = some (.int .i64 b) :=
      fun w' hb => ⟨BW.new (t := 23) ⟨w', hb⟩ 0, BW.new (t := 23) ⟨w', hb⟩ 1⟩
    obtain ⟨w1, hww⟩ : ∃ w1, w1 = w.alloc (.cells #[.int .i64 0, .int .i64 b] 23) := ⟨_, rfl⟩
    rw [← hww] at hw1 hid ⊢
    have HID := hide hid
    clear hww hid
    go_loopw [5, 6] (fun v i wr => ∃ k : Nat, k ≤ 62 + p ∧ i = .int .i64 k ∧ Below w1.heap.size w1 wr ∧ Hid (wr.ownsRow w1.heap.size 29 8 v k (flatR k))) (fun _ i _ => 62 + p - (intOf i).toNat)
    case atStart => exact ⟨0, by omega, rfl, Below.refl _ _, World.ownsRow_nil _ _ _ _⟩
    case round =>
      obtain ⟨k, hk, rfl, hb, HO⟩ := hrel
      have hbs := hb.size
      by_cases hlt : k < 62 + p
      · have HC := hide (cells_newR wr k)
        have HO2 := hide (HO.out.alloc (elemO k))
        go_wp2_with (at_builtin; go_loud (refine wpList_append_own_at _ rfl (.tmp 26) (.tmp 34) _ rfl w1.heap.size 29 i0 _ 8 72 Try.underlying24 hi hz0 hz1 hz2 rfl (by decide) _ k (flatR k) rfl HO2.out _ 1 1 (cellsR k) rfl rfl HC.out (cellsR_one k) (by simp only [maxLen]; omega) (by omega) (by simp; omega) ?_; intro v' w4 hown4 hgr4 _ _))
        have hb4 : Below w1.heap.size w1 w4 := (hb.alloc hb.size _).grown hgr4 (by simp; omega) (fun k hk => (HO.out.lt k hk).1)
        have HO4 := hide (show w4.ownsRow w1.heap.size 29 8 v' (k + 1) (flatR (k + 1)) by rw [flatR_succ]; exact hown4)
        clear hown4 hgr4
        go_wp2
        go_roundw
        case rel => exact ⟨k + 1, by omega, by go_num, hb4, HO4.out⟩
        case measure => simp [intOf] <;> omega
      · obtain ⟨N, hN⟩ : ∃ N, N = k := ⟨_, rfl⟩
        subst hN
        obtain ⟨g, cap, rfl, hbg, hgl⟩ := World.ownsRow.form HO.out (by omega)
        have hRR : RR wr (some ⟨g, 0, none⟩) N := Rows3.of_own HO.out (by rw [List.length_map, List.length_range]) (cellsR_len N)
        obtain ⟨i1, i2⟩ := HID.out wr hb
        have hww : Below w.heap.size w wr := btwo hw1 hb
        by_cases hp2 : p = 2
        · subst hp2
          have H4 : Calls Try.prog 4 #[.complex .f64 4607182418800017408 0, .slice none 0 0, .slice (some ⟨g, 0, none⟩) N cap, .agg #[.int .i64 0, .int .i64 b, .int .i64 7, .int .i64 500, .int .i64 501, .complex .f64 4607182418800017408 0, .bool false, .int .i64 0]] wr fun e w' => e = .returned (.tuple #[.slice none 0 0, .int .i64 20]) ∧ Below wr.heap.size wr w' :=
            add4_full 1 (some ⟨g, 0, none⟩) N cap 0 b 7 500 false wr (by omega) (by omega)
          have H4 := hide H4
          clear hRR HO
          go_wp2_with fail
          refine H4.out.mono ?_
          rintro e w5 ⟨rfl, hb5⟩
          go_wp2_with fail
          refine (wakes_any _).mono ?_
          rintro e w6 ⟨rfl, hb6⟩
          go_wp2
          go_ret
          exact ⟨rfl, bafter hww hww.size (btwo hb5 hb6)⟩
        · have H4 : Calls Try.prog 4 #[.complex .f64 4607182418800017408 0, .slice none 0 0, .slice (some ⟨g, 0, none⟩) N cap, .agg #[.int .i64 0, .int .i64 b, .int .i64 7, .int .i64 500, .int .i64 501, .complex .f64 4607182418800017408 0, .bool false, .int .i64 0]] wr (AddPost5 N 0 b 7 500 false wr) :=
            add4_any 1 (by omega) (some ⟨g, 0, none⟩) N cap 0 b 7 500 false wr hRR (fun e => by cases e) (by omega) (fun _ h => HAB.out ⟨by first | exact h.1 | trivial, h.2⟩) (by omega) (stP N) rfl (stP_step N (by omega) (by omega))
          have H4 := hide H4
          have hp2B : ((p : Int) == 2) = false := beq_eq_false_iff_ne.2 (by omega)
          clear hRR HO
          go_wp2_with fail
          refine H4.out.mono ?_
          rintro e w5 ⟨hb5, v', at_, rfl, ho5⟩
          obtain ⟨g5, cap5, rfl, _, _⟩ := World.ownsRow.form ho5 (by omega)
          clear ho5
          go_wp2_with fail
          refine (wakes_any _).mono ?_
          rintro e w6 ⟨rfl, hb6⟩
          go_wp2
          go_ret
          exact ⟨rfl, bafter hww hww.size (btwo hb5 hb6)⟩
  · clear hab
    go_enter Try.func3, Try.ntmps3
    go_wp2
    clear ha
    have hw1 := below_alloc w (.cells #[.int .i64 a, .int .i64 b] 23)
    have hid : ∀ w', Below (w.alloc (.cells #[.int .i64 a, .int .i64 b] 23)).heap.size (w.alloc (.cells #[.int .i64 a, .int .i64 b] 23)) w' → w'.cell? ⟨w.heap.size, 0, none⟩ = some (.int .i64 a) ∧ w'.cell? ⟨w.heap.size, 1, none⟩ = some (.int .i64 b) :=
      fun w' hb => ⟨BW.new (t := 23) ⟨w', hb⟩ 0, BW.new (t := 23) ⟨w', hb⟩ 1⟩
    obtain ⟨w1, hww⟩ : ∃ w1, w1 = w.alloc (.cells #[.int .i64 a, .int .i64 b] 23) := ⟨_, rfl⟩
    rw [← hww] at hw1 hid ⊢
    have HID := hide hid
    clear hww hid
    go_loopw [5, 6] (fun v i wr => ∃ k : Nat, k ≤ 62 + p ∧ i = .int .i64 k ∧ Below w1.heap.size w1 wr ∧ Hid (wr.ownsRow w1.heap.size 29 8 v k (flatR k))) (fun _ i _ => 62 + p - (intOf i).toNat)
    case atStart => exact ⟨0, by omega, rfl, Below.refl _ _, World.ownsRow_nil _ _ _ _⟩
    case round =>
      obtain ⟨k, hk, rfl, hb, HO⟩ := hrel
      have hbs := hb.size
      by_cases hlt : k < 62 + p
      · have HC := hide (cells_newR wr k)
        have HO2 := hide (HO.out.alloc (elemO k))
        go_wp2_with (at_builtin; go_loud (refine wpList_append_own_at _ rfl (.tmp 26) (.tmp 34) _ rfl w1.heap.size 29 i0 _ 8 72 Try.underlying24 hi hz0 hz1 hz2 rfl (by decide) _ k (flatR k) rfl HO2.out _ 1 1 (cellsR k) rfl rfl HC.out (cellsR_one k) (by simp only [maxLen]; omega) (by omega) (by simp; omega) ?_; intro v' w4 hown4 hgr4 _ _))
        have hb4 : Below w1.heap.size w1 w4 := (hb.alloc hb.size _).grown hgr4 (by simp; omega) (fun k hk => (HO.out.lt k hk).1)
        have HO4 := hide (show w4.ownsRow w1.heap.size 29 8 v' (k + 1) (flatR (k + 1)) by rw [flatR_succ]; exact hown4)
        clear hown4 hgr4
        go_wp2
        go_roundw
        case rel => exact ⟨k + 1, by omega, by go_num, hb4, HO4.out⟩
        case measure => simp [intOf] <;> omega
      · obtain ⟨N, hN⟩ : ∃ N, N = k := ⟨_, rfl⟩
        subst hN
        obtain ⟨g, cap, rfl, hbg, hgl⟩ := World.ownsRow.form HO.out (by omega)
        have hRR : RR wr (some ⟨g, 0, none⟩) N := Rows3.of_own HO.out (by rw [List.length_map, List.length_range]) (cellsR_len N)
        obtain ⟨i1, i2⟩ := HID.out wr hb
        have hww : Below w.heap.size w wr := btwo hw1 hb
        by_cases hp2 : p = 2
        · subst hp2
          have H4 : Calls Try.prog 4 #[.complex .f64 4607182418800017408 0, .slice none 0 0, .slice (some ⟨g, 0, none⟩) N cap, .agg #[.int .i64 a, .int .i64 b, .int .i64 7, .int .i64 500, .int .i64 501, .complex .f64 4607182418800017408 0, .bool false, .int .i64 0]] wr fun e w' => e = .returned (.tuple #[.slice none 0 0, .int .i64 20]) ∧ Below wr.heap.size wr w' :=
            add4_full 1 (some ⟨g, 0, none⟩) N cap a b 7 500 false wr (by omega) (by omega)
          have H4 := hide H4
          clear hRR HO
          go_wp2_with fail
          refine H4.out.mono ?_
          rintro e w5 ⟨rfl, hb5⟩
          go_wp2_with fail
          refine (wakes_any _).mono ?_
          rintro e w6 ⟨rfl, hb6⟩
          go_wp2
          go_ret
          exact ⟨rfl, bafter hww hww.size (btwo hb5 hb6)⟩
        · have H4 : Calls Try.prog 4 #[.complex .f64 4607182418800017408 0, .slice none 0 0, .slice (some ⟨g, 0, none⟩) N cap, .agg #[.int .i64 a, .int .i64 b, .int .i64 7, .int .i64 500, .int .i64 501, .complex .f64 4607182418800017408 0, .bool false, .int .i64 0]] wr (AddPost5 N a b 7 500 false wr) :=
            add4_any 1 (by omega) (some ⟨g, 0, none⟩) N cap a b 7 500 false wr hRR (fun e => by cases e) (by omega) (fun _ h => HAB.out ⟨by first | exact h.1 | trivial, h.2⟩) (by omega) (stP N) rfl (stP_step N (by omega) (by omega))
          have H4 := hide H4
          have hp2B : ((p : Int) == 2) = false := beq_eq_false_iff_ne.2 (by omega)
          clear hRR HO
          go_wp2_with fail
          refine H4.out.mono ?_
          rintro e w5 ⟨hb5, v', at_, rfl, ho5⟩
          obtain ⟨g5, cap5, rfl, _, _⟩ := World.ownsRow.form ho5 (by omega)
          clear ho5
          go_wp2_with fail
          refine (wakes_any _).mono ?_
          rintro e w6 ⟨rfl, hb6⟩
          go_wp2
          go_ret
          exact ⟨rfl, bafter hww hww.size (btwo hb5 hb6)⟩

set_option maxHeartbeats 1000000 in
theorem limits_law_any (n a b : Int) (w : World) : Calls Try.prog 3 #[.int .i64 n, .agg #[.int .i64 a, .int .i64 b]] w fun e w' => e = .returned (.bool true) ∧ Below w.heap.size w w' := by
  by_cases h0 : 0 ≤ n
  · by_cases h2 : n ≤ 2
    · by_cases hab : a = 0 ∧ b = 0
      · obtain ⟨rfl, rfl⟩ := hab
        go_enter Try.func3, Try.ntmps3
        go_wp2
        go_ret
        exact ⟨rfl, by go_grown⟩
      · obtain ⟨p, rfl⟩ : ∃ p : Nat, n = p := ⟨n.toNat, by omega⟩
        exact law_go p (by omega) a b hab w
    · go_enter Try.func3, Try.ntmps3
      go_wp2
      go_ret
      exact ⟨rfl, by go_grown⟩
  · go_enter Try.func3, Try.ntmps3
    go_wp2
    go_ret
    exact ⟨rfl, by go_grown⟩
end Go.Proofs.Ytdkhpjeiepkldaa
