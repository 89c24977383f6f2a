/-
  OWN. THE WALK of window.Meet.
-/
import Derived.Test.YtnbbacomhomnmaaWalkB
import Derived.Test.YtnbbacomhomnmaaKit2
import Derived.Maps.AppendAt
import Derived.BigRegion
set_option linter.unusedSimpArgs false
set_option linter.unusedVariables false
namespace Go.Proofs.Ytnbbacomhomnmaa
open Go.RowKit

theorem info37 : (Try.prog.info? 37).map (fun i => (i.zero, i.size, i.bytes)) = some (some (.agg #[.int .i64 0, .int .i64 0]), 2, 16) := by kernel_rfl

theorem cellsS_len (L : List Sp) : ∀ r ∈ L.map cellsS, r.length = 2 := by
  intro r hr
  obtain ⟨x, _, rfl⟩ := List.mem_map.1 hr
  rfl
theorem oneS (a b : Int) : ∀ u ∈ ([.int .i64 a, .int .i64 b] : List Value), u.oneCell' = true := by
  intro u hu
  simp at hu
  rcases hu with rfl | rfl <;> rfl
/-- a row of spans of the call's own -/
def OwnS (base : Nat) (w : World) (v : Value) (M : List Sp) : Prop := w.ownsRow base 37 2 v M.length (M.map cellsS).flatten
theorem OwnS.nil_ (base : Nat) (w : World) : OwnS base w (.slice none 0 0) [] := World.ownsRow_nil _ _ _ _
theorem RS.of_own {base : Nat} {w : World} {v : Value} {M : List Sp} (h : OwnS base w v M) :
    ∃ (A : Option Addr) (c : Nat), v = .slice A M.length c ∧ (A = none → M.length = 0 ∧ c = 0) ∧ RS w A M.length M := by
  rcases h.2 with ⟨rfl, h0⟩ | ⟨g, cap, cur, rfl, _⟩
  · refine ⟨none, 0, by rw [h0], (fun _ => ⟨h0, rfl⟩), ?_⟩
    have : M = [] := List.eq_nil_of_length_eq_zero h0
    subst this
    exact RS.nil_
  · exact ⟨_, cap, rfl, (fun e => by cases e), Rows3.of_own h (by rw [List.length_map]) (cellsS_len M)⟩

theorem cells_new (w : World) (cs : List Value) (t : TypeId) : ∀ j u, cs[j]? = some u → (w.alloc (.cells cs.toArray t)).cell? ((⟨w.heap.size, 0, none⟩ : Addr).add j) = some u := by
  intro j u hj
  have h := cell_of_row (w.alloc (.cells cs.toArray t)) w.heap.size j cs.toArray t (0, 0) (heap_alloc_new w _)
  have e : (⟨w.heap.size, 0, none⟩ : Addr).add j = ⟨w.heap.size, j, none⟩ := by unfold Addr.add; split <;> simp_all
  rw [e, h]
  simpa using hj
theorem OwnS.snoc {base : Nat} {w : World} {v : Value} {M : List Sp} {x : Sp} (h : w.ownsRow base 37 2 v (M.length + 1) ((M.map cellsS).flatten ++ cellsS x)) : OwnS base w v (M ++ [x]) := by
  unfold OwnS
  simpa using h
theorem flatS_len (L : List Sp) : (L.map cellsS).flatten.length = L.length * 2 := by rw [flat_length _ (cellsS_len L), List.length_map]
theorem max_if (a b : Int) : (if a < b then b else a) = max a b := by rw [Int.max_def]; split <;> split <;> omega
theorem min_if (a b : Int) : (if b < a then b else a) = min a b := by rw [Int.min_def]; split <;> split <;> omega

/-- what Meet answers -/
def MeetPost (a b : List Sp) (w : World) (e : Ending) (w' : World) : Prop :=
  Below w.heap.size w w' ∧
  ((rightS (-1) a && rightS (-1) b) = false ∧ e = .returned (.tuple #[.slice none 0 0, .int .i64 9]) ∨
   (rightS (-1) a && rightS (-1) b) = true ∧ ∃ v, e = .returned (.tuple #[v, .int .i64 0]) ∧ OwnS w.heap.size w' v (meetP a b))

set_option maxHeartbeats 2000000 in
theorem meet_any (A A' : Option Addr) (n c n' c' : Nat) (L L' : List Sp) (w : World) (h : RS w A n L) (h' : RS w A' n' L') (hn : n < 1000000) (hn' : n' < 1000000) :
    Calls Try.prog 12 #[.slice A n c, .slice A' n' c'] w (MeetPost L L' w) := by
  cases hr : rightS (-1) L
  · have hc := codeS_no hr
    go_enter Try.func12, Try.ntmps12
    go_wp2_with fail
    refine (check_any A n c L _ h hn).mono ?_
    rw [hc]
    rintro e w1 ⟨rfl, hb1⟩
    go_wp2
    go_ret2
    exact ⟨hb1, .inl ⟨by rw [hr]; rfl, rfl⟩⟩
  · have hc := codeS_ok hr
    cases hr' : rightS (-1) L'
    · have hc' := codeS_no hr'
      go_enter Try.func12, Try.ntmps12
      go_wp2_with fail
      refine (check_any A n c L _ h hn).mono ?_
      rw [hc]
      rintro e w1 ⟨rfl, hb1⟩
      go_wp2_with fail
      refine (check_any A' n' c' L' _ (h'.after hb1) hn').mono ?_
      rw [hc']
      rintro e w2 ⟨rfl, hb2⟩
      go_wp2
      go_ret2
      exact ⟨btwo hb1 hb2, .inl ⟨by rw [hr, hr']; rfl, rfl⟩⟩
    · have hc' := codeS_ok hr'
      have HRR := hide (show (rightS (-1) L && rightS (-1) L') = true by rw [hr, hr']; rfl)
      clear hr hr'
      obtain ⟨i0, hi, hz0, hz1, hz2⟩ := info_parts info37
      go_enter Try.func12, Try.ntmps12
      go_wp2_with fail
      refine (check_any A n c L _ h hn).mono ?_
      rw [hc]
      rintro e w1 ⟨rfl, hb1⟩
      go_wp2_with fail
      refine (check_any A' n' c' L' _ (h'.after hb1) hn').mono ?_
      rw [hc']
      rintro e w2 ⟨rfl, hb2⟩
      go_wp2
      have hb12 := btwo hb1 hb2
      clear hc hc'
      go_loopw [6, 7, 8] (fun v i j wr => ∃ (p q : Nat) (M : List Sp), p ≤ n ∧ q ≤ n' ∧ M.length ≤ p + q ∧ i = .int .i64 p ∧ j = .int .i64 q ∧ OwnS w.heap.size wr v M ∧ Below w.heap.size w wr ∧ Hid (meetP L L' = M ++ meetP (L.drop p) (L'.drop q))) (fun _ i j _ => (n + n') - ((intOf i).toNat + (intOf j).toNat))
      case atStart => exact ⟨0, 0, [], by omega, by omega, by simp, rfl, rfl, OwnS.nil_ _ _, hb12, rfl⟩
      case round =>
        obtain ⟨p, q, M, hp, hq, hM, rfl, rfl, hown, hb, HR⟩ := hrel
        by_cases hlt : p < n
        · by_cases hlt' : q < n'
          · obtain ⟨b, o, x, rfl, hbl, hx, c0, c1⟩ := h.at_ hlt
            obtain ⟨b', o', y, rfl, hbl', hy, d0, d1⟩ := h'.at_ hlt'
            have HX := hide (drop_at hx)
            have HY := hide (drop_at hy)
            have HO := hide hown
            have HC : Hid (∀ wx, Below w.heap.size w wx → wx.cell? ⟨b, o + p * 2, none⟩ = some (.int .i64 x.1) ∧ wx.cell? ⟨b, o + p * 2 + 1, none⟩ = some (.int .i64 x.2) ∧ wx.cell? ⟨b', o' + q * 2, none⟩ = some (.int .i64 y.1) ∧ wx.cell? ⟨b', o' + q * 2 + 1, none⟩ = some (.int .i64 y.2)) :=
              fun wx hx => ⟨(hx.cell (p := ⟨b, _, none⟩) hbl).trans c0, (hx.cell (p := ⟨b, _, none⟩) hbl).trans c1, (hx.cell (p := ⟨b', _, none⟩) hbl').trans d0, (hx.cell (p := ⟨b', _, none⟩) hbl').trans d1⟩
            clear hx hy h h' hown c0 c1 d0 d1
            obtain ⟨c0, c1, d0, d1⟩ := HC.out _ hb
            have hwsz := hb.size
            have hbl2 : b < wr.heap.size := by omega
            have hbl2' : b' < wr.heap.size := by omega
            have e1 : (0 : Int) ≤ (p : Int) := by omega
            have e2 : (p : Int) < (n : Int) := by omega
            have e3 : (0 : Int) ≤ (q : Int) := by omega
            have e4 : (q : Int) < (n' : Int) := by omega
            go_wp2
            go_region
            obtain ⟨mx, hmx⟩ : ∃ mx, mx = if x.1 < y.1 then y.1 else x.1 := ⟨_, rfl⟩
            obtain ⟨mn, hmn⟩ : ∃ mn, mn = if y.2 < x.2 then y.2 else x.2 := ⟨_, rfl⟩
            rw [← hmx, ← hmn]
            rw [max_if] at hmx
            rw [min_if] at hmn
            have HMX := hide hmx
            have HMN := hide hmn
            clear hmx hmn
            clear c0 c1 d0 d1
            have hb3 : Below w.heap.size w (wr.alloc (.cells #[Value.int IntKind.i64 mx, Value.int IntKind.i64 mn] 37)).drew := (hb.alloc hwsz _).drew
            have hown3 := (HO.out.alloc (.cells #[Value.int IntKind.i64 mx, Value.int IntKind.i64 mn] 37)).drew
            obtain ⟨w3, hw3⟩ : ∃ w3, w3 = (wr.alloc (.cells #[Value.int IntKind.i64 mx, Value.int IntKind.i64 mn] 37)).drew := ⟨_, rfl⟩
            have f0 : w3.cell? ⟨wr.heap.size, 0, none⟩ = some (.int .i64 mx) := by rw [hw3]; go_simp
            have f1 : w3.cell? ⟨wr.heap.size, 1, none⟩ = some (.int .i64 mn) := by rw [hw3]; go_simp
            rw [← hw3] at hb3 hown3 ⊢
            clear hw3
            have hwsz3 := hb3.size
            by_cases hlt2 : mx < mn
            · have HM1 := hide (show meet1 x y = [(mx, mn)] by unfold meet1; rw [← HMX.out, ← HMN.out, if_pos hlt2])
              go_wp2_with (at_builtin; refine wpList_append_own_at _ rfl (.tmp 56) (.tmp 58) _ rfl w.heap.size 37 i0 _ 2 16 Try.underlying22 hi hz0 hz1 hz2 rfl (by decide) _ M.length (M.map cellsS).flatten rfl (hown3.alloc _) _ 1 1 (cellsS (mx, mn)) rfl rfl (cells_new w3 (cellsS (mx, mn)) 37) (oneS _ _) (by simp only [maxLen]; omega) (by omega) (by simp; omega) ?_; intro v' w4 hown4 hgr4 _ _)
              have hb4 : Below w.heap.size w w4 := (hb3.alloc hwsz3 _).grown hgr4 (by simp; omega) (fun k hk => (hown3.lt k hk).1)
              have HO4 := hide (OwnS.snoc (x := (mx, mn)) hown4)
              clear f0 f1 hgr4 hown4 hown3
              obtain ⟨c0, c1, d0, d1⟩ := HC.out _ hb4
              have hwsz4 := hb4.size
              go_quiet (fail)
              by_cases hxy : x.2 < y.2
              · have HN := hide (show meetP L L' = (M ++ [(mx, mn)]) ++ meetP (L.drop (p + 1)) (L'.drop q) by rw [HR.out, HX.out, HY.out, meetP_lt hxy, HM1.out, List.append_assoc])
                go_wp2
                go_roundw
                case rel => exact ⟨p + 1, q, _, by omega, by omega, by simp; omega, by go_num, rfl, HO4.out, below_drewN hb4 _, HN.out⟩
                case measure => simp [intOf]; omega
              · have HN := hide (show meetP L L' = (M ++ [(mx, mn)]) ++ meetP (L.drop p) (L'.drop (q + 1)) by rw [HR.out, HX.out, HY.out, meetP_ge hxy, HM1.out, List.append_assoc])
                go_wp2
                go_roundw
                case rel => exact ⟨p, q + 1, _, by omega, by omega, by simp; omega, rfl, by go_num, HO4.out, below_drewN hb4 _, HN.out⟩
                case measure => simp [intOf]; omega
            · have HM1 := hide (show meet1 x y = [] by unfold meet1; rw [← HMX.out, ← HMN.out, if_neg hlt2])
              have HO4 := hide (show OwnS w.heap.size w3 _ M from hown3)
              obtain ⟨c0, c1, d0, d1⟩ := HC.out _ hb3
              clear hown3
              go_wp2
              go_quiet (fail)
              by_cases hxy : x.2 < y.2
              · have HN := hide (show meetP L L' = M ++ meetP (L.drop (p + 1)) (L'.drop q) by rw [HR.out, HX.out, HY.out, meetP_lt hxy, HM1.out, List.nil_append])
                go_wp2
                go_roundw
                case rel => exact ⟨p + 1, q, M, by omega, by omega, by omega, by go_num, rfl, HO4.out, below_drewN hb3 _, HN.out⟩
                case measure => simp [intOf]; omega
              · have HN := hide (show meetP L L' = M ++ meetP (L.drop p) (L'.drop (q + 1)) by rw [HR.out, HX.out, HY.out, meetP_ge hxy, HM1.out, List.nil_append])
                go_wp2
                go_roundw
                case rel => exact ⟨p, q + 1, M, by omega, by omega, by omega, rfl, by go_num, HO4.out, below_drewN hb3 _, HN.out⟩
                case measure => simp [intOf]; omega
          · have HN := hide (show meetP L L' = M by rw [HR.out, (show L'.drop q = [] from List.drop_eq_nil_of_le (by rw [h'.len]; omega)), meetP_nil', List.append_nil])
            have HO := hide hown
            clear hown
            go_wp2
            go_ret2
            exact ⟨hb, .inr ⟨HRR.out, _, rfl, by rw [HN.out]; exact HO.out⟩⟩
        · have HN := hide (show meetP L L' = M by rw [HR.out, (show L.drop p = [] from List.drop_eq_nil_of_le (by rw [h.len]; omega)), meetP_nil, List.append_nil])
          have HO := hide hown
          clear hown
          go_wp2
          go_ret2
          exact ⟨hb, .inr ⟨HRR.out, _, rfl, by rw [HN.out]; exact HO.out⟩⟩
end Go.Proofs.Ytnbbacomhomnmaa
