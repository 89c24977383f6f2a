/-
  OWN. THE WALKS of hansekeep.TwinSpans and of hanseref19.Meet.
-/
import Derived.Test.YtnbbacomhomnmaaWalkC
import Derived.Laws.AppendOwnNone
set_option linter.unusedSimpArgs false
set_option linter.unusedVariables false
namespace Go.Proofs.Ytnbbacomhomnmaa
open Go.RowKit

theorem flatS_one (L : List Sp) : ∀ u ∈ (L.map cellsS).flatten, u.oneCell' = true := by
  intro u hu
  obtain ⟨r, hr, hu⟩ := List.mem_flatten.1 hu
  obtain ⟨x, _, rfl⟩ := List.mem_map.1 hr
  exact oneS x.1 x.2 u hu
/-- a fresh row of the spans L -/
def FreshS (L : List Sp) (w : World) (e : Ending) (w' : World) : Prop := ∃ v, e = .returned v ∧ OwnS w.heap.size w' v L ∧ Below w.heap.size w w'

set_option maxHeartbeats 1000000 in
theorem twinSpans_any (A : Option Addr) (n c : Nat) (L : List Sp) (w : World) (h : RS w A n L) (hA : A = none → n = 0 ∧ c = 0) (hn : n < 1000000) :
    Calls Try.prog 10 #[.slice A n c] w (FreshS L w) := by
  obtain ⟨i0, hi, hz0, hz1, hz2⟩ := info_parts info37
  have hown := World.ownsRow_nil w w.heap.size 37 2
  cases A with
  | none =>
    obtain ⟨rfl, rfl⟩ := hA rfl
    have hL : L = [] := List.eq_nil_of_length_eq_zero h.len
    subst hL
    have HO := hide hown
    clear hown h
    go_enter Try.func10, Try.ntmps10
    go_wp2_with (at_builtin; refine wpList_append_own_none rfl (.tmp 4) (.tmp 5) _ rfl w.heap.size 37 i0 2 Try.underlying22 hi _ 0 [] rfl HO.out rfl ?_)
    go_ret
    exact ⟨_, rfl, HO.out, Below.refl _ _⟩
  | some a =>
    have hcell : ∀ j u, (L.map cellsS).flatten[j]? = some u → w.cell? (a.add j) = some u := Rows3.flat h (by decide)
    have hl : (L.map cellsS).flatten.length = n * 2 := by rw [flatS_len, h.len]
    have h1 := flatS_one L
    have hm : 0 + n ≤ maxLen := by simp only [maxLen]; omega
    have HC := hide hcell
    have HL := hide hl
    have HN := hide h.len
    have HO := hide hown
    clear hcell hl h hown
    go_enter Try.func10, Try.ntmps10
    go_wp2_with (at_builtin; refine wpList_append_own_at _ rfl (.tmp 4) (.tmp 5) _ rfl w.heap.size 37 i0 _ 2 16 Try.underlying22 hi hz0 hz1 hz2 rfl (by decide) _ 0 [] rfl HO.out a n c _ rfl HL.out HC.out h1 hm (by omega) (by simp) ?_; intro v' w1 hown1 hgr1 _ hat)
    go_ret
    refine ⟨v', rfl, ?_, (Below.refl _ _).grown hgr1 (by simp) (fun k hk => ?_)⟩
    · unfold OwnS
      rw [HN.out]
      simpa using hown1
    · cases hk

theorem meetR_drop1 {L L' : List Sp} {k : Nat} {x : Sp} (h : L[k]? = some x) : meetR (L.drop k) L' = (L'.flatMap (meet1 x)) ++ meetR (L.drop (k + 1)) L' := by
  rw [drop_at h, meetR_cons]
theorem flat_next {x y : Sp} {L' : List Sp} {k : Nat} (h : L'[k]? = some y) : (L'.take (k + 1)).flatMap (meet1 x) = (L'.take k).flatMap (meet1 x) ++ meet1 x y := by
  rw [List.take_add_one, h]
  simp

set_option maxHeartbeats 2000000 in
theorem refMeet_any (A A' : Option Addr) (n c n' c' : Nat) (L L' : List Sp) (w : World) (h : RS w A n L) (h' : RS w A' n' L') (hn : n ≤ 24) (hn' : n' ≤ 24) :
    Calls Try.prog 14 #[.slice A n c, .slice A' n' c'] w (FreshS (meetR L L') w) := by
  obtain ⟨i0, hi, hz0, hz1, hz2⟩ := info_parts info37
  go_enter Try.func14, Try.ntmps14
  go_wp2
  go_loopw [5, 6] (fun v i wr => ∃ (p : Nat) (M : List Sp), p ≤ n ∧ M.length ≤ 24 * p ∧ i = .int .i64 p ∧ OwnS w.heap.size wr v M ∧ Below w.heap.size w wr ∧ Hid (meetR L L' = M ++ meetR (L.drop p) L')) (fun _ i _ => n - (intOf i).toNat)
  case atStart => exact ⟨0, [], by omega, by simp, rfl, OwnS.nil_ _ _, by go_grown, rfl⟩
  case round =>
    obtain ⟨p, M, hp, hM, rfl, hown, hb, HR⟩ := hrel
    by_cases hlt : p < n
    · obtain ⟨b, o, x, rfl, hbl, hx, c0, c1⟩ := h.at_ hlt
      have HX := hide (meetR_drop1 (L' := L') hx)
      have HC : Hid (∀ wx, Below w.heap.size w wx → wx.cell? ⟨b, o + p * 2, none⟩ = some (.int .i64 x.1) ∧ wx.cell? ⟨b, o + p * 2 + 1, none⟩ = some (.int .i64 x.2)) :=
        fun wx hx => ⟨(hx.cell (p := ⟨b, _, none⟩) hbl).trans c0, (hx.cell (p := ⟨b, _, none⟩) hbl).trans c1⟩
      have HO := hide hown
      clear hx h hown c0 c1
      go_wp2
      go_loopw [5, 7] (fun v j wr => ∃ (q : Nat) (M2 : List Sp), q ≤ n' ∧ M2.length ≤ 24 * p + q ∧ j = .int .i64 q ∧ OwnS w.heap.size wr v M2 ∧ Below w.heap.size w wr ∧ Hid (M2 = M ++ (L'.take q).flatMap (meet1 x))) (fun _ j _ => n' - (intOf j).toNat)
      case atStart => exact ⟨0, M, by omega, by omega, rfl, HO.out, hb, by show M = _; simp⟩
      case round =>
        obtain ⟨q, M2, hq, hM2, rfl, hown2, hb2, HM2⟩ := hrel
        by_cases hlt' : q < n'
        · obtain ⟨b', o', y, rfl, hbl', hy, d0, d1⟩ := h'.at_ hlt'
          have HY := hide (flat_next (x := x) hy)
          have HO2 := hide hown2
          have d0 := (hb2.cell (p := ⟨b', _, none⟩) hbl').trans d0
          have d1 := (hb2.cell (p := ⟨b', _, none⟩) hbl').trans d1
          clear hy h' hown2 hb HO
          obtain ⟨c0, c1⟩ := HC.out _ hb2
          have hwsz := hb2.size
          have hbl2 : b < wr.heap.size := by omega
          have hbl2' : b' < wr.heap.size := by omega
          have e1 : (0 : Int) ≤ (p : Int) := by omega
          have e2 : (p : Int) < (n : Int) := by omega
          have e3 : (0 : Int) ≤ (q : Int) := by omega
          have e4 : (q : Int) < (n' : Int) := by omega
          go_wp2
          go_region
          obtain ⟨mx, hmx⟩ : ∃ mx, mx = if x.1 < y.1 then y.1 else x.1 := ⟨_, rfl⟩
          obtain ⟨mn, hmn⟩ : ∃ mn, mn = if y.2 < x.2 then y.2 else x.2 := ⟨_, rfl⟩
          rw [← hmx, ← hmn]
          rw [max_if] at hmx
          rw [min_if] at hmn
          have HMX := hide hmx
          have HMN := hide hmn
          clear hmx hmn
          clear c0 c1 d0 d1 e1 e2 e3 e4
          have hb3 : Below w.heap.size w wr.drew := hb2.drew
          have HO3 := hide (show OwnS w.heap.size wr.drew _ M2 from HO2.out.drew)
          obtain ⟨w3, hw3⟩ : ∃ w3, w3 = wr.drew := ⟨_, rfl⟩
          rw [← hw3] at hb3 HO3 ⊢
          clear hw3 hb2 HO2 hwsz hbl2 hbl2'
          have hwsz3 := hb3.size
          by_cases hlt2 : mx < mn
          · have HM1 := hide (show meet1 x y = [(mx, mn)] by unfold meet1; rw [← HMX.out, ← HMN.out, if_pos hlt2])
            go_wp2_with (at_builtin; go_loud (refine wpList_append_own_at _ rfl (.tmp 47) (.tmp 51) _ rfl w.heap.size 37 i0 _ 2 16 Try.underlying22 hi hz0 hz1 hz2 rfl (by decide) _ M2.length (M2.map cellsS).flatten rfl ?zown _ 1 1 (cellsS (mx, mn)) rfl rfl ?znew ?zone ?zmax ?zbytes ?zbase ?_; (case zown => exact (HO3.out.alloc _)); (case znew => exact (cells_new w3 (cellsS (mx, mn)) 37)); (case zone => exact oneS _ _); (case zmax => simp only [maxLen]; omega); (case zbytes => omega); (case zbase => simp; omega); intro v' w4 hown4 hgr4 _ _))
            have hb4 : Below w.heap.size w w4 := (hb3.alloc hwsz3 _).grown hgr4 (by simp; omega) (fun k hk => (HO3.out.lt k hk).1)
            have HO4 := hide (OwnS.snoc (x := (mx, mn)) hown4)
            have HN := hide (show M2 ++ [(mx, mn)] = M ++ (L'.take (q + 1)).flatMap (meet1 x) by rw [HY.out, HM1.out, HM2.out, List.append_assoc])
            clear hgr4 hown4
            go_wp2
            go_roundw
            case rel => exact ⟨q + 1, _, by omega, by simp; omega, by go_num, HO4.out, hb4, HN.out⟩
            case measure => simp [intOf]; omega
          · have HM1 := hide (show meet1 x y = [] by unfold meet1; rw [← HMX.out, ← HMN.out, if_neg hlt2])
            have HN := hide (show M2 = M ++ (L'.take (q + 1)).flatMap (meet1 x) by rw [HY.out, HM1.out, List.append_nil, HM2.out])
            go_wp2
            go_roundw
            case rel => exact ⟨q + 1, M2, by omega, by omega, by go_num, HO3.out, hb3, HN.out⟩
            case measure => simp [intOf]; omega
        · have HN := hide (show meetR L L' = M2 ++ meetR (L.drop (p + 1)) L' by rw [HR.out, HX.out, HM2.out, List.take_of_length_le (by rw [h'.len]; omega), List.append_assoc])
          have HO2 := hide hown2
          clear hown2
          go_wp2
          go_roundw
          case rel => exact ⟨p + 1, M2, by omega, by omega, by go_num, HO2.out, hb2, HN.out⟩
          case measure => simp [intOf]; omega
    · have HN := hide (show meetR L L' = M by rw [HR.out, List.drop_eq_nil_of_le (by rw [h.len]; omega), meetR_nil, List.append_nil])
      have HO := hide hown
      clear hown
      go_wp2
      go_ret
      exact ⟨_, rfl, by rw [HN.out]; exact HO.out, hb⟩
end Go.Proofs.Ytnbbacomhomnmaa
