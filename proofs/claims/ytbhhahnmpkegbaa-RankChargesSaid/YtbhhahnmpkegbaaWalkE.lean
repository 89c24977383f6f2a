/-
  OWN. THE WALKS of slices.Clone at uses, and rank.Charge.
-/
import Derived.Test.YtbhhahnmpkegbaaWalkD
set_option linter.unusedSimpArgs false
set_option linter.unusedVariables false
namespace Go.Proofs.Ytbhhahnmpkegbaa
open Go.RowKit

theorem run_eql_nil (a : Addr) (n c : Nat) (w : World) : (binOp .eql 22 (.slice (some a) n c) (.slice none 0 0)).run Try.prog w = .ok (.bool false) w := by have := Lib.run_eql_slice_nil w 22 27 (some a) n c 0 0 Try.underlying22; simpa using this
theorem run_eql_nil_nil (w : World) : (binOp .eql 22 (.slice none 0 0) (.slice none 0 0)).run Try.prog w = .ok (.bool true) w := by have := Lib.run_eql_slice_nil w 22 27 none 0 0 0 0 Try.underlying22; simpa using this

def ClonePost (L : List U) (n : Nat) (w : World) (e : Ending) (w' : World) : Prop :=
  ∃ v', e = .returned v' ∧ w'.ownsRow w.heap.size 27 3 v' n (L.map cellsU).flatten ∧ Below w.heap.size w w'

theorem cellsU_len (L : List U) : ∀ r ∈ L.map cellsU, r.length = 3 := by
  intro r hr
  obtain ⟨x, _, rfl⟩ := List.mem_map.1 hr
  rfl
theorem flatU_len (L : List U) : (L.map cellsU).flatten.length = L.length * 3 := by rw [flat_length _ (cellsU_len L), List.length_map]
theorem oneU (a b c : Int) : ∀ u ∈ ([.int .i64 a, .int .i64 b, .int .i64 c] : List Value), u.oneCell' = true := by
  intro u hu
  simp at hu
  rcases hu with rfl | rfl | rfl <;> rfl
theorem flatU_one (L : List U) : ∀ u ∈ (L.map cellsU).flatten, u.oneCell' = true := by
  intro u hu
  obtain ⟨r, hr, hur⟩ := List.mem_flatten.1 hu
  obtain ⟨x, _, rfl⟩ := List.mem_map.1 hr
  simp [cellsU] at hur
  rcases hur with rfl | rfl | rfl <;> rfl

set_option maxHeartbeats 400000 in
theorem clone_any (A : Option Addr) (n c : Nat) (L : List U) (w : World) (h : RU w A n L) (hA : A = none → n = 0 ∧ c = 0) (hn : n < 1000000) :
    Calls Try.prog 11 #[.slice A n c] w (ClonePost L n w) := by
  cases A with
  | none =>
    obtain ⟨rfl, rfl⟩ := hA rfl
    have hL : L = [] := List.eq_nil_of_length_eq_zero h.len
    subst hL
    have he := run_eql_nil_nil
    go_enter Try.func11, Try.ntmps11
    go_wp2
    go_ret
    exact ⟨_, rfl, World.ownsRow_nil _ _ _ _, Below.refl _ _⟩
  | some a =>
    have he := run_eql_nil a n c
    obtain ⟨i0, hi, hz0, hz1, hz2⟩ := info_parts info27
    have hcell : ∀ j u, (L.map cellsU).flatten[j]? = some u → (w.alloc (.cells #[] 27)).cell? (a.add j) = some u := Rows3.flat (Rows3.after h ((Below.refl _ _).alloc (Nat.le_refl _) _)) (by decide)
    have hl : (L.map cellsU).flatten.length = n * 3 := by rw [flatU_len, h.len]
    have h1 := flatU_one L
    have hm : 0 + n ≤ maxLen := by simp only [maxLen]; omega
    have hown := World.ownsRow_made (base := w.heap.size) (e := 27) (size := 3) w #[] 0 (Nat.le_refl _) (by decide) rfl
    have HC := hide hcell
    have HL := hide hl
    have HO := hide hown
    clear hcell hl h hown
    go_enter Try.func11, Try.ntmps11
    go_wp2_with (at_builtin; refine wpList_append_own_at _ rfl (.tmp 5) (.tmp 6) _ rfl w.heap.size 27 i0 _ 3 24 Try.underlying22 hi hz0 hz1 hz2 rfl (by decide) _ 0 [] rfl HO.out a n c _ rfl HL.out HC.out h1 hm (by omega) (by simp) ?_; intro v' w1 hown1 hgr1 _ hat)
    go_ret
    refine ⟨v', rfl, by simpa using hown1, ((Below.refl _ _).alloc (Nat.le_refl _) _).grown hgr1 (by simp) (fun k hk => ?_)⟩
    cases hk
    exact Nat.le_refl _

/-- the row that Charge leaves reads as the uses with the charge in its place -/
theorem RU.of_own {base : Nat} {w : World} {v : Value} {m : Nat} {L : List U} (h : w.ownsRow base 27 3 v m (L.map cellsU).flatten) (hm : 0 < m) (hl : L.length = m) :
    ∃ (A : Option Addr) (c : Nat), v = .slice A m c ∧ (A = none → m = 0 ∧ c = 0) ∧ RU w A m L := by
  rcases h.2 with ⟨_, h0⟩ | ⟨g, cap, cur, rfl, _⟩
  · omega
  · exact ⟨_, cap, rfl, (fun e => by cases e), Rows3.of_own h (by rw [List.length_map]; exact hl) (cellsU_len L)⟩
theorem flatU_put {L : List U} {u s now : Int} (h : hasU L u = false) :
    (L.map cellsU).flatten.take (placeU L u * 3) ++ ([.int .i64 u, .int .i64 s, .int .i64 now] ++ (L.map cellsU).flatten.drop (placeU L u * 3)) = ((putU L u s now).map cellsU).flatten := by
  rw [flat_take _ (cellsU_len L), flat_drop _ (cellsU_len L)]
  unfold putU
  rw [h]
  simp [cellsU, List.map_take, List.map_drop]
theorem flatU_set {L : List U} {u s now : Int} (h : hasU L u = true) :
    (((L.map cellsU).flatten.set (placeU L u * 3) (.int .i64 u)).set (placeU L u * 3 + 1) (.int .i64 s)).set (placeU L u * 3 + 2) (.int .i64 now) = ((putU L u s now).map cellsU).flatten := by
  unfold putU
  rw [h, if_pos rfl]
  generalize placeU L u = p
  clear h
  induction L generalizing p with
  | nil => simp
  | cons x r ih =>
    cases p with
    | zero => simp [cellsU]
    | succ p =>
      have h1 : (p + 1) * 3 = p * 3 + 1 + 1 + 1 := by omega
      simp only [List.map_cons, List.flatten_cons, List.set_cons_succ, cellsU, List.cons_append, List.nil_append, h1]
      rw [← ih p]
theorem putU_len_new {L : List U} {u s now : Int} (h : hasU L u = false) : (putU L u s now).length = L.length + 1 := by
  have := placeU_le L u
  unfold putU; rw [h]; simp; omega
theorem putU_len_old {L : List U} {u s now : Int} (h : hasU L u = true) : (putU L u s now).length = L.length := by
  unfold putU; rw [h]; simp

/-- what Charge answers: a new list, or an error and nil -/
def ChargePost (L : List U) (user sum now : Int) (w : World) (e : Ending) (w' : World) : Prop :=
  Below w.heap.size w w' ∧
  ((∃ er : Int, er ≠ 0 ∧ e = .returned (.tuple #[.slice none 0 0, .int .i64 er])) ∨
   (∃ (A : Option Addr) (n c : Nat) (s : Int), e = .returned (.tuple #[.slice A n c, .int .i64 0]) ∧ (A = none → n = 0 ∧ c = 0) ∧ RU w' A n (putU L user s now) ∧ sum ≤ s ∧
     rightL (-1) L = true ∧ rightU (user, s, now) = true))
theorem ChargePost.err {L : List U} {user sum now : Int} {w w' : World} (er : Int) (h : er ≠ 0) (hb : Below w.heap.size w w') : ChargePost L user sum now w (.returned (.tuple #[.slice none 0 0, .int .i64 er])) w' :=
  ⟨hb, .inl ⟨er, h, rfl⟩⟩

/-- the place of a user written over, in the row of the call's own -/
theorem charge_set (L : List U) (n : Nat) (user s sum now : Int) (w w3 w4 : World) (g cap : Nat) (hlen : L.length = n) (hh : hasU L user = true) (hr : rightL (-1) L = true) (hs : sum ≤ s) (hu : rightU (user, s, now) = true) (hn : 0 < n)
    (hb : Below w.heap.size w w3) (hb4 : Below w3.heap.size w3 w4) (hg : w3.heap.size ≤ g) (hown : w4.ownsRow w3.heap.size 27 3 (.slice (some ⟨g, 0, none⟩) n cap) n (L.map cellsU).flatten) :
    ChargePost L user sum now w (.returned (.tuple #[.slice (some ⟨g, 0, none⟩) n cap, .int .i64 0])) (((w4.setCell ⟨g, placeU L user * 3, none⟩ (.int .i64 user)).setCell ⟨g, placeU L user * 3 + 1, none⟩ (.int .i64 s)).setCell ⟨g, placeU L user * 3 + 2, none⟩ (.int .i64 now)) := by
  have h1 := (hown.stored (placeU L user * 3) (.int .i64 user)).1
  have h2 := (h1.stored (placeU L user * 3 + 1) (.int .i64 s)).1
  have h3 := (h2.stored (placeU L user * 3 + 2) (.int .i64 now)).1
  rw [flatU_set hh] at h3
  obtain ⟨A, c, hv, hA, hR⟩ := RU.of_own h3 hn (by rw [putU_len_old hh, hlen])
  have hbg : w.heap.size ≤ g := Nat.le_trans hb.size hg
  refine ⟨?_, .inr ⟨A, n, c, s, by rw [hv], hA, hR, hs, hr, hu⟩⟩
  exact (((bafter hb hb.size hb4).setCell (p := ⟨g, _, none⟩) hbg _).setCell (p := ⟨g, _, none⟩) hbg _).setCell (p := ⟨g, _, none⟩) hbg _

set_option maxHeartbeats 1000000 in
theorem charge_any (A : Option Addr) (n c : Nat) (L : List U) (user sum now : Int) (w : World) (h : RU w A n L) (hA : A = none → n = 0 ∧ c = 0) (hn : n < 1000000) :
    Calls Try.prog 4 #[.slice A n c, .int .i64 user, .int .i64 sum, .int .i64 now] w (ChargePost L user sum now w) := by
  cases hr : rightL (-1) L
  · have hr0 : rightAt L 0 = false := by rw [rightAt_zero, hr]
    go_enter Try.func4, Try.ntmps4
    go_wp2_with (go_at_call 7; refine (right_any A n c L _ h hn).mono ?_; rintro e w1 ⟨rfl, hb1⟩)
    go_ret2
    exact ChargePost.err 24 (by decide) hb1
  · have hr0 : rightAt L 0 = true := by rw [rightAt_zero, hr]
    cases hh : hasU L user
    · go_enter Try.func4, Try.ntmps4
      go_wp2_with (first | (go_at_call 7; refine (right_any A n c L _ h hn).mono ?_; rintro e w1 ⟨rfl, hb1⟩) | (go_at_call 8; refine (tickRight_any _ _).mono ?_; rintro e w' ⟨rfl, rfl⟩) | (go_at_call 9; refine (find_any A n c L user _ (h.after hb1) hn hr).mono ?_; rintro e w2 ⟨rfl, hb2⟩) | (go_at_call 11; refine (clone_any A n c L _ ((h.after hb1).after hb2) hA hn).mono ?_; rintro e w3 ⟨v3, rfl, hown3, hb3⟩))
      all_goals try (go_ret2; exact ChargePost.err _ (by decide) hb1)
      have hu : rightU (user, sum, now) = true := by
        rw [rightU_iff]
        have h5 : (!decide (0 ≤ now)) = false ∧ (!decide (now ≤ 1099511627776)) = false := by assumption
        simp at h5
        simp only
        omega
      have hb123 : Below w.heap.size w w3 := bafter (bafter hb1 hb1.size hb2) (Nat.le_trans hb1.size hb2.size) (hb3)
      have hple : placeU L user ≤ n := by rw [← h.len]; exact placeU_le L user
      have hne : v3.ownBlock ≠ some w3.heap.size := fun e => by have := (hown3.lt _ e).2; omega
      refine (insert_any w2.heap.size v3 n (placeU L user) (L.map cellsU).flatten [.int .i64 user, .int .i64 sum, .int .i64 now] w3.heap.size _ (hown3.alloc _) (by simp; have := hb3.size; omega) hple hn rfl (heap_alloc_new w3 _) hne (oneU user sum now) (flatU_one L)).mono ?_
      rintro e w4 ⟨v4, rfl, hown4, hgr4, hat4⟩
      have HW := hide hown4
      have HB := hide (fun k hk => Nat.le_trans (Nat.le_trans hb1.size hb2.size) (hown3.lt k hk).1)
      clear hown3 hown4
      go_wp2
      go_ret2
      have hlen := putU_len_new (s := sum) (now := now) hh
      rw [h.len] at hlen
      have hr4 := HW.out
      rw [flatU_put hh] at hr4
      obtain ⟨A4, c4, rfl, hA4, hR4⟩ := RU.of_own hr4 (by omega) hlen
      refine ⟨?_, .inr ⟨A4, n + 1, c4, sum, rfl, hA4, hR4, Int.le_refl _, hr, hu⟩⟩
      refine (hb123.alloc (by have := hb123.size; omega) _).grown hgr4 (by have := hb123.size; simp; omega) (fun k hk => ?_)
      exact HB.out k hk
    · -- the user is there: the place is written over
      have hple : placeU L user < n := by
        cases hp : L[placeU L user]? with
        | none => rw [hasU_none hp] at hh; cases hh
        | some x => rw [← h.len]; exact (List.getElem?_eq_some_iff.1 hp).1
      have hlen0 := h.len
      obtain ⟨b, o, x, rfl, hbl, hx, c0, c1, c2⟩ := h.at_ hple
      have hxr : rightU x = true := (rightL_all L (-1) hr x (List.mem_of_getElem? hx)).1
      have hxs := (rightU_iff x).1 hxr
      obtain ⟨x1, x2, x3, x4, x5, x6⟩ := hxs
      have HLN := hide hlen0
      clear hx hlen0
      go_enter Try.func4, Try.ntmps4
      go_wp2_with (first | (go_at_call 7; refine (right_any _ n c L _ h hn).mono ?_; rintro e w1 ⟨rfl, hb1⟩; obtain ⟨hc1, hf1⟩ := bcell hb1) | (go_at_call 8; refine (tickRight_any _ _).mono ?_; rintro e w' ⟨rfl, rfl⟩) | (go_at_call 9; refine (find_any _ n c L user _ (h.after hb1) hn hr).mono ?_; rintro e w2 ⟨rfl, hb2⟩; obtain ⟨hc2, hf2⟩ := bcell (btwo hb1 hb2)))
      all_goals try (go_ret2; exact ChargePost.err _ (by decide) hb1)
      have h5 : (!decide (0 ≤ now)) = false ∧ (!decide (now ≤ 1099511627776)) = false := by assumption
      simp only [Bool.not_eq_false', decide_eq_true_eq] at h5
      obtain ⟨h5a, h5b⟩ := h5
      refine (decayed_any x now _ hxr h5a h5b).mono ?_
      rintro e w3 ⟨d, d0, d1, rfl, hb3⟩
      have hb13 : Below w.heap.size w w3 := bafter (btwo hb1 hb2) (btwo hb1 hb2).size hb3
      clear hc1 hf1 hc2 hf2 c0 c1 c2
      go_wp2_with fail
      refine (clone_any _ n c L _ (h.after hb13) hA hn).mono ?_
      rintro e w4 ⟨v4, rfl, hown4, hb4⟩
      obtain ⟨g, cap, rfl, hbg, hlt4⟩ := hown4.form (by omega)
      have hxl : (L.map cellsU).flatten.length = n * 3 := hown4.1
      have kc : ∀ j, j < n * 3 → ∃ u, w4.cell? ⟨g, j, none⟩ = some u := fun j hj => ⟨_, (hown4.cellAt j hj).trans (List.getElem?_eq_getElem (by rw [hxl]; exact hj))⟩
      obtain ⟨u0, k0⟩ := kc (placeU L user * 3) (by omega)
      obtain ⟨u1, k1⟩ := kc (placeU L user * 3 + 1) (by omega)
      obtain ⟨u2, k2⟩ := kc (placeU L user * 3 + 2) (by omega)
      have kf : ∀ j, w4.frozen? ⟨g, j, none⟩ = false := fun j => hown4.frozenAt j
      have HO := hide hown4
      clear hown4 kc hxl
      go_wp2
      · have h6 : 1152921504606846976 < d + sum := by assumption
        go_ret2
        exact charge_set L n user 1152921504606846976 sum now w w3 w4 g cap HLN.out hh hr (by omega) (by rw [rightU_iff]; simp only; omega) (by omega) hb13 hb4 hbg HO.out
      · have h6 : d + sum ≤ 1152921504606846976 := by assumption
        go_ret2
        exact charge_set L n user (d + sum) sum now w w3 w4 g cap HLN.out hh hr (by omega) (by rw [rightU_iff]; simp only; omega) (by omega) hb13 hb4 hbg HO.out
end Go.Proofs.Ytbhhahnmpkegbaa
