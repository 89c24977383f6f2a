/-
  OWN. THE WALK of hanselaw11.RankCharges.
-/
import Derived.Test.YtbhhahnmpkegbaaWalkG
import Derived.Test.YtbhhahnmpkegbaaPlain2
import Derived.Deep.RegionHeld3
import Derived.Deep.DrawnRows
set_option linter.unusedSimpArgs false
set_option linter.unusedVariables false
namespace Go.Proofs.Ytbhhahnmpkegbaa
open Go.RowKit

/-- what Charge leaves, in one form -/
def ChargeOut (L : List U) (user sum now : Int) (w w' : World) (A : Option Addr) (n c : Nat) (er : Int) : Prop :=
  (er ≠ 0 ∧ A = none ∧ n = 0 ∧ c = 0) ∨ (er = 0 ∧ (A = none → n = 0 ∧ c = 0) ∧ ∃ s, RU w' A n (putU L user s now) ∧ sum ≤ s ∧ rightL (-1) L = true ∧ rightU (user, s, now) = true)
def ChargeP (L : List U) (user sum now : Int) (w : World) (e : Ending) (w' : World) : Prop :=
  ∃ A n c er, e = .returned (.tuple #[.slice A n c, .int .i64 er]) ∧ Below w.heap.size w w' ∧ ChargeOut L user sum now w w' A n c er
theorem charge_out (A : Option Addr) (n c : Nat) (L : List U) (user sum now : Int) (w : World) (h : RU w A n L) (hA : A = none → n = 0 ∧ c = 0) (hn : n < 1000000) :
    Calls Try.prog 4 #[.slice A n c, .int .i64 user, .int .i64 sum, .int .i64 now] w (ChargeP L user sum now w) := by
  refine (charge_any A n c L user sum now w h hA hn).mono ?_
  rintro e w' ⟨hb, ⟨er, h1, rfl⟩ | ⟨A', n', c', s, rfl, h1, h2, h3, h4, h5⟩⟩
  · exact ⟨none, 0, 0, er, rfl, hb, .inl ⟨h1, rfl, rfl, rfl⟩⟩
  · exact ⟨A', n', c', 0, rfl, hb, .inr ⟨rfl, h1, s, h2, h3, h4, h5⟩⟩

/-- a slot that holds right uses -/
def Uses (v : Value) (w : World) (L : List U) : Prop := ∃ (A : Option Addr) (n c : Nat), v = .slice A n c ∧ (A = none → n = 0 ∧ c = 0) ∧ RU w A n L ∧ rightL (-1) L = true ∧ n ≤ 16

set_option maxHeartbeats 1000000 in
theorem Uses.after {v : Value} {w w' : World} {L : List U} (h : Uses v w L) (hb : Below w.heap.size w w') : Uses v w' L := by
  obtain ⟨A, n, c, rfl, hA, hR, hr, hn⟩ := h
  exact ⟨A, n, c, rfl, hA, hR.after hb, hr, hn⟩
theorem Uses.put {A : Option Addr} {n c : Nat} {w : World} {L : List U} {u s now : Int} (hA : A = none → n = 0 ∧ c = 0) (hR : RU w A n (putU L u s now)) (hr : rightL (-1) L = true) (hu : rightU (u, s, now) = true) : Uses (.slice A n c) w (putU L u s now) := by
  have h := putU_right L (-1) u s now hr (by have := (rightU_iff _).1 hu; simp only at this; omega) hu
  exact ⟨A, n, c, rfl, hA, hR, h, by rw [← hR.len]; exact rightL_len16 h⟩

set_option maxHeartbeats 4000000 in
set_option maxRecDepth 100000 in
theorem law_any (user sum now : Int) (A : Option Addr) (n c : Nat) (C : List U) (w : World) (h : RU w A n C) (hn : n ≤ maxLen) :
    Calls Try.prog 3 #[.int .i64 user, .int .i64 sum, .int .i64 now, .slice A n c] w fun e w' => e = .returned (.bool true) ∧ Below w.heap.size w w' := by
  unfold maxLen at hn
  by_cases hlong : 60 < n
  · go_enter Try.func3, Try.ntmps3
    go_wp2
    go_ret
    exact ⟨rfl, Below.refl _ _⟩
  · go_enter Try.func3, Try.ntmps3
    go_wp2
    go_loopw [9, 10] (fun u i wr => ∃ k : Nat, k ≤ n ∧ i = .int .i64 k ∧ Below w.heap.size w wr ∧ ∃ L, Uses u wr L) (fun _ i _ => n - (intOf i).toNat)
    case atStart => exact ⟨0, by omega, rfl, Below.refl _ _, [], none, 0, 0, rfl, by simp, RU.nil_, rfl, by omega⟩
    case round =>
      obtain ⟨k, hk, rfl, hb, L, Au, nu, cu, rfl, hAu, hRu, hru, hnu⟩ := hrel
      by_cases hlt : k < n
      · obtain ⟨b, o, x, rfl, hbl, hx, c0, c1, c2⟩ := (h.after hb).at_ hlt
        go_wp2
        have hi0 : (0 : Int) ≤ (k : Int) := by omega
        have hi1 : (k : Int) < (n : Int) := by omega
        have hin := h.after hb
        have HC := hide (charge_out Au nu cu L x.1 x.2.1 x.2.2 wr.drew hRu hAu (by omega))
        have HU := hide (show Uses (.slice Au nu cu) wr L from ⟨Au, nu, cu, rfl, hAu, hRu, hru, hnu⟩)
        clear hRu hx hin h hAu hru
        go_region_held3 (fun w' => w'.cell? ⟨b, o + k * 3, none⟩ = some (.int .i64 x.1) ∧ w'.cell? ⟨b, o + k * 3 + 1, none⟩ = some (.int .i64 x.2.1) ∧ w'.cell? ⟨b, o + k * 3 + 2, none⟩ = some (.int .i64 x.2.2)) (go_keep) (first | (go_at_call 4; refine (HC.out).mono ?_; rintro e w1 ⟨A1, n1, cc1, er1, rfl, hb1, hout1⟩; have e0 : w1.cell? ⟨b, o + k * 3, none⟩ = some (.int .i64 x.1) := (hb1.cell (p := ⟨b, _, none⟩) hbl).trans c0; have e1 : w1.cell? ⟨b, o + k * 3 + 1, none⟩ = some (.int .i64 x.2.1) := (hb1.cell (p := ⟨b, _, none⟩) hbl).trans c1; have e2 : w1.cell? ⟨b, o + k * 3 + 2, none⟩ = some (.int .i64 x.2.2) := (hb1.cell (p := ⟨b, _, none⟩) hbl).trans c2))
        have hb1' : Below wr.heap.size wr w1 := ((Below.refl _ _).drew).trans (show Below wr.heap.size wr.drew w1 from hb1)
        have hbw : Below w.heap.size w w1 := bafter hb hb.size hb1'
        have HU2 := hide (HU.out.after hb1')
        have HB := hide hbw
        clear hbw e0 e1 e2 c0 c1 c2 hbl
        rcases hout1 with ⟨her, rfl, rfl, rfl⟩ | ⟨rfl, hA1, s, hR1, hs1, hr1, hu1⟩
        · have hez : (er1 == 0) = false := beq_eq_false_iff_ne.2 her
          clear her
          go_wp2
          go_roundw
          case rel => exact ⟨k + 1, by omega, by go_num, HB.out, L, HU2.out⟩
          case measure => simp [intOf]; omega
        · have HU1 := hide (Uses.put hA1 hR1 hr1 hu1)
          clear hA1 hR1 hs1 hr1 hu1
          go_wp2
          go_roundw
          case rel => exact ⟨k + 1, by omega, by go_num, HB.out, _, HU1.out⟩
          case measure => simp [intOf]; omega
      · have hnu3 : nu < 1000000 := by omega
        have hr0 : rightAt L 0 = true := by rw [rightAt_zero]; exact hru
        have HC := hide (charge_out Au nu cu L user sum now wr hRu hAu hnu3)
        have HU := hide (uses_any Au nu cu L wr hRu hnu3)
        go_wp2_with fail
        refine (HU.out).mono ?_
        rintro e w' ⟨rfl, rfl⟩
        go_wp2_with fail
        refine (HC.out).mono ?_
        rintro e w1 ⟨A1, n1, cc1, er1, rfl, hb1, hout1⟩
        have hbw : Below w.heap.size w w1 := bafter hb hb.size hb1
        rcases hout1 with ⟨her, rfl, rfl, rfl⟩ | ⟨rfl, hA1, s, hR1, hs1, hr1, hu1⟩
        · have hez : (er1 == 0) = false := beq_eq_false_iff_ne.2 her
          have hez2 : (er1 != 0) = true := bne_iff_ne.2 her
          clear her
          go_wp2_with (go_at_call 6; refine (wakes_any _).mono ?_; rintro e w2 ⟨rfl, hb2⟩)
          go_ret
          exact ⟨rfl, bafter hbw hbw.size hb2⟩
        · obtain ⟨A2, n2, c2, hv2, hA2, hR2, hr2, hn2⟩ := Uses.put hA1 hR1 hr1 hu1
          have hn3 : n1 ≤ 16 := by simp only [Value.slice.injEq] at hv2; omega
          have hn4 : n1 < 1000000 := by omega
          have hr4 : rightAt (putU L user s now) 0 = true := by rw [rightAt_zero]; exact hr2
          have HU3 := hide (uses_any A1 n1 cc1 (putU L user s now) w1 hR1 hn4)
          clear hv2 hR2
          go_wp2_with fail
          refine (HU3.out).mono ?_
          rintro e w' ⟨rfl, rfl⟩
          go_wp2
          clear hA2
          have hRu1 := hRu.after hb1
          have HS0 := hide (same_zero (putU_oth L (-1) user s now hru))
          have HPU := hide (putU_user L (-1) user s now hru)
          clear hRu hru
          go_loopw [15, 16] (fun kk i wr2 => ∃ p q : Nat, p ≤ n1 ∧ i = .int .i64 p ∧ q ≤ nu ∧ kk = .int .i64 q ∧ Below w1.heap.size w1 wr2 ∧ same user (putU L user s now) L p q) (fun _ i _ => n1 - (intOf i).toNat)
          case atStart => exact ⟨0, 0, by omega, rfl, by omega, rfl, Below.refl _ _, HS0.out⟩
          case round =>
            obtain ⟨p, q, hp, rfl, hq, rfl, hb2, hsame⟩ := hrel
            have HSM := hide hsame
            clear hsame
            by_cases hlt2 : p < n1
            · obtain ⟨b1, o1, x, rfl, hbl1, hx, c0, c1, c2⟩ := (hR1.after hb2).at_ hlt2
              have HX := hide hx
              clear hx
              by_cases hxu : x.1 = user
              · have hxe := HPU.out x (List.mem_of_getElem? HX.out) hxu
                have HSN := hide (same_skipX HSM.out HX.out hxu)
                subst hxe
                go_wp2
                go_roundw
                case rel => exact ⟨p + 1, q, by omega, by go_num, hq, rfl, hb2, HSN.out⟩
                case measure => simp [intOf]; omega
              · have hxuB : (x.1 == user) = false := beq_eq_false_iff_ne.2 hxu
                go_wp2
                go_loop [15] (fun kk => ∃ q2 : Nat, q2 ≤ nu ∧ kk = .int .i64 q2 ∧ Hid (same user (putU L user s now) L p q2)) (fun kk => nu - (intOf kk).toNat)
                case atStart => exact ⟨q, hq, rfl, HSM.out⟩
                case round =>
                  obtain ⟨q2, hq2, rfl, HS2⟩ := hrel
                  by_cases hlt3 : q2 < nu
                  · obtain ⟨b2, o2, y, rfl, hbl2, hy, d0, d1, d2⟩ := (hRu1.after hb2).at_ hlt3
                    have HY := hide hy
                    clear hy
                    by_cases hyu : y.1 = user
                    · have hyuB : (y.1 == user) = true := beq_iff_eq.2 hyu
                      have HSN := hide (same_skipL HS2.out HY.out hyu)
                      clear hyu
                      go_wp2
                      go_round
                      case rel => exact ⟨q2 + 1, by omega, by go_num, HSN.out⟩
                      case measure => simp [intOf]; omega
                    · have hyuB : (y.1 == user) = false := beq_eq_false_iff_ne.2 hyu
                      obtain ⟨hyx, hsn⟩ := same_both HS2.out HX.out hxu HY.out hyu
                      subst hyx
                      have HSN := hide hsn
                      clear hsn hyu hxu
                      go_wp2
                      have hd1 : decide (nu ≤ q2) = false := decide_eq_false (by omega)
                      have hd2 : (0 : Int) ≤ (q2 : Int) := by omega
                      have hd3 : (q2 : Int) < (nu : Int) := by omega
                      have hd4 : (0 : Int) ≤ (p : Int) := by omega
                      have hd5 : (p : Int) < (n1 : Int) := by omega
                      go_quiet (fail)
                      clear hd1 hd2 hd3 hd4 hd5
                      go_wp2
                      go_roundw
                      case rel => exact ⟨p + 1, q2 + 1, by omega, by go_num, by omega, by go_num, below_drewN hb2 _, HSN.out⟩
                      case measure => simp [intOf]; omega
                  · exact (same_end HS2.out HX.out hxu (by rw [(hRu1).len]; omega)).elim
            · go_wp2_with (go_at_call 6; refine (wakes_any _).mono ?_; rintro e w2 ⟨rfl, hb3⟩)
              go_ret
              exact ⟨rfl, bafter (bafter hbw hbw.size hb2) (by have := hb2.size; have := hbw.size; omega) hb3⟩
end Go.Proofs.Ytbhhahnmpkegbaa
