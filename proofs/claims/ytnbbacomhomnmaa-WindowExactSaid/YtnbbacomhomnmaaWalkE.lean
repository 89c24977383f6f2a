/-
  OWN. THE WALK of window.Common.
-/
import Derived.Test.YtnbbacomhomnmaaWalkE0
set_option linter.unusedSimpArgs false
set_option linter.unusedVariables false
namespace Go.Proofs.Ytnbbacomhomnmaa
open Go.RowKit

set_option maxHeartbeats 4000000 in
theorem common_any (A : Option Addr) (n c : Nat) (Ls : List (List Sp)) (t : Int) (w : World) (h : RLL w A n Ls) (hn : n ≤ 100) :
    Calls Try.prog 6 #[.int .i64 t, .slice A n c] w (CommonPost t Ls w) := by
  by_cases hf : 0 ≤ t ∧ t < 1099511627776
  · obtain ⟨i0, hi, hz0, hz1, hz2⟩ := info_parts info44
    have hd1 : decide (0 ≤ t) = true := decide_eq_true hf.1
    have hd2 : decide (t ≤ 1099511627776) = true := decide_eq_true (by omega)
    have hd3 : (t == 1099511627776) = false := beq_eq_false_iff_ne.2 (by omega)
    have HF := hide hf
    clear hf
    go_enter Try.func6, Try.ntmps6
    go_wp2_with (go_at_call 16; refine (tickRight_any _ _).mono ?_; rintro e w' ⟨rfl, rfl⟩)
    clear hd1 hd2 hd3
    go_loopw [6, 23] (fun v i wr => ∃ (k : Nat) (E : List Sp), k ≤ n ∧ E.length ≤ 48 * k ∧ i = .int .i64 k ∧ OwnE w.heap.size wr v E ∧ Below w.heap.size w wr ∧ Hid (E = allE t (Ls.take k)) ∧ Hid (∀ L ∈ Ls.take k, rightS (-1) L = true)) (fun _ i _ => n - (intOf i).toNat)
    case atStart => exact ⟨0, [], by omega, by simp, rfl, OwnE.nil_ _ _, by go_grown, rfl, fun L hL => by simp at hL⟩
    case round =>
      obtain ⟨k, E, hk, hE, rfl, hown, hb, HE, HR⟩ := hrel
      by_cases hlt : k < n
      · obtain ⟨b, o, L, A', c', rfl, hbl, hL, hc0, hL24, hRS⟩ := h.at_ hlt
        have hwsz := hb.size
        have d0 := (hb.cell (p := ⟨b, _, none⟩) hbl).trans hc0
        have HL := hide hL
        have HO := hide hown
        clear hL hown hc0 h
        go_wp2_with fail
        refine (check_any A' L.length c' L _ (hRS.after hb) (by omega)).mono ?_
        rintro e w1 ⟨rfl, hb1⟩
        have hbw1 : Below w.heap.size w w1 := bafter hb hwsz hb1
        have HO1 := hide (HO.out.below hb1)
        clear d0 HO hb hb1
        have hwsz1 := hbw1.size
        cases hr : rightS (-1) L
        · have hc := codeS_no hr
          rw [hc]
          go_wp2
          go_ret2
          exact CommonPost.bad HF.out (fun hall => by have := hall L (List.mem_of_getElem? HL.out); rw [hr] at this; cases this) hbw1
        · have hc := codeS_ok hr
          rw [hc]
          clear hc
          have HRN := hide (show ∀ L' ∈ Ls.take (k + 1), rightS (-1) L' = true from by
            rw [take_next HL.out]
            intro L' hL'
            rcases List.mem_append.1 hL' with h1 | h1
            · exact HR.out L' h1
            · rw [List.mem_singleton.1 h1]; exact hr)
          clear hr
          go_wp2
          go_loopw [6, 32] (fun v j wr => ∃ (q : Nat) (E2 : List Sp), q ≤ L.length ∧ E2.length ≤ 48 * k + 2 * q ∧ j = .int .i64 q ∧ OwnE w.heap.size wr v E2 ∧ Below w.heap.size w wr ∧ Hid (E2 = E ++ edgesOf t (L.take q))) (fun _ j _ => L.length - (intOf j).toNat)
          case atStart => exact ⟨0, E, by omega, by omega, rfl, HO1.out, hbw1, by show E = _; simp [edgesOf]⟩
          case round =>
            obtain ⟨q, E2, hq, hE2, rfl, hown2, hb2, HE2⟩ := hrel
            by_cases hlt2 : q < L.length
            · obtain ⟨b2, o2, x, rfl, hbl2, hx, c0, c1⟩ := (hRS.below hb2 (Nat.le_refl _)).at_ hlt2
              have HX := hide hx
              have HO2 := hide hown2
              have hwsz2 := hb2.size
              clear hx hown2 hRS HO1 hbw1 hwsz1
              by_cases hto : t < x.2
              · have hown3 := HO2.out.alloc (.cells #[Value.int IntKind.i64 x.1, Value.int IntKind.i64 x.2] 37)
                have HN := hide (show E2 ++ [(max x.1 t, 1), (x.2, -1)] = E ++ edgesOf t (L.take (q + 1)) by rw [HE2.out, take_next HX.out, edgesOf_append, edgesOf_in hto, List.append_assoc])
                have hbx := hb2.alloc hwsz2 (.cells #[Value.int IntKind.i64 x.1, Value.int IntKind.i64 x.2] 37)
                have HO3 := hide hown3
                clear hown3
                have hbase : w.heap.size ≤ ((wr.alloc (.cells #[Value.int IntKind.i64 x.1, Value.int IntKind.i64 x.2] 37)).alloc (.cells #[Value.int IntKind.i64 (max x.1 t), Value.int IntKind.i64 1, Value.int IntKind.i64 x.2, Value.int IntKind.i64 (-1)] 44)).heap.size := by simp; omega
                have hownp := hide (World.ownsRow.alloc HO3.out (.cells #[Value.int IntKind.i64 (max x.1 t), Value.int IntKind.i64 1, Value.int IntKind.i64 x.2, Value.int IntKind.i64 (-1)] 44))
                have hnew0 := cells_new (wr.alloc (.cells #[Value.int IntKind.i64 x.1, Value.int IntKind.i64 x.2] 37)) [Value.int IntKind.i64 (max x.1 t), Value.int IntKind.i64 1, Value.int IntKind.i64 x.2, Value.int IntKind.i64 (-1)] 44
                rw [show (wr.alloc (.cells #[Value.int IntKind.i64 x.1, Value.int IntKind.i64 x.2] 37)).heap.size = wr.heap.size + 1 from by simp] at hnew0
                have hnew := hide hnew0
                clear hnew0
                have hone := hide (twoE (max x.1 t) 1 x.2 (-1))
                have HB := hide hbase
                clear hbase
                go_wp2_with (at_builtin; go_loud (refine wpList_append_own_at _ rfl (.tmp 40) (.tmp 49) _ rfl w.heap.size 44 i0 _ 2 16 Try.underlying42 hi hz0 hz1 hz2 rfl (by decide) _ E2.length (E2.map cellsS).flatten rfl ?zown _ 2 2 [Value.int IntKind.i64 (max x.1 t), Value.int IntKind.i64 1, Value.int IntKind.i64 x.2, Value.int IntKind.i64 (-1)] rfl rfl ?znew ?zone ?zmax ?zbytes ?zbase ?_; (case zown => exact hownp.out); (case znew => exact hnew.out); (case zone => exact hone.out); (case zmax => simp only [maxLen]; omega); (case zbytes => omega); (case zbase => exact HB.out); intro v' w4 hown4 hgr4 _ _))
                have hb4 : Below w.heap.size w w4 := (hbx.alloc (by simp; omega) _).grown hgr4 (by simp; omega) (fun k hk => (HO3.out.lt k hk).1)
                go_roundw
                case rel => exact ⟨q + 1, E2 ++ [(max x.1 t, 1), (x.2, -1)], by omega, by simp; omega, by go_num, OwnE.two hown4, hb4, HN.out⟩
                case measure => simp [intOf]; omega
              · have HN := hide (show E2 = E ++ edgesOf t (L.take (q + 1)) by rw [HE2.out, take_next HX.out, edgesOf_append, edgesOf_out hto, List.append_nil])
                go_wp2
                go_roundw
                case rel => exact ⟨q + 1, E2, by omega, by omega, by go_num, HO2.out.alloc _, hb2.alloc hwsz2 _, HN.out⟩
                case measure => simp [intOf]; omega
            · have HN := hide (show E2 = allE t (Ls.take (k + 1)) by rw [take_next HL.out, allE_append, ← HE.out, HE2.out, List.take_of_length_le (by omega)])
              have HO2 := hide hown2
              clear hown2
              go_wp2
              go_roundw
              case rel => exact ⟨k + 1, E2, by omega, by omega, by go_num, HO2.out, hb2, HN.out, HRN.out⟩
              case measure => simp [intOf]; omega
      · have hlen := h.len
        have hall : Ls.take k = Ls := List.take_of_length_le (by rw [hlen]; omega)
        have HE' := hide (show E = allE t Ls by rw [HE.out, hall])
        have HR' := hide (show ∀ L ∈ Ls, rightS (-1) L = true by have := HR.out; rwa [hall] at this)
        clear hall
        by_cases hn0 : n = 0
        · subst hn0
          have HLs := hide (List.eq_nil_of_length_eq_zero hlen)
          clear hlen hown
          go_wp2
          go_ret2
          exact CommonPost.none HF.out HLs.out hb
        · have hn0B : (n == 0) = false := beq_eq_false_iff_ne.2 hn0
          have HLN := hide hlen
          have HO := hide hown
          have hwsz := hb.size
          clear hlen hown h
          have hElt : E.length ≤ 4800 := by omega
          have HUP := hide (show ∀ x ∈ E, -1 ≤ x.2 ∧ x.2 ≤ 1 from by rw [HE'.out]; exact up_one)
          go_wp2_with fail
          refine (sortE_any HO.out (by omega)).mono ?_
          rintro e w3 ⟨rfl, A3, c3, D, rfl, hp, hs, hRD, hb3⟩
          have hbw3 : Below w.heap.size w w3 := hb.trans hb3
          have HP := hide hp
          have HS := hide hs
          clear hp hs hb hb3 HO
          go_wp2
          go_loopw [11, 61] (fun ov i wr => ∃ (q : Nat) (op : Int), q ≤ E.length ∧ -(q : Int) ≤ op ∧ op ≤ q ∧ ov = .int .i64 op ∧ i = .int .i64 q ∧ Below w3.heap.size w3 wr ∧ Hid (sweep n 0 D = sweep n op (D.drop q))) (fun _ i _ => E.length - (intOf i).toNat)
          case atStart => exact ⟨0, 0, by omega, by omega, by omega, rfl, rfl, Below.refl _ _, rfl⟩
          case round =>
            obtain ⟨q, op, hq, ho1, ho2, rfl, rfl, hb4, HW⟩ := hrel
            by_cases hlt2 : q < E.length
            · obtain ⟨b2, o2, x, rfl, hbl2, hx, c0, c1⟩ := (hRD.after hb4).at_ hlt2
              obtain ⟨u1, u2⟩ := HUP.out x (HP.out.mem_iff.1 (List.mem_of_getElem? hx))
              have HX := hide (drop_at hx)
              have hsz4 := hb4.size
              clear hx hRD
              by_cases hhit : op + x.2 = n
              · have hhB : (op + x.2 == n) = true := beq_iff_eq.2 hhit
                have HN := hide (show sweep Ls.length 0 D = (x.1, true) by rw [HLN.out, HW.out, HX.out, sweep, if_pos hhit])
                clear hhit
                go_wp2
                go_ret2
                exact CommonPost.swept HF.out HR'.out (fun e => by rw [e] at HLN; exact hn0 HLN.out.symm) (by rw [← HE'.out]; exact HP.out) HS.out HN.out (bafter hbw3 hbw3.size (hb4.alloc hsz4 _))
              · have hhB : (op + x.2 == n) = false := beq_eq_false_iff_ne.2 hhit
                have HN := hide (show sweep n 0 D = sweep n (op + x.2) (D.drop (q + 1)) by rw [HW.out, HX.out, sweep, if_neg hhit])
                clear hhit
                go_wp2
                go_roundw
                case rel => exact ⟨q + 1, op + x.2, by omega, by omega, by omega, rfl, by go_num, hb4.alloc hsz4 _, HN.out⟩
                case measure => simp [intOf]; omega
            · have HN := hide (show sweep Ls.length 0 D = (0, false) by rw [HLN.out, HW.out, List.drop_eq_nil_of_le (by rw [HP.out.length_eq]; omega)]; rfl)
              go_wp2
              go_ret2
              exact CommonPost.swept HF.out HR'.out (fun e => by rw [e] at HLN; exact hn0 HLN.out.symm) (by rw [← HE'.out]; exact HP.out) HS.out HN.out (bafter hbw3 hbw3.size hb4)
  · have HF := hide hf
    by_cases h0 : 0 ≤ t
    · by_cases h1 : t = 1099511627776
      · subst h1
        clear hf
        go_enter Try.func6, Try.ntmps6
        go_wp2_with (go_at_call 16; refine (tickRight_any _ _).mono ?_; rintro e w' ⟨rfl, rfl⟩)
        go_ret2
        exact CommonPost.early HF.out (Below.refl _ _)
      · have hd1 : decide (0 ≤ t) = true := decide_eq_true h0
        have hd2 : decide (t ≤ 1099511627776) = false := decide_eq_false (by omega)
        clear hf
        go_enter Try.func6, Try.ntmps6
        go_wp2_with (go_at_call 16; refine (tickRight_any _ _).mono ?_; rintro e w' ⟨rfl, rfl⟩)
        go_ret2
        exact CommonPost.early HF.out (Below.refl _ _)
    · have hd1 : decide (0 ≤ t) = false := decide_eq_false h0
      clear hf
      go_enter Try.func6, Try.ntmps6
      go_wp2_with (go_at_call 16; refine (tickRight_any _ _).mono ?_; rintro e w' ⟨rfl, rfl⟩)
      go_ret2
      exact CommonPost.early HF.out (Below.refl _ _)
end Go.Proofs.Ytnbbacomhomnmaa
