/-
  OWN. THE WALK of resv.Add at the law's list.
-/
import Derived.Test.YtdkhpjeiepkldaaWalkO
import Derived.Deep.CutRange
set_option linter.unusedSimpArgs false
set_option linter.unusedVariables false
namespace Go.Proofs.Ytdkhpjeiepkldaa
open Go.RowKit

def AddPost5 (N : Nat) (a b m f : Int) (s : Bool) (w : World) (e : Ending) (w' : World) : Prop :=
  Below w.heap.size w w' ∧ ∃ (v' : Value) (at_ : Nat), e = .returned (.tuple #[v', .int .i64 0]) ∧ w'.ownsRow w.heap.size 29 8 v' (N + 1) ((flatR N).take (at_ * 8) ++ (cellsV a b m f s ++ (flatR N).drop (at_ * 8)))

theorem ownsRow_base {base base' : Nat} {e : TypeId} {size : Nat} {w : World} {v : Value} {n : Nat} {xs : List Value} (h : w.ownsRow base e size v n xs) (hb : base' ≤ base) : w.ownsRow base' e size v n xs := by
  refine ⟨h.1, ?_⟩
  rcases h.2 with h0 | ⟨g, cap, cur, hv, hg, rest⟩
  · exact .inl h0
  · exact .inr ⟨g, cap, cur, hv, Nat.le_trans hb hg, rest⟩

set_option maxHeartbeats 4000000 in
theorem add4_any (c : Nat) (hc : 1 ≤ c ∧ c ≤ 2) (A : Option Addr) (N cap : Nat) (a b m f : Int) (s : Bool) (w : World) (h : RR w A N) (hA : A = none → N = 0 ∧ cap = 0) (hN : N < 64) (hab : 0 < N → ¬ (a = 0 ∧ b = 0)) (hf : 0 ≤ f ∧ f + 1 ≤ 1099511627776)
    (S : Nat → List St) (hS0 : S 0 = []) (hS : ∀ k f', (froms N ++ [f])[k]? = some f' → OkT c (S k) f' ∧ S (k + 1) = takeP c (S k) f') :
    Calls Try.prog 4 #[C c, .slice none 0 0, .slice A N cap, newV a b m f s] w (AddPost5 N a b m f s w) := by
  obtain ⟨f1, f2⟩ := hf
  have HS := hide hS
  have HS0 := hide hS0
  have hbx : ∀ w', Below (w.alloc (newO a b m f s)).heap.size (w.alloc (newO a b m f s)) w' → ∀ j, w'.cell? ⟨w.heap.size, j, none⟩ = (#[.int .i64 a, .int .i64 b, .int .i64 m, .int .i64 f, .int .i64 (f + 1), K1, .bool s, .int .i64 0] : Array Value)[j]? := fun w' hb j => BW.new (t := 29) ⟨w', hb⟩ j
  have HBX := hide hbx
  clear hS hS0 hbx
  have hw1 := below_alloc w (newO a b m f s)
  go_enter Try.func4, Try.ntmps4
  go_wp2_with fail
  refine (right_any 1 (by omega) _).mono ?_
  rintro e w' ⟨rfl, rfl⟩
  go_wp2_with fail
  refine (find_any A N cap a b m hab _ (h.after hw1) (by omega)).mono ?_
  rintro e w2 ⟨rfl, hb2⟩
  have hw2 := btwo hw1 hb2
  have g3 : w2.cell? ⟨w.heap.size, 3, none⟩ = some (.int .i64 f) := HBX.out w2 hb2 3
  have g4 : w2.cell? ⟨w.heap.size, 4, none⟩ = some (.int .i64 (f + 1)) := HBX.out w2 hb2 4
  have g5 : w2.cell? ⟨w.heap.size, 5, none⟩ = some K1 := HBX.out w2 hb2 5
  have H1 := hide (load_first A N cap f w2 (h.after hw2) (by omega))
  have H2 := hide (load_second A N cap f w2 (h.after hw2) (by omega))
  have hgl : w.heap.size < w2.heap.size := by have := hb2.size; simp at this; omega
  have HH := hide h
  have HAB := hide hab
  clear h hab
  go_upto_region 9 with fail
  go_cut [10] from 48 to 55 (fun s10 wx => ∃ (A9 : Option Addr) (cap9 : Nat), s10 = .slice A9 (N + 1) cap9 ∧ RB wx A9 (N + 1) (froms N ++ [f]) ∧ Below w2.heap.size w2 wx)
  case first =>
    go_region_with (first | (go_at_call 9; first | (refine H1.out.mono ?_; rintro e w7 ⟨g1, rfl, hb7, HC8⟩; have q3 : w7.cell? ⟨w.heap.size, 3, none⟩ = some (.int .i64 f) := (hb7.cell (p := ⟨w.heap.size, 3, none⟩) hgl).trans g3; have q4 : w7.cell? ⟨w.heap.size, 4, none⟩ = some (.int .i64 (f + 1)) := (hb7.cell (p := ⟨w.heap.size, 4, none⟩) hgl).trans g4; have q5 : w7.cell? ⟨w.heap.size, 5, none⟩ = some K1 := (hb7.cell (p := ⟨w.heap.size, 5, none⟩) hgl).trans g5) | (refine H2.out.mono ?_; rintro e w7 ⟨g1, rfl, HC8⟩)) | (go_at_call 8; refine HC8.out.mono ?_; rintro e w8 ⟨hb8, A9, cap9, rfl, hR9⟩))
    all_goals (go_wp2_with fail; go_meet)
    case rel => exact ⟨A9, cap9, rfl, hR9, hb8⟩
    case rel => exact ⟨A9, cap9, rfl, hR9, hb8⟩
    case rel => exact ⟨A9, cap9, rfl, hR9, hb8⟩
  case rest =>
    obtain ⟨A9, cap9, rfl, hR9, hb9⟩ := hcut
    clear g3 g4 g5 H1 H2
    go_wp2_with fail
    refine (new_any c hc A9 (N + 1) cap9 (froms N ++ [f]) S _ hR9 (by omega) HS0.out HS.out).mono ?_
    rintro e w10 ⟨hb10, pp, rfl⟩
    have hw10 : Below w2.heap.size w2 w10 := bafter hb9 hb9.size hb10
    clear hR9 hb9 hb10
    go_wp2
    go_loopw [13] (fun i wr => ∃ k : Nat, k ≤ N ∧ i = .int .i64 k ∧ Below w2.heap.size w2 wr) (fun i _ => (intOf i).toNat)
    case atStart => exact ⟨N, Nat.le_refl _, rfl, hw10⟩
    clear hw10
    case round =>
      obtain ⟨k, hk, rfl, hb⟩ := hrel
      by_cases h0 : 0 < k
      · obtain ⟨j, hj⟩ : ∃ j : Nat, j = k - 1 := ⟨_, rfl⟩
        obtain ⟨bb, o, hAA, hbl, c0, c1, c2, c3, c4, c5, c6, c7⟩ := ((HH.out.after hw2).after hb).at_ (i := j) (by omega)
        have hbx := HBX.out wr (hb2.trans (hb.mono hb2.size))
        have V0 : ∀ s' : BW wr, s'.w.cell? ⟨bb, o + j * 8, none⟩ = some (.int .i64 0) := BW.cell c0
        have V1 : ∀ s' : BW wr, s'.w.cell? ⟨bb, o + j * 8 + 1, none⟩ = some (.int .i64 0) := BW.cell c1
        have V2 : ∀ s' : BW wr, s'.w.cell? ⟨bb, o + j * 8 + 2, none⟩ = some (.int .i64 ((j : Int) + 1)) := BW.cell c2
        have V3 : ∀ s' : BW wr, s'.w.cell? ⟨bb, o + j * 8 + 3, none⟩ = some (.int .i64 j) := BW.cell c3
        have V4 : ∀ s' : BW wr, s'.w.cell? ⟨bb, o + j * 8 + 4, none⟩ = some (.int .i64 ((j : Int) + 1)) := BW.cell c4
        have V5 : ∀ s' : BW wr, s'.w.cell? ⟨bb, o + j * 8 + 5, none⟩ = some K1 := BW.cell c5
        have V6 : ∀ s' : BW wr, s'.w.cell? ⟨bb, o + j * 8 + 6, none⟩ = some (.bool false) := BW.cell c6
        have V7 : ∀ s' : BW wr, s'.w.cell? ⟨bb, o + j * 8 + 7, none⟩ = some (.int .i64 0) := BW.cell c7
        have X0 : ∀ s' : BW wr, s'.w.cell? ⟨w.heap.size, 0, none⟩ = some (.int .i64 a) := BW.cell (hbx 0)
        have X1 : ∀ s' : BW wr, s'.w.cell? ⟨w.heap.size, 1, none⟩ = some (.int .i64 b) := BW.cell (hbx 1)
        have X2 : ∀ s' : BW wr, s'.w.cell? ⟨w.heap.size, 2, none⟩ = some (.int .i64 m) := BW.cell (hbx 2)
        have X3 : ∀ s' : BW wr, s'.w.cell? ⟨w.heap.size, 3, none⟩ = some (.int .i64 f) := BW.cell (hbx 3)
        have X4 : ∀ s' : BW wr, s'.w.cell? ⟨w.heap.size, 4, none⟩ = some (.int .i64 (f + 1)) := BW.cell (hbx 4)
        have X5 : ∀ s' : BW wr, s'.w.cell? ⟨w.heap.size, 5, none⟩ = some K1 := BW.cell (hbx 5)
        have X6 : ∀ s' : BW wr, s'.w.cell? ⟨w.heap.size, 6, none⟩ = some (.bool s) := BW.cell (hbx 6)
        have X7 : ∀ s' : BW wr, s'.w.cell? ⟨w.heap.size, 7, none⟩ = some (.int .i64 0) := BW.cell (hbx 7)
        have hk1 : ((k : Int) - 1).toNat = j := by omega
        have hk2 : (0 : Int) ≤ (k : Int) - 1 := by omega
        have hk3 : (k : Int) - 1 < (N : Int) := by omega
        have hk4 : (0 : Int) < (k : Int) := by omega
        have HN1 := hide (show (k : Int) - 1 = ((k - 1 : Nat) : Int) by omega)
        have HA := hide hA
        clear hA hj hbx c0 c1 c2 c3 c4 c5 c6 c7
        subst hAA
        obtain ⟨z, hz⟩ : ∃ z, z = orP (cmpI 0 a) (cmpI 0 b) (cmpI ((j : Int) + 1) m) := ⟨_, rfl⟩
        have H11 := order_any j a b m f s
        rw [← hz] at H11
        clear hz
        go_wp2
        refine wp_region_bw (by kernel_rfl) (by kernel_rfl) ?_
        repeat (go_big_quiet_step ((go_at_call 11; exact Calls.bw (H11 _))))
        refine wpQuiet_nil ?_
        rintro _ ⟨s', rfl⟩
        have hs : Below w2.heap.size w2 s'.w := hb.trans (s'.h.mono hb.size)
        clear V0 V1 V2 V3 V4 V5 V6 V7 X0 X1 X2 X3 X4 X5 X6 X7 hk1 hk2 hk3 H11
        by_cases hpos : 0 < z
        · go_wp2
          go_roundw
          case rel => exact ⟨k - 1, by omega, by rw [HN1.out], hs⟩
          case measure => simp [intOf] <;> omega
        · have hA := HA.out
          have HBS := hs
          have hws : Below w.heap.size w s'.w := bafter hw2 hw2.size HBS
          have hbx := HBX.out s'.w (hb2.trans (HBS.mono hb2.size))
          have r0 : s'.w.cell? ⟨w.heap.size, 0, none⟩ = some (.int .i64 a) := hbx 0
          have r1 : s'.w.cell? ⟨w.heap.size, 1, none⟩ = some (.int .i64 b) := hbx 1
          have r2 : s'.w.cell? ⟨w.heap.size, 2, none⟩ = some (.int .i64 m) := hbx 2
          have r3 : s'.w.cell? ⟨w.heap.size, 3, none⟩ = some (.int .i64 f) := hbx 3
          have r4 : s'.w.cell? ⟨w.heap.size, 4, none⟩ = some (.int .i64 (f + 1)) := hbx 4
          have r5 : s'.w.cell? ⟨w.heap.size, 5, none⟩ = some K1 := hbx 5
          have r6 : s'.w.cell? ⟨w.heap.size, 6, none⟩ = some (.bool s) := hbx 6
          have r7 : s'.w.cell? ⟨w.heap.size, 7, none⟩ = some (.int .i64 0) := hbx 7
          have H1 := hide (clone_first _ N cap k a b m f s s'.w (HH.out.after hws) hA hk (by omega))
          have H2 := hide (clone_second _ N cap k a b m f s s'.w (HH.out.after hws) hA hk (by omega))
          have hgs : w.heap.size < s'.w.heap.size := by have := HBS.size; omega
          have HWS := hide hws
          clear hbx hws HBS
          go_wp2
          go_region_with (first | (go_at_call 13; first | (refine H1.out.mono ?_; rintro e w7 ⟨v, rfl, hb7, HC12⟩; have q0 := (hb7.cell (p := ⟨w.heap.size, 0, none⟩) hgs).trans r0; have q1 := (hb7.cell (p := ⟨w.heap.size, 1, none⟩) hgs).trans r1; have q2 := (hb7.cell (p := ⟨w.heap.size, 2, none⟩) hgs).trans r2; have q3 := (hb7.cell (p := ⟨w.heap.size, 3, none⟩) hgs).trans r3; have q4 := (hb7.cell (p := ⟨w.heap.size, 4, none⟩) hgs).trans r4; have q5 := (hb7.cell (p := ⟨w.heap.size, 5, none⟩) hgs).trans r5; have q6 := (hb7.cell (p := ⟨w.heap.size, 6, none⟩) hgs).trans r6; have q7 := (hb7.cell (p := ⟨w.heap.size, 7, none⟩) hgs).trans r7) | (refine H2.out.mono ?_; rintro e w7 ⟨v, rfl, HC12⟩)) | (go_at_call 12; refine HC12.out.mono ?_; rintro e w8 ⟨hb8, v', at_, rfl, ho8⟩))
          all_goals (
            go_wp2
            go_ret2
            exact ⟨bafter HWS.out HWS.out.size hb8, v', at_, rfl, ownsRow_base ho8 HWS.out.size⟩)
      · have hd : decide ((0 : Int) < (k : Int)) = false := decide_eq_false (by omega)
        have H11 := fun w => order_any 0 a b m f s w
        go_wp2
        refine wp_region_bw (by kernel_rfl) (by kernel_rfl) ?_
        repeat (go_big_quiet_step ((go_at_call 11; exact Calls.bw (H11 _))))
        refine wpQuiet_nil ?_
        rintro _ ⟨s2, rfl⟩
        have HBS : Below w2.heap.size w2 s2.w := hb.trans (s2.h.mono hb.size)
        clear H11
        have hws : Below w.heap.size w s2.w := bafter hw2 hw2.size HBS
        have hbx := HBX.out s2.w (hb2.trans (HBS.mono hb2.size))
        have r0 : s2.w.cell? ⟨w.heap.size, 0, none⟩ = some (.int .i64 a) := hbx 0
        have r1 : s2.w.cell? ⟨w.heap.size, 1, none⟩ = some (.int .i64 b) := hbx 1
        have r2 : s2.w.cell? ⟨w.heap.size, 2, none⟩ = some (.int .i64 m) := hbx 2
        have r3 : s2.w.cell? ⟨w.heap.size, 3, none⟩ = some (.int .i64 f) := hbx 3
        have r4 : s2.w.cell? ⟨w.heap.size, 4, none⟩ = some (.int .i64 (f + 1)) := hbx 4
        have r5 : s2.w.cell? ⟨w.heap.size, 5, none⟩ = some K1 := hbx 5
        have r6 : s2.w.cell? ⟨w.heap.size, 6, none⟩ = some (.bool s) := hbx 6
        have r7 : s2.w.cell? ⟨w.heap.size, 7, none⟩ = some (.int .i64 0) := hbx 7
        have H1 := hide (clone_first _ N cap k a b m f s s2.w (HH.out.after hws) hA hk (by omega))
        have H2 := hide (clone_second _ N cap k a b m f s s2.w (HH.out.after hws) hA hk (by omega))
        have hgs : w.heap.size < s2.w.heap.size := by have := HBS.size; omega
        have HWS := hide hws
        clear hbx hws HBS
        go_wp2
        go_region_with (first | (go_at_call 13; first | (refine H1.out.mono ?_; rintro e w7 ⟨v, rfl, hb7, HC12⟩; have q0 := (hb7.cell (p := ⟨w.heap.size, 0, none⟩) hgs).trans r0; have q1 := (hb7.cell (p := ⟨w.heap.size, 1, none⟩) hgs).trans r1; have q2 := (hb7.cell (p := ⟨w.heap.size, 2, none⟩) hgs).trans r2; have q3 := (hb7.cell (p := ⟨w.heap.size, 3, none⟩) hgs).trans r3; have q4 := (hb7.cell (p := ⟨w.heap.size, 4, none⟩) hgs).trans r4; have q5 := (hb7.cell (p := ⟨w.heap.size, 5, none⟩) hgs).trans r5; have q6 := (hb7.cell (p := ⟨w.heap.size, 6, none⟩) hgs).trans r6; have q7 := (hb7.cell (p := ⟨w.heap.size, 7, none⟩) hgs).trans r7) | (refine H2.out.mono ?_; rintro e w7 ⟨v, rfl, HC12⟩)) | (go_at_call 12; refine HC12.out.mono ?_; rintro e w8 ⟨hb8, v', at_, rfl, ho8⟩))
        all_goals (
          go_wp2
          go_ret2
          exact ⟨bafter HWS.out HWS.out.size hb8, v', at_, rfl, ownsRow_base ho8 HWS.out.size⟩)
end Go.Proofs.Ytdkhpjeiepkldaa
