/-
  OWN. THE WALKS of slices.Grow and slices.Concat at spans.
-/
import Derived.Test.YtdkhpjeiepkldaaWalkJ
import Derived.Laws.AppendOwnNone
set_option linter.unusedSimpArgs false
set_option linter.unusedVariables false
namespace Go.Proofs.Ytdkhpjeiepkldaa
open Go.RowKit

def GrowPost (n : Nat) (w : World) (e : Ending) (w' : World) : Prop :=
  ∃ cap, e = .returned (.slice (some ⟨w.heap.size, 0, none⟩) 0 cap) ∧ w'.ownsRow w.heap.size 27 3 (.slice (some ⟨w.heap.size, 0, none⟩) 0 cap) 0 [] ∧ Below w.heap.size w w'

set_option maxHeartbeats 1000000 in
theorem growB_any (n : Nat) (z : Int) (hz : z = (n : Int)) (h0 : 0 < n) (hn : n ≤ 2000) (w : World) :
    Calls Try.prog 17 #[.slice none 0 0, .int .i64 z] w (GrowPost n w) := by
  obtain ⟨i0, hi, hz0, hz1, hz2⟩ := info_parts info27
  subst hz
  have hC1 := grownCap_ge w n 0 27
  have hC2 := grownCap_le_maxLen w n 0 27 (by simp only [maxLen]; omega)
  have hap := fun ty => Lib.run_append_nil_zeros (P := Try.prog) w 35 3 ty 27 i0 _ .i64 .i64 Try.underlying35 Try.underlying3 hi hz0 n h0 (by rw [hz1]; decide) (by omega) (by rw [hz2]; omega)
  obtain ⟨C1, hCC⟩ : ∃ C1, C1 = grownCap w n 0 27 := ⟨_, rfl⟩
  rw [← hCC] at hC1 hC2 hap
  obtain ⟨w1, hw1⟩ : ∃ w1, w1 = w.drew.alloc (.cells (Builtin.zeroCells (Value.agg #[.int .i64 0, .int .i64 0, .complex .f64 0 0]).cells n ++ Builtin.zeroCells (Value.agg #[.int .i64 0, .int .i64 0, .complex .f64 0 0]).cells (C1 - n)) 27) := ⟨_, rfl⟩
  rw [← hw1] at hap
  have hB : Below w.heap.size w w1 := by rw [hw1]; exact ((Below.refl _ _).drew).alloc (Nat.le_refl _) _
  have hown : w1.ownsRow w.heap.size 27 3 (.slice (some ⟨w.heap.size, 0, none⟩) 0 C1) 0 [] := by
    refine ⟨rfl, .inr ⟨w.heap.size, C1, _, rfl, Nat.le_refl _, by rw [hw1]; exact heap_alloc_new w.drew _, by omega, hC2, ?_, by simp⟩⟩
    simp only [Array.size_append, size_zeroCells]
    rw [← Nat.add_mul, Nat.add_sub_cancel' hC1]
    rfl
  have HAP := hide hap
  have HB := hide hB
  have HO := hide hown
  clear hap hB hown hw1 hCC
  go_enter Try.func17, Try.ntmps17
  go_wp2_with (at_builtin; refine Lib.wpList_append_run _ rfl (.tmp 20) (.tmp 21) 35 3 rfl _ _ rfl rfl _ _ (HAP.out _) ?_)
  go_ret
  exact ⟨C1, rfl, HO.out, HB.out⟩

theorem oneB (Fs : List Int) : ∀ u ∈ flatB Fs, u.oneCell' = true := by
  intro u hu
  obtain ⟨r, hr, hu⟩ := List.mem_flatten.1 hu
  obtain ⟨x, _, rfl⟩ := List.mem_map.1 hr
  simp [cellsB] at hu
  rcases hu with rfl | rfl | rfl <;> rfl
theorem RB.flat {w : World} {a : Addr} {n : Nat} {Fs : List Int} (h : RB w (some a) n Fs) : ∀ j u, (flatB Fs)[j]? = some u → w.cell? (a.add j) = some u := Rows3.flat h (by decide)

def ConcatPost (N : Nat) (f : Int) (w : World) (e : Ending) (w' : World) : Prop :=
  Below w.heap.size w w' ∧ ∃ (A : Option Addr) (cap : Nat), e = .returned (.slice A (N + 1) cap) ∧ RB w' A (N + 1) (froms N ++ [f])
theorem append_own_done {N : Nat} {f : Int} {base : Nat} {w : World} {v : Value} (h : w.ownsRow base 27 3 v (N + 1) (flatB (froms N) ++ cellsB f)) : ∃ (A : Option Addr) (cap : Nat), v = .slice A (N + 1) cap ∧ RB w A (N + 1) (froms N ++ [f]) := by
  rcases h.2 with ⟨hv, h0⟩ | ⟨g, cap, cur, hv, _⟩
  · omega
  · subst hv
    refine ⟨_, cap, rfl, RB.of_own (cap := cap) (base := base) ?_ (by simp [froms_len])⟩
    rw [flatB_append, show flatB [f] = cellsB f by simp [flatB]]
    exact h

set_option maxHeartbeats 2000000 in
theorem concat_any (bs g1 g2 N cap3 : Nat) (f : Int) (w : World) (hbs : bs < w.heap.size) (s0 : w.cell? ⟨bs, 0, none⟩ = some (.slice none 0 0)) (s1 : w.cell? ⟨bs, 1, none⟩ = some (.slice (some ⟨g1, 0, none⟩) N N)) (s2 : w.cell? ⟨bs, 2, none⟩ = some (.slice (some ⟨g2, 0, none⟩) 1 1))
    (hL : RB w (some ⟨g1, 0, none⟩) N (froms N)) (hO : RB w (some ⟨g2, 0, none⟩) 1 [f]) (hN : N ≤ 1000) :
    Calls Try.prog 8 #[.slice (some ⟨bs, 0, none⟩) 3 cap3] w (ConcatPost N f w) := by
  obtain ⟨i0, hi, hz0, hz1, hz2⟩ := info_parts info27
  go_enter Try.func8, Try.ntmps8
  go_wp2
  go_loop [3, 11] (fun sv iv => (iv = .int .i64 0 ∧ sv = .int .i64 0) ∨ (iv = .int .i64 1 ∧ sv = .int .i64 0) ∨ (iv = .int .i64 2 ∧ sv = .int .i64 N) ∨ (iv = .int .i64 3 ∧ sv = .int .i64 ((N : Int) + 1))) (fun _ iv => 3 - (intOf iv).toNat)
  case atStart => exact .inl ⟨rfl, rfl⟩
  case round =>
    rcases hrel with ⟨rfl, rfl⟩ | ⟨rfl, rfl⟩ | ⟨rfl, rfl⟩ | ⟨rfl, rfl⟩
    · go_wp2
      go_round
      case rel => exact .inr (.inl ⟨rfl, rfl⟩)
      case measure => simp [intOf]
    · go_wp2
      go_round
      case rel => exact .inr (.inr (.inl ⟨rfl, rfl⟩))
      case measure => simp [intOf]
    · go_wp2
      go_round
      case rel => exact .inr (.inr (.inr ⟨rfl, rfl⟩))
      case measure => simp [intOf]
    · go_wp2_with fail
      refine (growB_any (N + 1) _ (by omega) (by omega) (by omega) _).mono ?_
      rintro e w1 ⟨C1, rfl, hown1, hb1⟩
      have HO1 := hide hown1
      have hc0 := (hb1.cell (p := ⟨bs, 0, none⟩) hbs).trans s0
      clear hown1
      go_wp2
      go_loopw [6, 27] (fun v iv wr => ∃ (m : Nat) (xs : List Value), Below w.heap.size w wr ∧ Hid (wr.ownsRow w.heap.size 27 3 v m xs) ∧ ((iv = .int .i64 0 ∧ m = 0 ∧ xs = []) ∨ (iv = .int .i64 1 ∧ m = 0 ∧ xs = []) ∨ (iv = .int .i64 2 ∧ m = N ∧ xs = flatB (froms N)) ∨ (iv = .int .i64 3 ∧ m = N + 1 ∧ xs = flatB (froms N) ++ cellsB f))) (fun _ iv _ => 3 - (intOf iv).toNat)
      case atStart => exact ⟨0, [], hb1, HO1.out, .inl ⟨rfl, rfl, rfl⟩⟩
      clear HO1 hb1 hc0
      case round =>
        obtain ⟨m, xs, hb, HO, hrel⟩ := hrel
        have d0 := (hb.cell (p := ⟨bs, 0, none⟩) hbs).trans s0
        have d1 := (hb.cell (p := ⟨bs, 1, none⟩) hbs).trans s1
        have d2 := (hb.cell (p := ⟨bs, 2, none⟩) hbs).trans s2
        have hbase := hb.size
        rcases hrel with ⟨rfl, rfl, rfl⟩ | ⟨rfl, rfl, rfl⟩ | ⟨rfl, rfl, rfl⟩ | ⟨rfl, rfl, rfl⟩
        · go_wp2_with (at_builtin; refine wpList_append_own_none rfl (.tmp 31) (.tmp 32) _ rfl w.heap.size 27 i0 3 Try.underlying35 hi _ 0 [] rfl HO.out rfl ?_)
          go_roundw
          case rel => exact ⟨0, [], hb, HO.out, .inr (.inl ⟨rfl, rfl, rfl⟩)⟩
          case measure => simp [intOf]
        · have HC := hide (hL.after hb).flat
          have hl : (flatB (froms N)).length = N * 3 := by rw [flatB_len, froms_len]
          have HL := hide hl
          clear hl
          go_wp2_with (at_builtin; refine wpList_append_own_at _ rfl (.tmp 31) (.tmp 32) _ rfl w.heap.size 27 i0 _ 3 32 Try.underlying35 hi hz0 hz1 hz2 rfl (by decide) _ 0 [] rfl HO.out ⟨g1, 0, none⟩ N N (flatB (froms N)) rfl HL.out HC.out (oneB _) (by simp only [maxLen]; omega) (by omega) hbase ?_; intro v' w4 hown4 hgr4 _ _)
          have hb4 : Below w.heap.size w w4 := hb.grown hgr4 hbase (fun k hk => (HO.out.lt k hk).1)
          have HO4 := hide hown4
          clear hown4 hgr4 HC HL
          go_wp2
          go_roundw
          case rel => exact ⟨N, flatB (froms N), hb4, by have := HO4.out; rw [Nat.zero_add] at this; exact this, .inr (.inr (.inl ⟨rfl, rfl, rfl⟩))⟩
          case measure => simp [intOf]
        · have HC := hide (hO.after hb).flat
          go_wp2_with (at_builtin; refine wpList_append_own_at _ rfl (.tmp 31) (.tmp 32) _ rfl w.heap.size 27 i0 _ 3 32 Try.underlying35 hi hz0 hz1 hz2 rfl (by decide) _ m (flatB (froms m)) rfl HO.out ⟨g2, 0, none⟩ 1 1 (flatB [f]) rfl rfl HC.out (oneB _) (by simp only [maxLen]; omega) (by omega) hbase ?_; intro v' w4 hown4 hgr4 _ _)
          have hb4 : Below w.heap.size w w4 := hb.grown hgr4 hbase (fun k hk => (HO.out.lt k hk).1)
          have HO4 := hide hown4
          clear hown4 hgr4 HC
          go_wp2
          go_roundw
          case rel => exact ⟨m + 1, flatB (froms m) ++ cellsB f, hb4, HO4.out, .inr (.inr (.inr ⟨rfl, rfl, rfl⟩))⟩
          case measure => simp [intOf]
        · obtain ⟨A, cap, rfl, hR⟩ := append_own_done HO.out
          have HR := hide hR
          clear hR HO
          go_wp2
          go_ret
          exact ⟨hb, A, cap, rfl, HR.out⟩
end Go.Proofs.Ytdkhpjeiepkldaa
