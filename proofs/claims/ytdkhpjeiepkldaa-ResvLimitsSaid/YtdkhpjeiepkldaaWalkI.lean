/-
  OWN. THE WALK of profile.New of spans that come one behind the other.
-/
import Derived.Test.YtdkhpjeiepkldaaWalkH
set_option linter.unusedSimpArgs false
set_option linter.unusedVariables false
namespace Go.Proofs.Ytdkhpjeiepkldaa
open Go.RowKit

def cellsB (f : Int) : List Value := [.int .i64 f, .int .i64 (f + 1), K1]
/-- the slice reads as the spans [f, f + 1) of one node each -/
def RB (w : World) (A : Option Addr) (n : Nat) (Fs : List Int) : Prop := Rows3 3 w A n (Fs.map cellsB)
theorem RB.len {w : World} {A : Option Addr} {n : Nat} {Fs : List Int} (h : RB w A n Fs) : Fs.length = n := by simpa using h.1
theorem RB.after {w w' : World} {A : Option Addr} {n : Nat} {Fs : List Int} (h : RB w A n Fs) (hb : Below w.heap.size w w') : RB w' A n Fs := Rows3.after h hb
theorem RB.at_ {w : World} {A : Option Addr} {n : Nat} {Fs : List Int} (h : RB w A n Fs) {i : Nat} (hi : i < n) :
    ∃ b o f, A = some ⟨b, o, none⟩ ∧ b < w.heap.size ∧ Fs[i]? = some f ∧ w.cell? ⟨b, o + i * 3, none⟩ = some (.int .i64 f) ∧ w.cell? ⟨b, o + i * 3 + 1, none⟩ = some (.int .i64 (f + 1)) ∧ w.cell? ⟨b, o + i * 3 + 2, none⟩ = some K1 := by
  obtain ⟨b, o, r, hA, hb, hr, hk, hc⟩ := Rows3.at_ h hi
  rw [List.getElem?_map] at hr
  cases hx : Fs[i]? with
  | none => simp [hx] at hr
  | some x =>
    simp [hx] at hr
    subst hr
    exact ⟨b, o, x, hA, hb, rfl, hc 0 _ rfl, hc 1 _ rfl, hc 2 _ rfl⟩

def NewPost (w : World) (e : Ending) (w' : World) : Prop := Below w.heap.size w w' ∧ ∃ p : Nat, e = .returned (.tuple #[.pointer (some ⟨p, 0, none⟩), .int .i64 0])

set_option maxHeartbeats 1000000 in
theorem new_any (c : Nat) (hc : 1 ≤ c ∧ c ≤ 2) (A : Option Addr) (n cap : Nat) (Fs : List Int) (S : Nat → List St) (w : World) (h : RB w A n Fs) (hn : n ≤ 1000) (hS0 : S 0 = []) (hS : ∀ k f, Fs[k]? = some f → OkT c (S k) f ∧ S (k + 1) = takeP c (S k) f) :
    Calls Try.prog 10 #[C c, .slice A n cap] w (NewPost w) := by
  have hst := store_complex
  have hba : Below w.heap.size w (w.alloc (.cells #[C c] 25)) := (Below.refl _ _).alloc (Nat.le_refl _) _
  have HS := hide hS
  have HS0 := hide hS0
  have hc18 : (w.alloc (.cells #[C c] 25)).cell? ⟨w.heap.size, 0, none⟩ = some (C c) := by
    rw [cell_of_row _ w.heap.size 0 _ _ (0, 0) (heap_alloc_new w _)]; rfl
  have H18 := hide (sum_any w.heap.size c 1 hc.2 (w.alloc (.cells #[C c] 25)) hc18)
  clear hS hS0 hc18
  go_enter Try.func10, Try.ntmps10
  go_wp2_with fail
  refine H18.out.mono ?_
  rintro e w1 ⟨rfl, rfl⟩
  have hP0 : Prof w.heap.size ((w.alloc (.cells #[C c] 25)).alloc (.cells #[C c, .slice none 0 0] 56)) (w.heap.size + 1) c (.slice none 0 0) (S 0) := by
    rw [HS0.out]
    refine ⟨by omega, ?_, World.ownsRow_nil _ _ _ _, by simp [Value.ownBlock]⟩
    have := heap_alloc_new (w.alloc (.cells #[C c] 25)) (.cells #[C c, .slice none 0 0] 56)
    rw [show (w.alloc (.cells #[C c] 25)).heap.size = w.heap.size + 1 from by simp] at this
    exact this
  have hb0 : Below w.heap.size w ((w.alloc (.cells #[C c] 25)).alloc (.cells #[C c, .slice none 0 0] 56)) := hba.alloc (by simp) _
  have HP0 := hide hP0
  have HB0 := hide hb0
  clear H18 hba hP0 hb0
  go_wp2
  go_loopw [25] (fun i wr => ∃ (k : Nat) (v : Value), k ≤ n ∧ i = .int .i64 k ∧ Below w.heap.size w wr ∧ Hid (Prof w.heap.size wr (w.heap.size + 1) c v (S k))) (fun i _ => n - (intOf i).toNat)
  case atStart => exact ⟨0, .slice none 0 0, by omega, rfl, HB0.out, HP0.out⟩
  clear HP0 HB0
  case round =>
    obtain ⟨k, v, hk, rfl, hb, HP⟩ := hrel
    by_cases hlt : k < n
    · obtain ⟨b, o, f, rfl, hbl, hf, c0, c1, c2⟩ := (h.after hb).at_ hlt
      obtain ⟨ok, hnext⟩ := HS.out k f hf
      have hba : Below wr.heap.size wr (wr.alloc (.cells #[.int .i64 f, .int .i64 (f + 1), K1] 27)) := (Below.refl _ _).alloc (Nat.le_refl _) _
      have H19 := hide (take_any w.heap.size (w.heap.size + 1) c v (S k) f _ (HP.out.below hba) ok)
      have HN := hide hnext
      have hbw := hb.alloc hb.size (.cells #[.int .i64 f, .int .i64 (f + 1), K1] 27)
      clear ok hnext hf hba h
      go_wp2_with fail
      refine H19.out.mono ?_
      rintro e w2 ⟨rfl, hb2, v2, h2⟩
      have H2 := hide h2
      have hb3 := hbw.trans hb2
      clear h2 hb2 hbw H19 c0 c1 c2
      go_wp2
      go_roundw
      case rel => exact ⟨k + 1, v2, by omega, by go_num, hb3, by show Prof _ _ _ _ _ _; rw [HN.out]; exact H2.out⟩
      case measure => simp [intOf] <;> omega
    · go_wp2
      go_ret2
      exact ⟨hb, w.heap.size + 1, rfl⟩
end Go.Proofs.Ytdkhpjeiepkldaa
