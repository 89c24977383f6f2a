/-
  OWN. THE WALK of hanseref19.Common.
-/
import Derived.Test.YtnbbacomhomnmaaWalkG
set_option linter.unusedSimpArgs false
set_option linter.unusedVariables false
namespace Go.Proofs.Ytnbbacomhomnmaa
open Go.RowKit

/-- what a first common tick of any lists is -/
def RefSpec (t : Int) (Ls : List (List Sp)) (r : Int × Bool) : Prop :=
  (¬ (0 ≤ t ∧ t < 1099511627776) → r = (0, false)) ∧ ((0 ≤ t ∧ t < 1099511627776) → ¬ (∀ L ∈ Ls, rightS (-1) L = true) → r = (0, false)) ∧
  ((0 ≤ t ∧ t < 1099511627776) → (∀ L ∈ Ls, rightS (-1) L = true) → CSpec t Ls r)
theorem RefSpec.one {t : Int} {Ls : List (List Sp)} {r r' : Int × Bool} (h : RefSpec t Ls r) (h' : RefSpec t Ls r') : r = r' := by
  by_cases h0 : 0 ≤ t ∧ t < 1099511627776
  · by_cases h1 : ∀ L ∈ Ls, rightS (-1) L = true
    · exact (h.2.2 h0 h1).one (h'.2.2 h0 h1)
    · rw [h.2.1 h0 h1, h'.2.1 h0 h1]
  · rw [h.1 h0, h'.1 h0]
theorem RefSpec.common {t : Int} {Ls : List (List Sp)} {D : List Sp} (hp : D.Perm (allE t Ls)) (hs : SortedE D) : RefSpec t Ls (commonD t Ls D) := by
  refine ⟨fun h => ?_, fun h0 h => ?_, fun h0 h => common_law h0 h hp hs⟩
  · unfold commonD; rw [if_pos h]
  · unfold commonD; rw [if_neg (by simpa using h0), if_pos h]
theorem RefSpec.early {t : Int} {Ls : List (List Sp)} (h : ¬ (0 ≤ t ∧ t < 1099511627776)) : RefSpec t Ls (0, false) := ⟨fun _ => rfl, fun _ _ => rfl, fun h0 => absurd h0 h⟩
theorem RefSpec.bad {t : Int} {Ls : List (List Sp)} (h : ¬ ∀ L ∈ Ls, rightS (-1) L = true) : RefSpec t Ls (0, false) := ⟨fun _ => rfl, fun _ _ => rfl, fun _ h1 => absurd h1 h⟩
theorem RefSpec.of {t : Int} {Ls : List (List Sp)} {r : Int × Bool} (h0 : 0 ≤ t ∧ t < 1099511627776) (h1 : ∀ L ∈ Ls, rightS (-1) L = true) (h : CSpec t Ls r) : RefSpec t Ls r :=
  ⟨fun h2 => absurd h0 h2, fun _ h2 => absurd h1 h2, fun _ _ => h⟩

def SeenI (t : Int) (Ls : List (List Sp)) (i : Int) (c : Int) : Prop := 0 ≤ i ∧ (c = t ∨ ∃ L ∈ Ls.take i.toNat, ∃ x ∈ L, c = x.1)
def SeenK (t : Int) (Ls : List (List Sp)) (m : Nat) (L : List Sp) (k : Nat) (c : Int) : Prop := SeenI t Ls m c ∨ ∃ x ∈ L.take k, c = x.1
theorem SeenI.first {t : Int} {Ls : List (List Sp)} : ∀ c, SeenI t Ls 0 c → SeenI t Ls (-1) c ∨ c = t := by
  rintro c ⟨_, h | ⟨L, hL, _⟩⟩
  · exact .inr h
  · simp at hL
theorem SeenK.step {t : Int} {Ls : List (List Sp)} {m : Nat} {L : List Sp} {k : Nat} {x : Sp} (h : L[k]? = some x) : ∀ c, SeenK t Ls m L (k + 1) c → SeenK t Ls m L k c ∨ c = x.1 := by
  rintro c (h1 | ⟨y, hy, h1⟩)
  · exact .inl (.inl h1)
  · rw [take_next h] at hy
    rcases List.mem_append.1 hy with hy | hy
    · exact .inl (.inr ⟨y, hy, h1⟩)
    · rw [List.mem_singleton.1 hy] at h1
      exact .inr h1
theorem SeenI.next {t : Int} {Ls : List (List Sp)} {m : Nat} {L : List Sp} {best : Int} (hL : Ls[m]? = some L) (h : BestInv t Ls (SeenK t Ls m L L.length) best) : BestInv t Ls (SeenI t Ls ((m : Int) + 1)) best := by
  refine ⟨h.1, fun c hc => h.2 c ?_⟩
  obtain ⟨_, hc | ⟨L', hL', x, hx, e⟩⟩ := hc
  · exact .inl ⟨by omega, .inl hc⟩
  · rw [show ((m : Int) + 1).toNat = m + 1 by omega, take_next hL] at hL'
    rcases List.mem_append.1 hL' with hL' | hL'
    · exact .inl ⟨by omega, .inr ⟨L', by simpa using hL', x, hx, e⟩⟩
    · rw [List.mem_singleton.1 hL'] at hx
      exact .inr ⟨x, by rw [List.take_of_length_le (Nat.le_refl _)]; exact hx, e⟩
theorem BestInv.enter {t : Int} {Ls : List (List Sp)} {m : Nat} {L : List Sp} {best : Int} (h : BestInv t Ls (SeenI t Ls m) best) : BestInv t Ls (SeenK t Ls m L 0) best :=
  ⟨h.1, fun c hc => h.2 c (by
    rcases hc with hc | ⟨x, hx, _⟩
    · exact hc
    · simp at hx)⟩
theorem BestInv.start {t : Int} {Ls : List (List Sp)} : BestInv t Ls (SeenI t Ls (-1)) (-1) := ⟨.inl rfl, fun c hc => by have := hc.1; omega⟩
theorem BestInv.done {t best : Int} {Ls : List (List Sp)} {n : Nat} (hn : Ls.length = n) (h : BestInv t Ls (SeenI t Ls n) best) : CSpec t Ls (max best 0, decide (0 ≤ best)) :=
  h.spec fun c hc => ⟨by omega, by
    rcases hc with hc | ⟨L, hL, x, hx, e⟩
    · exact .inl hc
    · exact .inr ⟨L, by rw [show ((n : Int)).toNat = n by omega, List.take_of_length_le (by omega)]; exact hL, x, hx, e⟩⟩

def RefPost (t : Int) (Ls : List (List Sp)) (w : World) (e : Ending) (w' : World) : Prop :=
  Below w.heap.size w w' ∧ ∃ r : Int × Bool, RefSpec t Ls r ∧ e = .returned (.tuple #[.int .i64 r.1, .bool r.2])

set_option maxHeartbeats 4000000 in
theorem refCommon_any (A : Option Addr) (n c : Nat) (Ls : List (List Sp)) (t : Int) (w : World) (h : RLL w A n Ls) (hn : n ≤ 100) :
    Calls Try.prog 15 #[.int .i64 t, .slice A n c] w (RefPost t Ls w) := by
  by_cases hf : 0 ≤ t ∧ t < 1099511627776
  · obtain ⟨f1, f2⟩ := id hf
    have HF := hide hf
    clear hf
    go_enter Try.func15, Try.ntmps15
    go_wp2
    go_loopw [6] (fun i wr => ∃ k : Nat, k ≤ n ∧ i = .int .i64 k ∧ Below w.heap.size w wr ∧ Hid (∀ L ∈ Ls.take k, rightS (-1) L = true)) (fun i _ => n - (intOf i).toNat)
    case atStart => exact ⟨0, by omega, rfl, by go_grown, fun L hL => by simp at hL⟩
    case round =>
      obtain ⟨k, hk, rfl, hb, HR⟩ := hrel
      by_cases hlt : k < n
      · obtain ⟨b, o, L, A', c', rfl, hbl, hL, hc0, hL24, hRS⟩ := h.at_ hlt
        have hwsz := hb.size
        have d0 := (hb.cell (p := ⟨b, _, none⟩) hbl).trans hc0
        have HL := hide hL
        clear hL hc0 h
        go_wp2_with fail
        refine (right_any A' L.length c' L _ (hRS.after hb) (by omega)).mono ?_
        cases hr : rightS (-1) L
        · rintro e w1 ⟨rfl, hb1⟩
          have hbw1 : Below w.heap.size w w1 := bafter hb hwsz hb1
          go_wp2
          go_ret2
          exact ⟨hbw1, (0, false), RefSpec.bad (fun hall => by have := hall L (List.mem_of_getElem? HL.out); rw [hr] at this; cases this), rfl⟩
        · rintro e w1 ⟨rfl, hb1⟩
          have hbw1 : Below w.heap.size w w1 := bafter hb hwsz hb1
          have HRN := hide (show ∀ L' ∈ Ls.take (k + 1), rightS (-1) L' = true from by
            rw [take_next HL.out]
            intro L' hL'
            rcases List.mem_append.1 hL' with h1 | h1
            · exact HR.out L' h1
            · rw [List.mem_singleton.1 h1]; exact hr)
          clear d0
          go_wp2
          go_roundw
          case rel => exact ⟨k + 1, by omega, by go_num, hbw1, HRN.out⟩
          case measure => simp [intOf] <;> omega
      · have HLN := hide h.len
        have hall : Ls.take k = Ls := List.take_of_length_le (by rw [HLN.out]; omega)
        have HR' := hide (show ∀ L ∈ Ls, rightS (-1) L = true by have := HR.out; rwa [hall] at this)
        clear hall
        have h2 := h.after hb
        have HB := hide hb
        clear h hb
        go_wp2
        go_loop [7, 8] (fun bv iv => ∃ i best : Int, -1 ≤ i ∧ i ≤ n ∧ bv = .int .i64 best ∧ iv = .int .i64 i ∧ Hid (BestInv t Ls (SeenI t Ls i) best)) (fun _ iv => (n - intOf iv).toNat)
        case atStart => exact ⟨-1, -1, by omega, by omega, rfl, rfl, BestInv.start⟩
        case round =>
          obtain ⟨i, best, hi1, hi2, rfl, rfl, HI⟩ := hrel
          by_cases hi0 : i < 0
          · obtain rfl : i = -1 := by omega
            have HN := hide (HI.out.step f1 SeenI.first)
            have hlt3 : (-1 : Int) < n := by omega
            go_wp2_with fail
            refine (better_any best t t _ n c Ls _ h2 hn).mono ?_
            rintro e w1 ⟨rfl, rfl⟩
            go_wp2
            go_round
            case rel => exact ⟨0, _, by omega, by omega, rfl, rfl, HN.out⟩
            case measure => simp [intOf] <;> omega
          · obtain ⟨m, rfl⟩ : ∃ m : Nat, i = m := ⟨i.toNat, by omega⟩
            by_cases hm : m < n
            · obtain ⟨b, o, L, A', c', rfl, hbl, hL, hc0, hL24, hRS⟩ := h2.at_ hm
              have HL := hide hL
              clear hL
              go_wp2
              go_loop [7, 9] (fun bv kv => ∃ (k : Nat) (best : Int), k ≤ L.length ∧ bv = .int .i64 best ∧ kv = .int .i64 k ∧ Hid (BestInv t Ls (SeenK t Ls m L k) best)) (fun _ kv => L.length - (intOf kv).toNat)
              case atStart => exact ⟨0, best, by omega, rfl, rfl, HI.out.enter⟩
              case round =>
                obtain ⟨k2, best2, hk2, rfl, rfl, HK⟩ := hrel
                by_cases hlt2 : k2 < L.length
                · obtain ⟨b2, o2, x, rfl, hbl2, hx, c0, c1⟩ := hRS.at_ hlt2
                  have HN := hide (HK.out.step f1 (SeenK.step hx))
                  clear hx
                  go_wp2_with fail
                  refine (better_any best2 x.1 t _ n c Ls _ h2 hn).mono ?_
                  rintro e w1 ⟨rfl, rfl⟩
                  go_wp2
                  go_round
                  case rel => exact ⟨k2 + 1, _, by omega, rfl, by go_num, HN.out⟩
                  case measure => simp [intOf] <;> omega
                · have hk3 : k2 = L.length := by omega
                  have HN := hide (show BestInv t Ls (SeenI t Ls ((m : Int) + 1)) best2 from SeenI.next HL.out (by rw [← hk3]; exact HK.out))
                  clear hk3
                  go_wp2
                  go_round
                  case rel => exact ⟨(m : Int) + 1, best2, by omega, by omega, rfl, rfl, HN.out⟩
                  case measure => simp [intOf] <;> omega
            · have hmn : m = n := by omega
              have HS := hide (RefSpec.of HF.out HR'.out (BestInv.done HLN.out (by rw [← hmn]; exact HI.out)))
              clear hmn
              go_wp2
              go_ret2
              exact ⟨HB.out, _, HS.out, rfl⟩
  · have HF := hide hf
    by_cases h0 : t < 0
    · clear hf
      go_enter Try.func15, Try.ntmps15
      go_wp2
      go_ret2
      exact ⟨Below.refl _ _, (0, false), RefSpec.early HF.out, rfl⟩
    · have h1 : 1099511627776 ≤ t := by omega
      clear hf
      go_enter Try.func15, Try.ntmps15
      go_wp2
      go_ret2
      exact ⟨Below.refl _ _, (0, false), RefSpec.early HF.out, rfl⟩
end Go.Proofs.Ytnbbacomhomnmaa
