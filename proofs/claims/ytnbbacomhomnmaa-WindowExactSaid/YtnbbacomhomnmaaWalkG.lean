/-
  OWN. THE WALK of hanseref19.better, and the plain law of its fold.
-/
import Derived.Test.YtnbbacomhomnmaaSweep
set_option linter.unusedSimpArgs false
set_option linter.unusedVariables false
namespace Go.Proofs.Ytnbbacomhomnmaa
open Go.RowKit

theorem RLL.below {w w' : World} {A : Option Addr} {n B : Nat} {Ls : List (List Sp)} (h : RLL w A n Ls) (hb : Below B w w') (hB : w.heap.size ≤ B) : RLL w' A n Ls :=
  ⟨h.1, fun hn => by
    obtain ⟨b, o, e, hlt, hc⟩ := h.2 hn
    refine ⟨b, o, e, Nat.lt_of_lt_of_le hlt hb.size, fun i L hL => ?_⟩
    obtain ⟨A', c', h1, h2, h3⟩ := hc i L hL
    exact ⟨A', c', by rw [hb.cell (p := ⟨b, _, none⟩) (by show b < B; omega)]; exact h1, h2, h3.below hb hB⟩⟩
theorem RLL.after {w w' : World} {A : Option Addr} {n : Nat} {Ls : List (List Sp)} (h : RLL w A n Ls) (hb : Below w.heap.size w w') : RLL w' A n Ls := h.below hb (Nat.le_refl _)

def betterP (best s t : Int) (Ls : List (List Sp)) : Int := if s < t ∨ (0 ≤ best ∧ best ≤ s) then best else if allIn s Ls = true then s else best
theorem betterP_keep {best s t : Int} {Ls : List (List Sp)} (h : s < t ∨ (0 ≤ best ∧ best ≤ s)) : betterP best s t Ls = best := by unfold betterP; rw [if_pos h]
theorem betterP_no {best s t : Int} {Ls : List (List Sp)} (h : allIn s Ls = false) : betterP best s t Ls = best := by
  unfold betterP
  split
  · rfl
  · rw [if_neg (by rw [h]; decide)]
theorem betterP_new {best s t : Int} {Ls : List (List Sp)} (h0 : ¬ (s < t ∨ (0 ≤ best ∧ best ≤ s))) (h : allIn s Ls = true) : betterP best s t Ls = s := by
  unfold betterP; rw [if_neg h0, if_pos h]
theorem allIn_cons {s : Int} {L : List Sp} {Ls : List (List Sp)} : allIn s (L :: Ls) = (inS s L && allIn s Ls) := rfl
theorem allIn_drop {s : Int} {Ls : List (List Sp)} {k : Nat} {L : List Sp} (h : Ls[k]? = some L) : allIn s (Ls.drop k) = (inS s L && allIn s (Ls.drop (k + 1))) := by rw [drop_at h]; rfl

set_option maxHeartbeats 1000000 in
theorem better_any (best s t : Int) (A : Option Addr) (n c : Nat) (Ls : List (List Sp)) (w : World) (h : RLL w A n Ls) (hn : n ≤ 100) :
    Calls Try.prog 22 #[.int .i64 best, .int .i64 s, .int .i64 t, .slice A n c] w fun e w' => e = .returned (.int .i64 (betterP best s t Ls)) ∧ w = w' := by
  by_cases hg : s < t ∨ (0 ≤ best ∧ best ≤ s)
  · have HN := hide (betterP_keep (Ls := Ls) hg)
    go_enter Try.func22, Try.ntmps22
    by_cases h1 : s < t
    · clear hg
      go_wp2
      go_ret
      exact ⟨ret_int HN.out.symm, rfl⟩
    · have h2 : 0 ≤ best ∧ best ≤ s := hg.resolve_left h1
      obtain ⟨h2, h3⟩ := h2
      clear hg
      go_wp2
      go_ret
      exact ⟨ret_int HN.out.symm, rfl⟩
  · have HG := hide hg
    have HGO : Hid (¬ (0 ≤ best ∧ best ≤ s)) := fun h => hg (.inr h)
    have h1 : ¬ s < t := fun h => hg (.inl h)
    clear hg
    go_enter Try.func22, Try.ntmps22
    go_wp2
    all_goals first | exact absurd (show 0 ≤ best ∧ best ≤ s from ⟨by omega, by omega⟩) HGO.out | skip
    all_goals (
      go_loop [9] (fun i => ∃ k : Nat, k ≤ n ∧ i = .int .i64 k ∧ Hid (allIn s Ls = allIn s (Ls.drop k))) (fun i => n - (intOf i).toNat)
      case atStart => exact ⟨0, by omega, rfl, rfl⟩
      case round =>
        obtain ⟨k, hk, rfl, HR⟩ := hrel
        by_cases hlt : k < n
        · obtain ⟨b, o, L, A', c', rfl, hbl, hL, hc0, hL24, hRS⟩ := h.at_ hlt
          have HX := hide (allIn_drop (s := s) hL)
          clear hL h
          go_wp2_with fail
          refine (lies_any s A' L.length c' L _ hRS (by omega)).mono ?_
          cases hi : inS s L
          · have HN := hide (show betterP best s t Ls = best from betterP_no (by rw [HR.out, HX.out, hi]; rfl))
            rintro e w1 ⟨rfl, rfl⟩
            go_wp2
            go_ret
            exact ⟨ret_int HN.out.symm, rfl⟩
          · have HN := hide (show allIn s Ls = allIn s (Ls.drop (k + 1)) by rw [HR.out, HX.out, hi]; rfl)
            rintro e w1 ⟨rfl, rfl⟩
            go_wp2
            go_round
            case rel => exact ⟨k + 1, by omega, by go_num, HN⟩
            case measure => simp [intOf]; omega
        · have HN := hide (show betterP best s t Ls = s from betterP_new HG.out (by rw [HR.out, List.drop_eq_nil_of_le (by rw [h.len]; omega)]; rfl))
          go_wp2
          go_ret
          exact ⟨ret_int HN.out.symm, rfl⟩)

/-- what the best one is, when the candidates 'seen' were looked at -/
def BestInv (t : Int) (Ls : List (List Sp)) (seen : Int → Prop) (best : Int) : Prop :=
  (best = -1 ∨ (0 ≤ best ∧ t ≤ best ∧ allIn best Ls = true)) ∧ ∀ c, seen c → t ≤ c → allIn c Ls = true → 0 ≤ best ∧ best ≤ c
theorem BestInv.step {t best s : Int} {Ls : List (List Sp)} {seen seen' : Int → Prop} (ht : 0 ≤ t) (h : BestInv t Ls seen best) (hs : ∀ c, seen' c → seen c ∨ c = s) : BestInv t Ls seen' (betterP best s t Ls) := by
  by_cases hg : s < t ∨ (0 ≤ best ∧ best ≤ s)
  · rw [betterP_keep hg]
    refine ⟨h.1, fun c hc htc hall => ?_⟩
    rcases hs c hc with hc | rfl
    · exact h.2 c hc htc hall
    · rcases hg with hg | hg
      · omega
      · exact hg
  · cases hall : allIn s Ls
    · rw [betterP_no hall]
      refine ⟨h.1, fun c hc htc hc2 => ?_⟩
      rcases hs c hc with hc | rfl
      · exact h.2 c hc htc hc2
      · rw [hall] at hc2; cases hc2
    · rw [betterP_new hg hall]
      refine ⟨.inr ⟨by omega, by omega, hall⟩, fun c hc htc hc2 => ?_⟩
      rcases hs c hc with hc | rfl
      · have := h.2 c hc htc hc2
        omega
      · omega

/-- a tick that lies in each: a candidate no later does -/
theorem cand {t s : Int} (hts : t ≤ s) : ∀ {Ls : List (List Sp)}, allIn s Ls = true → ∃ c, t ≤ c ∧ c ≤ s ∧ (c = t ∨ ∃ L ∈ Ls, ∃ x ∈ L, c = x.1) ∧ ∀ L ∈ Ls, ∃ x ∈ L, x.1 ≤ c ∧ s < x.2
  | [], _ => ⟨t, by omega, hts, .inl rfl, by simp⟩
  | L :: Ls, h => by
    rw [allIn_cons, Bool.and_eq_true] at h
    obtain ⟨c, h1, h2, h3, h4⟩ := cand hts h.2
    obtain ⟨x, hx, hx1, hx2⟩ := inS_iff.1 h.1
    by_cases hc : x.1 ≤ c
    · refine ⟨c, h1, h2, ?_, ?_⟩
      · rcases h3 with h3 | ⟨L', hL', h3⟩
        · exact .inl h3
        · exact .inr ⟨L', by simp [hL'], h3⟩
      · intro L' hL'
        rcases List.mem_cons.1 hL' with rfl | hL'
        · exact ⟨x, hx, hc, hx2⟩
        · exact h4 L' hL'
    · refine ⟨x.1, by omega, hx1, .inr ⟨L, by simp, x, hx, rfl⟩, ?_⟩
      intro L' hL'
      rcases List.mem_cons.1 hL' with rfl | hL'
      · exact ⟨x, hx, Int.le_refl _, hx2⟩
      · obtain ⟨y, hy, hy1, hy2⟩ := h4 L' hL'
        exact ⟨y, hy, by omega, hy2⟩

/-- what the first common tick is -/
def CSpec (t : Int) (Ls : List (List Sp)) (r : Int × Bool) : Prop :=
  (r.2 = true → t ≤ r.1 ∧ allIn r.1 Ls = true ∧ ∀ s, t ≤ s → s < r.1 → allIn s Ls = false) ∧ (r.2 = false → r.1 = 0 ∧ ∀ s, t ≤ s → allIn s Ls = false)
theorem CSpec.one {t : Int} {Ls : List (List Sp)} {r r' : Int × Bool} (h : CSpec t Ls r) (h' : CSpec t Ls r') : r = r' := by
  obtain ⟨a, b⟩ := r
  obtain ⟨a', b'⟩ := r'
  cases b <;> cases b'
  · have h1 := (h.2 rfl).1
    have h2 := (h'.2 rfl).1
    simp only at h1 h2
    rw [h1, h2]
  · have h1 := (h.2 rfl).2
    obtain ⟨h2, h3, _⟩ := h'.1 rfl
    simp only at h1 h2 h3
    rw [h1 _ h2] at h3; cases h3
  · have h1 := (h'.2 rfl).2
    obtain ⟨h2, h3, _⟩ := h.1 rfl
    simp only at h1 h2 h3
    rw [h1 _ h2] at h3; cases h3
  · obtain ⟨h1, h2, h3⟩ := h.1 rfl
    obtain ⟨k1, k2, k3⟩ := h'.1 rfl
    simp only at h1 h2 h3 k1 k2 k3
    have e : a = a' := by
      by_cases hlt : a < a'
      · rw [k3 a h1 hlt] at h2; cases h2
      · by_cases hgt : a' < a
        · rw [h3 a' k1 hgt] at k2; cases k2
        · omega
    rw [e]
theorem BestInv.spec {t best : Int} {Ls : List (List Sp)} {seen : Int → Prop} (h : BestInv t Ls seen best) (hall : ∀ c, (c = t ∨ ∃ L ∈ Ls, ∃ x ∈ L, c = x.1) → seen c) : CSpec t Ls (max best 0, decide (0 ≤ best)) := by
  have key : ∀ s, t ≤ s → allIn s Ls = true → 0 ≤ best ∧ best ≤ s := by
    intro s hs hin
    obtain ⟨c, h1, h2, h3, h4⟩ := cand hs hin
    have hc : allIn c Ls = true := by
      unfold allIn
      rw [List.all_eq_true]
      intro L hL
      obtain ⟨x, hx, hx1, hx2⟩ := h4 L hL
      exact inS_iff.2 ⟨x, hx, hx1, by omega⟩
    have := h.2 c (hall c h3) h1 hc
    omega
  constructor
  · intro h0
    have h0 : 0 ≤ best := by simpa using h0
    have e : max best 0 = best := by omega
    simp only [e]
    rcases h.1 with h1 | ⟨_, h1, h2⟩
    · omega
    · refine ⟨h1, h2, fun s hs hlt => ?_⟩
      cases hb : allIn s Ls
      · rfl
      · have := key s hs hb; omega
  · intro h0
    have h0 : ¬ 0 ≤ best := by simpa using h0
    refine ⟨by simp only; omega, fun s hs => ?_⟩
    cases hb : allIn s Ls
    · rfl
    · have := key s hs hb; omega
end Go.Proofs.Ytnbbacomhomnmaa
