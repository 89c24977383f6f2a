/-
  OWN. THE WALKS of sort.Search at profile's closure, behind, ahead, end, all, may.
-/
import Derived.Test.YtdkhpjeiepkldaaWalkB
set_option linter.unusedSimpArgs false
set_option linter.unusedVariables false
namespace Go.Proofs.Ytdkhpjeiepkldaa
open Go.RowKit

set_option maxHeartbeats 1000000 in
theorem search_any (p c : Nat) (A : Option Addr) (cap : Nat) (L : List St) (t : Int) (b2 b3 : Nat) (w : World) (h : RP w p c A cap L) (h2 : w.cell? ⟨b2, 0, none⟩ = some (.pointer (some ⟨p, 0, none⟩)))
    (h3 : w.cell? ⟨b3, 0, none⟩ = some (.int .i64 t)) (hb2 : b2 < w.heap.size) (hb3 : b3 < w.heap.size) (hL : ∀ x ∈ L, x.1 ≤ t) (hn : L.length ≤ 1000) :
    Calls Try.prog 45 #[.int .i64 L.length, .func (.func 46) #[] #[.pointer (some ⟨b2, 0, none⟩), .pointer (some ⟨b3, 0, none⟩)]] w fun e w' => e = .returned (.int .i64 L.length) ∧ Below w.heap.size w w' := by
  go_enter Try.func45, Try.ntmps45
  go_wp2
  go_loopw [5, 6] (fun i j wr => ∃ k : Nat, k ≤ L.length ∧ i = .int .i64 k ∧ j = .int .i64 L.length ∧ Below w.heap.size w wr) (fun i _ _ => L.length - (intOf i).toNat)
  case atStart => exact ⟨0, by omega, rfl, rfl, by go_grown⟩
  case round =>
    obtain ⟨k, hk, rfl, rfl, hb⟩ := hrel
    by_cases hlt : k < L.length
    · go_wp2_with fail
      have hm : ((k : Int) + (L.length : Int)) / 2 = (((k + L.length) / 2 : Nat) : Int) := by omega
      have hm1 : k ≤ (k + L.length) / 2 := by omega
      have hm2 : (k + L.length) / 2 < L.length := by omega
      rw [hm]
      obtain ⟨m, hmm⟩ : ∃ m, m = (k + L.length) / 2 := ⟨_, rfl⟩
      rw [← hmm] at hm1 hm2 ⊢
      clear hm hmm
      refine (behindClo_any p c A cap L t b2 b3 m _ (h.after hb) ((hb.cell (p := ⟨b2, _, none⟩) hb2).trans h2) ((hb.cell (p := ⟨b3, _, none⟩) hb3).trans h3) hL hm2).mono ?_
      rintro e w1 ⟨rfl, hb1⟩
      have hb4 := bafter hb hb.size hb1
      go_wp2
      go_roundw
      case rel => exact ⟨m + 1, by omega, by go_num, rfl, hb4⟩
      case measure => simp [intOf] <;> omega
    · have hkn : k = L.length := by omega
      subst hkn
      go_wp2
      go_ret
      exact ⟨rfl, hb⟩

set_option maxHeartbeats 1000000 in
theorem behind_any (p c : Nat) (A : Option Addr) (cap : Nat) (L : List St) (t : Int) (w : World) (h : RP w p c A cap L) (hL : ∀ x ∈ L, x.1 ≤ t) (hn : L.length ≤ 1000) :
    Calls Try.prog 41 #[.pointer (some ⟨p, 0, none⟩), .int .i64 t] w fun e w' => e = .returned (.int .i64 L.length) ∧ Below w.heap.size w w' := by
  have hmf : ∀ (fn : Fn) (first cap : Array Value) (w : World), (Instr.makeFunc fn first cap).run Try.prog w = .ok (.func fn first cap) w := fun _ _ _ _ => rfl
  have k1 := h.c1
  have kp := h.hp
  obtain ⟨w2, hw2⟩ : ∃ w2, w2 = (w.alloc (.cells #[.pointer (some ⟨p, 0, none⟩)] 40)).alloc (.cells #[.int .i64 t] 3) := ⟨_, rfl⟩
  have hbw : Below w.heap.size w w2 := by rw [hw2]; exact ((Below.refl _ _).alloc (Nat.le_refl _) _).alloc (by simp) _
  have hsz : w2.heap.size = w.heap.size + 2 := by rw [hw2]; simp
  have f2 : w2.cell? ⟨w.heap.size, 0, none⟩ = some (.pointer (some ⟨p, 0, none⟩)) := by rw [hw2]; go_simp
  have f3 : w2.cell? ⟨w.heap.size + 1, 0, none⟩ = some (.int .i64 t) := by rw [hw2]; go_simp
  have H := hide (search_any p c A cap L t w.heap.size (w.heap.size + 1) w2 (h.after hbw) f2 f3 (by omega) (by omega) hL hn)
  have HB := hide hbw
  have HW := hide hw2
  clear f2 f3 hsz hbw hw2 h
  go_enter Try.func41, Try.ntmps41
  go_wp2_with fail
  rw [← HW.out]
  refine H.out.mono ?_
  rintro e w1 ⟨rfl, hb1⟩
  have hb4 := bafter HB.out HB.out.size hb1
  go_wp2
  go_ret
  exact ⟨rfl, hb4⟩

theorem last_none {L : List St} (h : L.length = 0) (c : Nat) : aheadP c L = c := by
  rw [List.eq_nil_of_length_eq_zero h]; rfl
theorem last_some {L : List St} {x : St} (h : L[L.length - 1]? = some x) (c : Nat) : aheadP c L = x.2 := by
  unfold aheadP
  rw [List.getLast?_eq_getElem?, h]
set_option maxHeartbeats 1000000 in
theorem ahead_any (p c : Nat) (A : Option Addr) (cap : Nat) (L : List St) (w : World) (h : RP w p c A cap L) (hn : L.length ≤ 1000) :
    Calls Try.prog 42 #[.pointer (some ⟨p, 0, none⟩), .int .i64 L.length] w fun e w' => e = .returned (C (aheadP c L)) ∧ w = w' := by
  have k0 := h.c0
  have k1 := h.c1
  by_cases h0 : L.length = 0
  · rw [last_none h0]
    have hi0 : ((L.length : Int) == 0) = true := by simp [h0]
    clear h
    go_enter Try.func42, Try.ntmps42
    go_wp2
    go_ret
    exact ⟨rfl, rfl⟩
  · obtain ⟨b, o, x, rfl, hbl, hx, c0, c1⟩ := h.at_ (i := L.length - 1) (by omega)
    rw [last_some hx]
    have hi0 : ((L.length : Int) == 0) = false := beq_eq_false_iff_ne.2 (by omega)
    have hi1 : ((L.length : Int) - 1).toNat = L.length - 1 := by omega
    have hi2 : (0 : Int) ≤ (L.length : Int) - 1 := by omega
    have hi3 : (L.length : Int) - 1 < (L.length : Int) := by omega
    clear h hx
    go_enter Try.func42, Try.ntmps42
    go_wp2
    go_ret
    exact ⟨rfl, rfl⟩
set_option maxHeartbeats 1000000 in
theorem end_any (p c : Nat) (A : Option Addr) (cap : Nat) (L : List St) (w : World) (h : RP w p c A cap L) :
    Calls Try.prog 43 #[.pointer (some ⟨p, 0, none⟩), .int .i64 L.length] w fun e w' => e = .returned (.int .i64 1099511627776) ∧ w = w' := by
  have k1 := h.c1
  clear h
  go_enter Try.func43, Try.ntmps43
  go_wp2
  go_ret
  exact ⟨rfl, rfl⟩

set_option maxHeartbeats 1000000 in
theorem all_any (p c : Nat) (A : Option Addr) (cap : Nat) (L : List St) (f t : Int) (b : Nat) (w : World) (h : RP w p c A cap L) (hL : ∀ x ∈ L, x.1 ≤ f) (hn : L.length ≤ 1000) (ht : t ≤ 1099511627776)
    (ha : 1 ≤ aheadP c L ∧ aheadP c L ≤ 2) (hbl : b < w.heap.size) (hb : w.cell? ⟨b, 2, none⟩ = some K1) :
    Calls Try.prog 32 #[.pointer (some ⟨p, 0, none⟩), .int .i64 f, .int .i64 t, .func (.func 33) #[] #[.pointer (some ⟨b, 0, none⟩)]] w fun e w' => e = .returned (.bool true) ∧ Below w.heap.size w w' := by
  go_enter Try.func32, Try.ntmps32
  go_wp2_with fail
  refine (behind_any p c A cap L f _ h hL hn).mono ?_
  rintro e w1 ⟨rfl, hb1⟩
  have h1 := h.after hb1
  have hB := (hb1.cell (p := ⟨b, _, none⟩) hbl).trans hb
  clear h hb
  go_wp2_with fail
  refine (ahead_any p c A cap L _ h1 hn).mono ?_
  obtain ⟨a, haa⟩ : ∃ a, a = aheadP c L := ⟨_, rfl⟩
  rw [← haa] at ha ⊢
  clear haa
  rintro e w2 ⟨rfl, rfl⟩
  go_wp2_with fail
  refine (mayClo_any a b ha _ hB).mono ?_
  rintro e w2 ⟨rfl, rfl⟩
  clear hB ha
  go_wp2
  go_loop [9] (fun i => i = .int .i64 L.length) (fun _ => 0)
  case atStart => exact rfl
  case round =>
    obtain rfl := hrel
    go_wp2_with fail
    refine (end_any p c A cap L _ h1).mono ?_
    rintro e w2 ⟨rfl, rfl⟩
    go_wp2
    go_ret
    exact ⟨rfl, hb1⟩

set_option maxHeartbeats 1000000 in
theorem may_any (p c : Nat) (A : Option Addr) (cap : Nat) (L : List St) (f t : Int) (w : World) (h : RP w p c A cap L) (hL : ∀ x ∈ L, x.1 ≤ f) (hn : L.length ≤ 1000) (ht : 0 ≤ f ∧ f < t ∧ t ≤ 1099511627776)
    (ha : 1 ≤ aheadP c L ∧ aheadP c L ≤ 2) :
    Calls Try.prog 25 #[.pointer (some ⟨p, 0, none⟩), .agg #[.int .i64 f, .int .i64 t, K1]] w fun e w' => e = .returned (.int .i64 0) ∧ Below w.heap.size w w' := by
  have hmf : ∀ (fn : Fn) (first cap : Array Value) (w : World), (Instr.makeFunc fn first cap).run Try.prog w = .ok (.func fn first cap) w := fun _ _ _ _ => rfl
  go_enter Try.func25, Try.ntmps25
  go_wp2_with fail
  refine (right27_any f t _ ht).mono ?_
  rintro e w1 ⟨rfl, hb1⟩
  have hnew : ∀ j, w1.cell? ⟨w.heap.size, j, none⟩ = (#[.int .i64 f, .int .i64 t, K1] : Array Value)[j]? := fun j => BW.new (W := w) (t := 27) ⟨w1, hb1⟩ j
  have f0 : w1.cell? ⟨w.heap.size, 0, none⟩ = some (.int .i64 f) := hnew 0
  have f1 : w1.cell? ⟨w.heap.size, 1, none⟩ = some (.int .i64 t) := hnew 1
  have f2 : w1.cell? ⟨w.heap.size, 2, none⟩ = some K1 := hnew 2
  have hw1 : Below w.heap.size w w1 := ((Below.refl _ _).alloc (Nat.le_refl _) _).trans (hb1.mono (by simp))
  have hs1 : w.heap.size < w1.heap.size := by have := hb1.size; simp at this; omega
  have h1 := h.after hw1
  clear hnew h hb1
  go_wp2_with fail
  refine (all_any p c A cap L f t w.heap.size _ h1 hL hn ht.2.2 ha hs1 f2).mono ?_
  rintro e w2 ⟨rfl, hb2⟩
  have hw2 := bafter hw1 hw1.size hb2
  go_wp2
  go_ret
  exact ⟨rfl, hw2⟩
end Go.Proofs.Ytdkhpjeiepkldaa
