/-
  OWN. THE WALKS of profile's reading functions: right, may's closure, behind, ahead, end, all, may, where nothing stands behind the span's beginning.
-/
import Derived.Test.YtdkhpjeiepkldaaWalkA
import Derived.BigRegion
set_option linter.unusedSimpArgs false
set_option linter.unusedVariables false
namespace Go.Proofs.Ytdkhpjeiepkldaa
open Go.RowKit

abbrev St := Int × Nat
def cellsT (x : St) : List Value := [.int .i64 x.1, C x.2]
abbrev K1 : Value := .complex .f64 4607182418800017408 0
/-- what is free behind all steps -/
def aheadP (c : Nat) (L : List St) : Nat := match L.getLast? with | none => c | some x => x.2

/-- the profile at block p reads so -/
structure RP (w : World) (p c : Nat) (A : Option Addr) (cap : Nat) (L : List St) : Prop where
  hp : p < w.heap.size
  c0 : w.cell? ⟨p, 0, none⟩ = some (C c)
  c1 : w.cell? ⟨p, 1, none⟩ = some (.slice A L.length cap)
  rows : Rows3 2 w A L.length (L.map cellsT)
theorem RP.after {w w' : World} {p c : Nat} {A : Option Addr} {cap : Nat} {L : List St} (h : RP w p c A cap L) (hb : Below w.heap.size w w') : RP w' p c A cap L :=
  ⟨Nat.lt_of_lt_of_le h.hp hb.size, (hb.cell (p := ⟨p, _, none⟩) h.hp).trans h.c0, (hb.cell (p := ⟨p, _, none⟩) h.hp).trans h.c1, h.rows.after hb⟩
theorem RP.at_ {w : World} {p c : Nat} {A : Option Addr} {cap : Nat} {L : List St} (h : RP w p c A cap L) {i : Nat} (hi : i < L.length) :
    ∃ b o x, A = some ⟨b, o, none⟩ ∧ b < w.heap.size ∧ L[i]? = some x ∧ w.cell? ⟨b, o + i * 2, none⟩ = some (.int .i64 x.1) ∧ w.cell? ⟨b, o + i * 2 + 1, none⟩ = some (C x.2) := by
  obtain ⟨b, o, r, hA, hb, hr, hk, hc⟩ := Rows3.at_ h.rows hi
  rw [List.getElem?_map] at hr
  cases hx : L[i]? with
  | none => simp [hx] at hr
  | some x =>
    simp [hx] at hr
    subst hr
    exact ⟨b, o, x, hA, hb, rfl, hc 0 _ rfl, hc 1 _ rfl⟩

set_option maxHeartbeats 400000 in
theorem right27_any (f t : Int) (w : World) (h : 0 ≤ f ∧ f < t ∧ t ≤ 1099511627776) :
    Calls Try.prog 31 #[.agg #[.int .i64 f, .int .i64 t, K1]] w fun e w' => e = .returned (.int .i64 0) ∧ Below w.heap.size w w' := by
  obtain ⟨h1, h2, h3⟩ := h
  go_enter Try.func31, Try.ntmps31
  go_wp2_with fail
  refine (right_any 1 (by omega) _).mono ?_
  rintro e w1 ⟨rfl, rfl⟩
  go_wp2
  go_ret
  exact ⟨rfl, by go_grown⟩

set_option maxHeartbeats 400000 in
theorem mayClo_any (n b : Nat) (hn : 1 ≤ n ∧ n ≤ 2) (w : World) (h : w.cell? ⟨b, 2, none⟩ = some K1) :
    Calls Try.prog 33 #[C n, .pointer (some ⟨b, 0, none⟩)] w fun e w' => e = .returned (.bool true) ∧ w = w' := by
  go_enter Try.func33, Try.ntmps33
  go_wp2_with fail
  refine (fits_any n hn _).mono ?_
  rintro e w1 ⟨rfl, rfl⟩
  go_wp2
  go_ret
  exact ⟨rfl, rfl⟩

set_option maxHeartbeats 400000 in
theorem behindClo_any (p c : Nat) (A : Option Addr) (cap : Nat) (L : List St) (t : Int) (b2 b3 : Nat) (i : Nat) (w : World) (h : RP w p c A cap L) (h2 : w.cell? ⟨b2, 0, none⟩ = some (.pointer (some ⟨p, 0, none⟩)))
    (h3 : w.cell? ⟨b3, 0, none⟩ = some (.int .i64 t)) (hL : ∀ x ∈ L, x.1 ≤ t) (hi : i < L.length) :
    Calls Try.prog 46 #[.int .i64 i, .pointer (some ⟨b2, 0, none⟩), .pointer (some ⟨b3, 0, none⟩)] w fun e w' => e = .returned (.bool false) ∧ Below w.heap.size w w' := by
  obtain ⟨b, o, x, rfl, hbl, hx, c0, c1⟩ := h.at_ hi
  have hle := hL x (List.mem_of_getElem? hx)
  have k1 := h.c1
  have e2 : (0 : Int) ≤ (i : Int) := by omega
  have e3 : (i : Int) < (L.length : Int) := by omega
  have hd : decide (t < x.1) = false := decide_eq_false (by omega)
  clear hx h hL
  go_enter Try.func46, Try.ntmps46
  go_wp2
  go_quiet (fail)
  go_wp2
  go_ret
  exact ⟨rfl, below_drewN (Below.refl _ _) _⟩
end Go.Proofs.Ytdkhpjeiepkldaa
