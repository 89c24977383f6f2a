/-
  OWN. THE WALKS of profile's Take and New, where nothing stands behind what is taken.
-/
import Derived.Test.YtdkhpjeiepkldaaWalkG
set_option linter.unusedSimpArgs false
set_option linter.unusedVariables false
namespace Go.Proofs.Ytdkhpjeiepkldaa
open Go.RowKit

/-- what stays ahead of the span's beginning -/
def keepP (L : List St) (f : Int) : List St := match L.getLast? with | none => L | some x => if x.1 = f then L.dropLast else L
def takeP (c : Nat) (L : List St) (f : Int) : List St := filterF c (keepP L f ++ [(f, aheadP c L - 1), (f + 1, aheadP c L)])
structure OkT (c : Nat) (L : List St) (f : Int) : Prop where
  f0 : 0 ≤ f
  f1 : f + 1 < 1099511627776
  hL : ∀ x ∈ L, x.1 ≤ f ∧ x.2 ≤ 2
  ha : 1 ≤ aheadP c L ∧ aheadP c L ≤ 2
  hc : c ≤ 2
  hn : L.length ≤ 900
theorem keepP_mem {L : List St} {f : Int} {x : St} (h : x ∈ keepP L f) : x ∈ L := by
  unfold keepP at h
  split at h
  · exact h
  · split at h
    · exact List.dropLast_subset L h
    · exact h
theorem keepP_len (L : List St) (f : Int) : (keepP L f).length ≤ L.length := by
  unfold keepP
  split
  · exact Nat.le_refl _
  · split
    · rw [List.length_dropLast]; omega
    · exact Nat.le_refl _
theorem split_any (base p c : Nat) (v : Value) (L : List St) (f : Int) (w : World) (h : Prof base w p c v L) (hL : ∀ x ∈ L, x.1 ≤ f) (hn : L.length ≤ 900) :
    Calls Try.prog 35 #[.pointer (some ⟨p, 0, none⟩), .int .i64 f] w (SplitPost base w p c (keepP L f ++ [(f, aheadP c L)]) (keepP L f).length) := by
  cases hl : L.getLast? with
  | none =>
    have e1 : keepP L f = L := by unfold keepP; rw [hl]
    rw [e1]
    exact split_new base p c v L f w h hL (by rw [hl]; simp) (by omega)
  | some x =>
    by_cases hx : x.1 = f
    · have e1 : keepP L f = L.dropLast := by unfold keepP; rw [hl]; simp [hx]
      have hxx : x = (f, aheadP c L) := by
        unfold aheadP; rw [hl]
        exact Prod.ext hx rfl
      have e2 : L = L.dropLast ++ [(f, aheadP c L)] := by
        rw [← hxx]
        obtain ⟨ys, hys⟩ := List.getLast?_eq_some_iff.1 hl
        rw [hys, List.dropLast_concat]
      have hd : L.dropLast.length ≤ 900 := by rw [List.length_dropLast]; omega
      rw [e1]
      have h' := h
      rw [e2] at h'
      exact split_old base p c v L.dropLast f (aheadP c L) w h' (fun y hy => hL y (List.dropLast_subset L hy)) hd
    · have e1 : keepP L f = L := by unfold keepP; rw [hl]; simp [hx]
      rw [e1]
      exact split_new base p c v L f w h hL (by rw [hl]; intro y hy; injection hy with hy; rw [← hy]; exact hx) (by omega)

theorem neg_one : Op.unary .neg (.complex .f64 4607182418800017408 0) = pure (.complex .f64 13830554455654793216 9223372036854775808) := by
  have h1 : Op.negFloat .f64 4607182418800017408 = 13830554455654793216 := by kernel_rfl
  have h2 : Op.negFloat .f64 0 = 9223372036854775808 := by kernel_rfl
  show pure (Value.complex .f64 (Op.negFloat .f64 4607182418800017408) (Op.negFloat .f64 0)) = _
  rw [h1, h2]

def TakePost (base : Nat) (w : World) (p c : Nat) (L' : List St) (e : Ending) (w' : World) : Prop :=
  e = .returned (.int .i64 0) ∧ Below base w w' ∧ ∃ v', Prof base w' p c v' L'

set_option maxHeartbeats 1000000 in
theorem take_any (base p c : Nat) (v : Value) (L : List St) (f : Int) (w : World) (h : Prof base w p c v L) (ok : OkT c L f) :
    Calls Try.prog 19 #[.pointer (some ⟨p, 0, none⟩), .agg #[.int .i64 f, .int .i64 (f + 1), K1]] w (TakePost base w p c (takeP c L f)) := by
  have hng := neg_one
  obtain ⟨A, cap, rfl, hr⟩ := h.rp
  have hba : Below w.heap.size w (w.alloc (.cells #[.int .i64 f, .int .i64 (f + 1), K1] 27)) := (Below.refl _ _).alloc (Nat.le_refl _) _
  have H25 := hide (may_any p c A cap L f (f + 1) _ (hr.after hba) (fun x hx => (ok.hL x hx).1) (by have := ok.hn; omega) ⟨ok.f0, by omega, by have := ok.f1; omega⟩ ok.ha)
  have HP := hide h
  have OK := hide ok
  clear h ok hr
  go_enter Try.func19, Try.ntmps19
  go_wp2_with fail
  refine H25.out.mono ?_
  rintro e w1 ⟨rfl, hb1⟩
  have hw1 : Below w.heap.size w w1 := hba.trans (hb1.mono (by simp))
  have hnew : ∀ j, w1.cell? ⟨w.heap.size, j, none⟩ = (#[.int .i64 f, .int .i64 (f + 1), K1] : Array Value)[j]? := fun j => BW.new (W := w) (t := 27) ⟨w1, hb1⟩ j
  have f0 : w1.cell? ⟨w.heap.size, 0, none⟩ = some (.int .i64 f) := hnew 0
  have f1 : w1.cell? ⟨w.heap.size, 1, none⟩ = some (.int .i64 (f + 1)) := hnew 1
  have f2 : w1.cell? ⟨w.heap.size, 2, none⟩ = some K1 := hnew 2
  have hP1 := HP.out.below hw1
  have hbw := hw1.mono HP.out.base_le
  have H26 := hide (add_any base p c (keepP L f) f (f + 1) (aheadP c L) w1 (split_any base p c _ L f w1 hP1 (fun x hx => (OK.out.hL x hx).1) OK.out.hn)
    (fun x hx => OK.out.hL x (keepP_mem hx)) (by omega) OK.out.f1 OK.out.ha (by have := keepP_len L f; have := OK.out.hn; omega) OK.out.hc)
  have HB := hide hbw
  clear hnew hb1 hba H25 HP hP1 hbw hw1
  go_wp2_with fail
  refine H26.out.mono ?_
  rintro e w2 ⟨rfl, hb2, v2, h2⟩
  have H2 := hide h2
  clear h2 f0 f1 f2
  go_wp2
  go_ret
  exact ⟨rfl, HB.out.trans hb2, v2, H2.out⟩
end Go.Proofs.Ytdkhpjeiepkldaa
