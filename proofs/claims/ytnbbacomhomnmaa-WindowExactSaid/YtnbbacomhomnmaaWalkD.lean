/-
  OWN. THE WALKS of cmp.Or and of the order that window.Common sorts by; slices.SortFunc at edges.
-/
import Derived.Test.YtnbbacomhomnmaaWalkB
import Derived.StillTailTactics
import Derived.Test.YtnbbacomhomnmaaShelf
import Derived.Laws.OwnMore
set_option linter.unusedSimpArgs false
set_option linter.unusedVariables false
namespace Go.Proofs.Ytnbbacomhomnmaa
open Go.Shelf Go.RowKit Go.Lib Go.Sort

def orI (a b : Int) : Int := if a = 0 then b else a
set_option maxHeartbeats 1000000 in
theorem or_any (g : Nat) (a b : Int) (w : World) (hg : g < w.heap.size) (h0 : w.cell? ⟨g, 0, none⟩ = some (.int .i64 a)) (h1 : w.cell? ⟨g, 1, none⟩ = some (.int .i64 b)) :
    Calls Try.prog 19 #[.slice (some ⟨g, 0, none⟩) 2 2] w fun e w' => e = .returned (.int .i64 (orI a b)) ∧ w = w' := by
  go_enter Try.func19, Try.ntmps19
  go_wp2
  go_loop [8] (fun i => ∃ k : Nat, k ≤ 2 ∧ i = .int .i64 k ∧ (0 < k → a = 0) ∧ (1 < k → b = 0)) (fun i => 2 - (intOf i).toNat)
  case atStart => exact ⟨0, by omega, rfl, fun h => absurd h (by omega), fun h => absurd h (by omega)⟩
  case round =>
    obtain ⟨k, hk, rfl, ha, hb⟩ := hrel
    rcases (by omega : k = 0 ∨ k = 1 ∨ k = 2) with rfl | rfl | rfl
    · by_cases hz : a = 0
      · have hzB : (a == 0) = true := by simp [hz]
        go_wp2
        go_round
        case rel => exact ⟨1, by omega, by go_num, fun _ => hz, fun h => absurd h (by omega)⟩
        case measure => simp [intOf]
      · have hzB : (a == 0) = false := by simp [hz]
        go_wp2
        go_ret
        exact ⟨ret_int (by unfold orI; rw [if_neg hz]), rfl⟩
    · by_cases hz : b = 0
      · have hzB : (b == 0) = true := by simp [hz]
        go_wp2
        go_round
        case rel => exact ⟨2, by omega, by go_num, fun _ => ha (by omega), fun _ => hz⟩
        case measure => simp [intOf]
      · have hzB : (b == 0) = false := by simp [hz]
        have ha' := ha (by omega)
        go_wp2
        go_ret
        exact ⟨ret_int (by unfold orI; simp [ha']), rfl⟩
    · have ha' := hide (ha (by omega))
      have hb' := hide (hb (by omega))
      clear ha hb
      go_wp2
      go_ret
      exact ⟨ret_int (by unfold orI; simp [ha'.out, hb'.out]), rfl⟩

def cmpE (x y : Sp) : Int := orI (cmpI x.1 y.1) (cmpI x.2 y.2)

set_option maxHeartbeats 1000000 in
theorem closure_any (x y : Sp) (W : World) : Calls Try.prog 18 #[.agg #[.int .i64 x.1, .int .i64 x.2], .agg #[.int .i64 y.1, .int .i64 y.2]] W fun e w' => e = .returned (.int .i64 (cmpE x y)) ∧ ∃ q os', w' = grow (W.drewN q) os' := by
  unfold cmpE
  generalize hp : cmpI x.1 y.1 = p
  generalize hq : cmpI x.2 y.2 = q
  have h1 : ∀ w, Calls Try.prog 20 #[.int .i64 x.1, .int .i64 y.1] w fun e w' => e = .returned (.int .i64 p) ∧ w' = w := fun w => (compare_any x.1 y.1 w).mono fun _ _ ⟨he, hw⟩ => ⟨by rw [he, hp], hw.symm⟩
  have h2 : ∀ w, Calls Try.prog 20 #[.int .i64 x.2, .int .i64 y.2] w fun e w' => e = .returned (.int .i64 q) ∧ w' = w := fun w => (compare_any x.2 y.2 w).mono fun _ _ ⟨he, hw⟩ => ⟨by rw [he, hq], hw.symm⟩
  clear hp hq
  go_enter Try.func18, Try.ntmps18
  go_wp2
  have f0 : ((W.alloc (.cells #[Value.int IntKind.i64 x.1, Value.int IntKind.i64 x.2] 44)).alloc (.cells #[Value.int IntKind.i64 y.1, Value.int IntKind.i64 y.2] 44)).drew.cell? ⟨W.heap.size, 0, none⟩ = some (.int .i64 x.1) := by go_simp
  have f1 : ((W.alloc (.cells #[Value.int IntKind.i64 x.1, Value.int IntKind.i64 x.2] 44)).alloc (.cells #[Value.int IntKind.i64 y.1, Value.int IntKind.i64 y.2] 44)).drew.cell? ⟨W.heap.size, 1, none⟩ = some (.int .i64 x.2) := by go_simp
  have f2 : ((W.alloc (.cells #[Value.int IntKind.i64 x.1, Value.int IntKind.i64 x.2] 44)).alloc (.cells #[Value.int IntKind.i64 y.1, Value.int IntKind.i64 y.2] 44)).drew.cell? ⟨W.heap.size + 1, 0, none⟩ = some (.int .i64 y.1) := by go_simp
  have f3 : ((W.alloc (.cells #[Value.int IntKind.i64 x.1, Value.int IntKind.i64 x.2] 44)).alloc (.cells #[Value.int IntKind.i64 y.1, Value.int IntKind.i64 y.2] 44)).drew.cell? ⟨W.heap.size + 1, 1, none⟩ = some (.int .i64 y.2) := by go_simp
  have hgw : ((W.alloc (.cells #[Value.int IntKind.i64 x.1, Value.int IntKind.i64 x.2] 44)).alloc (.cells #[Value.int IntKind.i64 y.1, Value.int IntKind.i64 y.2] 44)).drew = grow (W.drewN 1) #[.cells #[Value.int IntKind.i64 x.1, Value.int IntKind.i64 x.2] 44, .cells #[Value.int IntKind.i64 y.1, Value.int IntKind.i64 y.2] 44] := by
    rw [alloc_eq_grow, alloc_eq_grow, grow_grow]; rfl
  refine wp_region_still_tail 10 (by kernel_rfl) (by kernel_rfl) ?_
  change wpStill _ _ (((W.alloc (.cells #[Value.int IntKind.i64 x.1, Value.int IntKind.i64 x.2] 44)).alloc (.cells #[Value.int IntKind.i64 y.1, Value.int IntKind.i64 y.2] 44)).drew) (fun a' => wpList _ _ _ _ _ (((W.alloc (.cells #[Value.int IntKind.i64 x.1, Value.int IntKind.i64 x.2] 44)).alloc (.cells #[Value.int IntKind.i64 y.1, Value.int IntKind.i64 y.2] 44)).drew)) _ _
  simp only [List.take_succ_cons, List.take_zero, List.drop_succ_cons, List.drop_zero]
  generalize ((W.alloc (.cells #[Value.int IntKind.i64 x.1, Value.int IntKind.i64 x.2] 44)).alloc (.cells #[Value.int IntKind.i64 y.1, Value.int IntKind.i64 y.2] 44)).drew = w2 at f0 f1 f2 f3 hgw ⊢
  have HG := Go.Proofs.Ytnbbacomhomnmaa.hide hgw
  clear hgw
  repeat still_step
  still_call (h1 _)
  repeat still_step
  still_call (h2 _)
  refine wpStill_nil ?_
  go_wp2_with (go_at_call 19; refine (or_any _ p q _ (by simp) (by go_simp) (by go_simp)).mono ?_; rintro e w' ⟨rfl, rfl⟩)
  go_ret
  refine ⟨rfl, 1, #[.cells #[Value.int IntKind.i64 x.1, Value.int IntKind.i64 x.2] 44, .cells #[Value.int IntKind.i64 y.1, Value.int IntKind.i64 y.2] 44] ++ #[Obj.cells #[Value.int IntKind.i64 p, Value.int IntKind.i64 q] 3], ?_⟩
  rw [HG.out, alloc_eq_grow, grow_grow]

def ltE (x y : Sp) : Prop := x.1 < y.1 ∨ x.1 = y.1 ∧ x.2 < y.2
theorem lt_cmpE (x y : Sp) : ltOf cmpE x y = true ↔ ltE x y := by
  unfold ltOf cmpE orI cmpI ltE
  rw [decide_eq_true_iff]
  repeat' split
  all_goals omega
theorem swoE : SWO (ltOf cmpE) where
  irrefl x := by rw [← Bool.not_eq_true, lt_cmpE]; unfold ltE; omega
  trans x y z h1 h2 := by rw [lt_cmpE] at *; unfold ltE at *; omega
  ntrans x y z h1 h2 := by rw [← Bool.not_eq_true, lt_cmpE] at *; unfold ltE at *; omega

/-- no later one is less than an earlier one -/
def SortedE (D : List Sp) : Prop := D.Pairwise fun x y => ¬ ltE y x

set_option maxHeartbeats 1000000 in
theorem sort_any (base g cap : Nat) (M : List Sp) (w : World) (hown : w.ownsRow base 44 2 (.slice (some ⟨g, 0, none⟩) M.length cap) M.length (M.map cellsS).flatten) (hm : M.length < 1000000) :
    Calls Try.prog 17 #[.slice (some ⟨g, 0, none⟩) M.length cap, .func (.func 18) #[] #[]] w fun e w' => e = .returned (.tuple #[]) ∧ ∃ D, D.Perm M ∧ SortedE D ∧ RS w' (some ⟨g, 0, none⟩) M.length D ∧ Below base w w' := by
  have eg : ∀ args w, (callFunc 18 args).run Try.prog w = .ok (.enter 18 args) w := enters_of Try.func18 (by kernel_rfl) rfl
  have hgb := hown.lt g rfl
  have hk : ∀ r ∈ M.map cellsS, r.length = 2 := by
    intro r hr
    obtain ⟨x, _, rfl⟩ := List.mem_map.1 hr
    rfl
  have hH : HoldsK cellsS 2 w g 0 M.toArray := by
    intro j hj
    rw [size_flatK] at hj
    simp only [List.size_toArray] at hj
    have hi : j / 2 < M.length := by omega
    refine ⟨?_, by rw [Nat.zero_add]; exact hown.frozenAt j⟩
    rw [Nat.zero_add, hown.cellAt j hj]
    have hr : (M.map cellsS)[j / 2]? = some (cellsS M[j / 2]) := by rw [List.getElem?_map, List.getElem?_eq_getElem hi]; rfl
    have hv : (cellsS M[j / 2])[j % 2]? = some ((cellsS M[j / 2])[j % 2]'(by simp [cellsS]; omega)) := List.getElem?_eq_getElem _
    have hf := flat_get _ hk _ _ hr _ _ hv
    rw [show j / 2 * 2 + j % 2 = j by omega] at hf
    rw [hf, id, get_flatK _ _ _ _ (by simpa using hj)]
    congr 1
    have h2 : j % 2 < (cellsS M[j / 2]).length := by rw [show (cellsS M[j / 2]).length = 2 from rfl]; omega
    have h3 : M.toArray[j / 2]! = M[j / 2] := by simp [hi]
    rw [h3, getElem!_pos (cellsS M[j / 2]) (j % 2) h2]
    all_goals rfl
  have hcon := AnyQ.slices_SortFunc Try.sortEdge 2 Try.isAgg44 Try.sizeOf44 cellsS (fun _ => rfl) (fun x v hv => by simp [cellsS] at hv; rcases hv with rfl | rfl <;> rfl) cmpE swoE 18 #[] g 0 cap M.toArray w eg (fun _ _ _ _ x y => closure_any x y _) hH hgb.2 (by simp; omega)
  change Calls Try.prog 17 #[.slice (some ⟨g, 0, none⟩) M.length cap, _] w _ at hcon
  refine hcon.mono ?_
  rintro e w' ⟨rfl, d', n, os, ⟨hp1, hp2, hp3⟩, hs, rfl⟩
  simp only [List.size_toArray] at hp1 hp3 hs
  have hH2 : HoldsK cellsS 2 (sortWorldK cellsS 2 w g 0 n d' os) g 0 d' := by
    unfold sortWorldK
    exact holdsK_grow _ _ _ _ _ _ _ (by simpa [putRowK, putRow, mapBlock, Sort.ahead] using hgb.2) (holdsK_putRowK _ _ _ _ _ M.toArray _ (show HoldsK cellsS 2 (Sort.ahead w n) g 0 M.toArray from hH) hp1)
  refine ⟨rfl, d'.toList, ?_, ?_, ⟨by simpa using hp1, ?_, fun hn => ⟨g, 0, rfl, ?_, ?_⟩⟩, ?_⟩
  · rw [show M.length = d'.size from hp1.symm] at hp3
    have e1 : d'.extract 0 d'.size = d' := by simp
    have e2 : M.toArray.extract 0 d'.size = M.toArray := by rw [hp1, show M.length = M.toArray.size by simp]; simp
    rw [e1, e2] at hp3
    simpa using hp3
  · unfold SortedE
    rw [List.pairwise_iff_getElem]
    intro i j hi hj hij hlt
    have hij' := hs i j (Nat.zero_le _) hij (by simpa [hp1] using hj)
    have hj' : j < d'.size := by simpa using hj
    have hi' : i < d'.size := by simpa using hi
    rw [getElem!_pos d' j hj', getElem!_pos d' i hi'] at hij'
    rw [Array.getElem_toList, Array.getElem_toList, ← lt_cmpE] at hlt
    rw [hlt] at hij'
    cases hij'
  · intro r hr
    obtain ⟨x, _, rfl⟩ := List.mem_map.1 hr
    rfl
  · simp [sortWorldK, grow, putRowK, putRow, mapBlock, Sort.ahead]; omega
  · intro i r hr j v hv
    rw [List.getElem?_map] at hr
    cases hx : d'.toList[i]? with
    | none => simp [hx] at hr
    | some x =>
      simp [hx] at hr
      subst hr
      obtain ⟨hi, hxe⟩ := List.getElem?_eq_some_iff.1 hx
      have hi' : i < d'.size := by simpa using hi
      have hj : j < 2 := by have := (List.getElem?_eq_some_iff.1 hv).1; simpa [cellsS] using this
      have := (HoldsK.cell hH2 hi' hj).1
      rw [this, getElem!_pos d' i hi']
      rw [Array.getElem_toList] at hxe
      rw [hxe, ← hv, List.getElem?_eq_getElem (by simpa [cellsS] using hj)]
      rw [getElem!_pos _ j (by simpa [cellsS] using hj)]
  · refine ⟨rfl, rfl, rfl, by simp [sortWorldK, grow, putRowK, putRow, mapBlock, Sort.ahead], fun k hk => ?_⟩
    unfold sortWorldK
    have hkw : k < w.heap.size := by omega
    rw [heap_grow_old _ _ (by simpa [putRowK, putRow, mapBlock, Sort.ahead] using hkw)]
    have hne : g ≠ k := by omega
    simp [putRowK, putRow, mapBlock, Sort.ahead, Array.getElem?_modify, hne]
end Go.Proofs.Ytnbbacomhomnmaa
