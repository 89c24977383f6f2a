/-
  OWN. THE WALK of profile's split, where nothing stands behind the tick.
-/
import Derived.Test.YtdkhpjeiepkldaaWalkD
set_option linter.unusedSimpArgs false
set_option linter.unusedVariables false
namespace Go.Proofs.Ytdkhpjeiepkldaa
open Go.RowKit

def SplitPost (base : Nat) (w : World) (p c : Nat) (L' : List St) (i : Nat) (e : Ending) (w' : World) : Prop :=
  e = .returned (.int .i64 i) ∧ Below base w w' ∧ ∃ v', Prof base w' p c v' L'

theorem Prof.snoc {base : Nat} {w w1 : World} {p c : Nat} {v v' : Value} {L : List St} {t : Int} {a : Nat} (h : Prof base w p c v L) (hw1 : Below w.heap.size w w1) {w4 : World} (ho : w4.ownsRow base 71 2 v' (L.length + 1) ((L.map cellsT).flatten ++ [.int .i64 t, C a])) (hg : w1.grownBy w4 v.ownBlock)
    (hat : v'.ownBlock = v.ownBlock ∨ v'.ownBlock = some w1.heap.size) : Prof base (w4.setCell ⟨p, 1, none⟩ v') p c v' (L ++ [(t, a)]) ∧ Below base w (w4.setCell ⟨p, 1, none⟩ v') := by
  have hp1 : p < w1.heap.size := Nat.lt_of_lt_of_le h.lt hw1.size
  have hblk : w4.heap[p]? = some (.cells #[C c, v] 56 (0, 0)) := by
    rw [hg.block p hp1 (fun e => h.ne e.symm), hw1.block p h.lt]; exact h.blk
  have hne : v'.ownBlock ≠ some p := by
    rcases hat with e | e
    · rw [e]; exact h.ne
    · rw [e]; intro h'; injection h' with h'; omega
  have hbw : Below base w w1 := hw1.mono h.base_le
  have hb4 : Below base w w4 := hbw.grown hg (by have := h.base_le; have := hw1.size; omega) (fun k hk => (h.own.lt k hk).1)
  refine ⟨⟨h.hp, ?_, ?_, hne⟩, hb4.setCell (p := ⟨p, 1, none⟩) h.hp _⟩
  · rw [heap_setCell_same w4 p 1 _ 56 _ hblk]
    rfl
  · have hl : (L ++ [(t, a)]).length = L.length + 1 := by simp
    have hx : ((L ++ [(t, a)]).map cellsT).flatten = (L.map cellsT).flatten ++ [.int .i64 t, C a] := by simp [cellsT]
    rw [hl, hx]
    exact ownsRow_setCell_other (a := ⟨p, 1, none⟩) ho hne _

/-- slices.Insert of a step at the end, inside split -/
theorem splitIns {base p c : Nat} {v : Value} {L : List St} {w : World} (h : Prof base w p c v L) (hn : L.length ≤ 1000) (t : Int) (a : Nat) (w2 : World) (hb : Below w.heap.size w w2)
    (hcell : ∀ j u, ([.int .i64 t, C a] : List Value)[j]? = some u → w2.cell? ((⟨w.heap.size, 0, none⟩ : Addr).add j) = some u) :
    Calls Try.prog 44 #[v, .int .i64 L.length, .slice (some ⟨w.heap.size, 0, none⟩) 1 1] w2 fun e w4 => ∃ A' cap', e = .returned (.slice A' (L.length + 1) cap') ∧ w4.cell? ⟨p, 1, none⟩ = some v ∧ w4.frozen? ⟨p, 1, none⟩ = false ∧
      Prof base (w4.setCell ⟨p, 1, none⟩ (.slice A' (L.length + 1) cap')) p c (.slice A' (L.length + 1) cap') (L ++ [(t, a)]) ∧ Below base w (w4.setCell ⟨p, 1, none⟩ (.slice A' (L.length + 1) cap')) := by
  refine (insT_end base v L.length _ [.int .i64 t, C a] w.heap.size w2 (ownsRow_below h.own hb) (by have := h.base_le; have := hb.size; omega) (by omega) rfl hcell (oneT t a)).mono ?_
  rintro e w4 ⟨v', rfl, ho, hg, hat⟩
  have hp1 : p < w2.heap.size := Nat.lt_of_lt_of_le h.lt hb.size
  have hblk : w4.heap[p]? = some (.cells #[C c, v] 56 (0, 0)) := by
    rw [hg.block p hp1 (fun e => h.ne e.symm), hb.block p h.lt]; exact h.blk
  obtain ⟨k1, k2⟩ := h.snoc hb ho hg hat
  obtain ⟨A', cap', rfl⟩ : ∃ A' cap', v' = .slice A' (L.length + 1) cap' := by
    rcases ho.2 with ⟨hv, h0⟩ | ⟨g, cap, cur, hv, _⟩
    · omega
    · exact ⟨_, _, hv⟩
  exact ⟨A', cap', rfl, by rw [cell_of_row w4 p 1 _ _ (0, 0) hblk]; rfl, by unfold World.frozen?; simp [hblk], k1, k2⟩

set_option maxHeartbeats 600000 in
theorem split_new (base p c : Nat) (v : Value) (L : List St) (t : Int) (w : World) (h : Prof base w p c v L) (hL : ∀ x ∈ L, x.1 ≤ t) (hlast : ∀ x, L.getLast? = some x → x.1 ≠ t) (hn : L.length ≤ 1000) :
    Calls Try.prog 35 #[.pointer (some ⟨p, 0, none⟩), .int .i64 t] w (SplitPost base w p c (L ++ [(t, aheadP c L)]) L.length) := by
  obtain ⟨A, cap, rfl, hr⟩ := h.rp
  go_enter Try.func35, Try.ntmps35
  go_wp2_with fail
  refine (behind_any p c A cap L t _ hr hL hn).mono ?_
  rintro e w1 ⟨rfl, hb1⟩
  have hP := h.below hb1
  have hr1 := hr.after hb1
  have k1 := hr1.c1
  have kp := hr1.hp
  have H42 := hide (ahead_any p c A cap L w1.drew (hr1.after ((Below.refl _ _).drew)) hn)
  have H44 := hide (splitIns hP hn t (aheadP c L) (w1.alloc (.cells #[.int .i64 t, C (aheadP c L)] 71)).drew (((Below.refl _ _).alloc (Nat.le_refl _) _).drew) (cells_new w1 [.int .i64 t, C (aheadP c L)] 71))
  have HB := hide (hb1.mono h.base_le)
  by_cases h0 : L.length = 0
  · have hi0 : ¬ ((0 : Int) < (L.length : Int)) := by omega
    clear h hr hP hr1 hb1 hL hlast h0
    go_wp2
    clear hi0
    go_region_with (first | (go_at_call 42; refine H42.out.mono ?_; rintro e w' ⟨rfl, rfl⟩) | (go_at_call 44; refine H44.out.mono ?_; rintro e w4 ⟨A', cap', rfl, f1, f2, hPn⟩; have HPn := hide hPn; clear hPn))
    all_goals (
      go_wp2
      go_ret
      exact ⟨rfl, HB.out.trans HPn.out.2, _, HPn.out.1⟩)
  · obtain ⟨b, o, x, hA, hbl, hx, c0, c1⟩ := hr1.at_ (i := L.length - 1) (by omega)
    have hxt : (x.1 == t) = false := beq_eq_false_iff_ne.2 (hlast x (by rw [List.getLast?_eq_getElem?, hx]))
    have HA := hide hA
    subst hA
    have hi1 : ((L.length : Int) - 1).toNat = L.length - 1 := by omega
    have hi2 : (0 : Int) ≤ (L.length : Int) - 1 := by omega
    have hi3 : (L.length : Int) - 1 < (L.length : Int) := by omega
    clear h hr hP hr1 hb1 hL hlast hx
    go_wp2
    clear hi1 hi2 hi3 hxt c0 c1 hbl h0
    go_region_with (first | (go_at_call 42; refine H42.out.mono ?_; rintro e w' ⟨rfl, rfl⟩) | (go_at_call 44; refine H44.out.mono ?_; rintro e w4 ⟨A', cap', rfl, f1, f2, hPn⟩; have HPn := hide hPn; clear hPn))
    all_goals (
      go_wp2
      go_ret
      exact ⟨rfl, HB.out.trans HPn.out.2, _, HPn.out.1⟩)

set_option maxHeartbeats 1000000 in
theorem split_old (base p c : Nat) (v : Value) (L0 : List St) (t : Int) (a : Nat) (w : World) (h : Prof base w p c v (L0 ++ [(t, a)])) (hL : ∀ x ∈ L0, x.1 ≤ t) (hn : L0.length ≤ 900) :
    Calls Try.prog 35 #[.pointer (some ⟨p, 0, none⟩), .int .i64 t] w (SplitPost base w p c (L0 ++ [(t, a)]) L0.length) := by
  obtain ⟨L, hLL⟩ : ∃ L, L = L0 ++ [(t, a)] := ⟨_, rfl⟩
  rw [← hLL] at h ⊢
  have hlen : L.length = L0.length + 1 := by rw [hLL]; simp
  have hget : L[L.length - 1]? = some (t, a) := by rw [hlen, hLL]; simp
  have hL2 : ∀ x ∈ L, x.1 ≤ t := by
    intro x hx
    rw [hLL] at hx
    rcases List.mem_append.1 hx with hx | hx
    · exact hL x hx
    · rw [List.mem_singleton.1 hx]; exact Int.le_refl _
  clear hLL hL
  obtain ⟨A, cap, rfl, hr⟩ := h.rp
  go_enter Try.func35, Try.ntmps35
  go_wp2_with fail
  refine (behind_any p c A cap L t _ hr hL2 (by omega)).mono ?_
  rintro e w1 ⟨rfl, hb1⟩
  have hP := hide (h.below hb1)
  have HB := hide (hb1.mono h.base_le)
  have hr1 := hr.after hb1
  have k1 := hr1.c1
  have kp := hr1.hp
  obtain ⟨b, o, x, hA, hbl, hx, c0, c1⟩ := hr1.at_ (i := L.length - 1) (by omega)
  rw [hget] at hx
  injection hx with hx
  have hxt : (x.1 == t) = true := by rw [← hx]; simp
  have hi1 : ((L.length : Int) - 1).toNat = L.length - 1 := by omega
  have hi2 : (0 : Int) ≤ (L.length : Int) - 1 := by omega
  have hi3 : (L.length : Int) - 1 < (L.length : Int) := by omega
  have hi4 : (0 : Int) < (L.length : Int) := by omega
  have HE := hide (show (L.length : Int) - 1 = (L0.length : Int) by omega)
  subst hA
  have hn2 : L.length ≤ 1000 := by omega
  clear h hr hr1 hb1 hL2 hget hx hlen
  go_wp2
  go_ret
  exact ⟨ret_int HE.out, HB.out, _, hP.out⟩
end Go.Proofs.Ytdkhpjeiepkldaa
