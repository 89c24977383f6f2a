/-
  OWN. THE WALK of resv.Load at the law's list.
-/
import Derived.Test.YtdkhpjeiepkldaaWalkI
set_option linter.unusedSimpArgs false
set_option linter.unusedVariables false
namespace Go.Proofs.Ytdkhpjeiepkldaa
open Go.RowKit

/-- a reservation's cells -/
def cellsV (a b m f : Int) (s : Bool) : List Value := [.int .i64 a, .int .i64 b, .int .i64 m, .int .i64 f, .int .i64 (f + 1), K1, .bool s, .int .i64 0]
/-- the law's list: the i-th one -/
def cellsR (i : Nat) : List Value := cellsV 0 0 ((i : Int) + 1) i false
def RR (w : World) (A : Option Addr) (n : Nat) : Prop := Rows3 8 w A n ((List.range n).map cellsR)
theorem RR.after {w w' : World} {A : Option Addr} {n : Nat} (h : RR w A n) (hb : Below w.heap.size w w') : RR w' A n := Rows3.after h hb
theorem RR.at_ {w : World} {A : Option Addr} {n : Nat} (h : RR w A n) {i : Nat} (hi : i < n) :
    ∃ b o, A = some ⟨b, o, none⟩ ∧ b < w.heap.size ∧ w.cell? ⟨b, o + i * 8, none⟩ = some (.int .i64 0) ∧ w.cell? ⟨b, o + i * 8 + 1, none⟩ = some (.int .i64 0) ∧ w.cell? ⟨b, o + i * 8 + 2, none⟩ = some (.int .i64 ((i : Int) + 1)) ∧
      w.cell? ⟨b, o + i * 8 + 3, none⟩ = some (.int .i64 i) ∧ w.cell? ⟨b, o + i * 8 + 4, none⟩ = some (.int .i64 ((i : Int) + 1)) ∧ w.cell? ⟨b, o + i * 8 + 5, none⟩ = some K1 ∧ w.cell? ⟨b, o + i * 8 + 6, none⟩ = some (.bool false) ∧ w.cell? ⟨b, o + i * 8 + 7, none⟩ = some (.int .i64 0) := by
  obtain ⟨b, o, r, hA, hb, hr, hk, hc⟩ := Rows3.at_ h hi
  rw [List.getElem?_map, List.getElem?_range hi] at hr
  simp at hr
  subst hr
  exact ⟨b, o, hA, hb, hc 0 _ rfl, hc 1 _ rfl, hc 2 _ rfl, hc 3 _ rfl, hc 4 _ rfl, hc 5 _ rfl, hc 6 _ rfl, hc 7 _ rfl⟩

theorem info27 : (Try.prog.info? 27).map (fun i => (i.zero, i.size, i.bytes)) = some (some (.agg #[.int .i64 0, .int .i64 0, .complex .f64 0 0]), 3, 32) := by kernel_rfl

def froms (n : Nat) : List Int := (List.range n).map (fun i : Nat => (i : Int))
theorem froms_len (n : Nat) : (froms n).length = n := by simp [froms]
theorem froms_succ (n : Nat) : froms (n + 1) = froms n ++ [(n : Int)] := by simp [froms, List.range_succ]
def flatB (Fs : List Int) : List Value := (Fs.map cellsB).flatten
theorem cellsB_len (Fs : List Int) : ∀ r ∈ Fs.map cellsB, r.length = 3 := by
  intro r hr
  obtain ⟨x, _, rfl⟩ := List.mem_map.1 hr
  rfl
theorem flatB_len (Fs : List Int) : (flatB Fs).length = Fs.length * 3 := by unfold flatB; rw [flat_length _ (cellsB_len Fs), List.length_map]
theorem flatB_append (L M : List Int) : flatB (L ++ M) = flatB L ++ flatB M := by simp [flatB]
theorem take_set3 (xs : List Value) (k : Nat) (a b c : Value) (h : k * 3 + 3 ≤ xs.length) : (((xs.set (k * 3) a).set (k * 3 + 1) b).set (k * 3 + 2) c).take ((k + 1) * 3) = xs.take (k * 3) ++ [a, b, c] := by
  obtain ⟨p, x0, x1, x2, r, hx, hp⟩ : ∃ p x0 x1 x2 r, xs = p ++ x0 :: x1 :: x2 :: r ∧ p.length = k * 3 := by
    refine ⟨xs.take (k * 3), xs[k * 3], xs[k * 3 + 1], xs[k * 3 + 2], xs.drop (k * 3 + 3), ?_, by rw [List.length_take]; omega⟩
    rw [← List.drop_eq_getElem_cons (show k * 3 + 2 < xs.length by omega), ← List.drop_eq_getElem_cons (show k * 3 + 1 < xs.length by omega), ← List.drop_eq_getElem_cons (show k * 3 < xs.length by omega), List.take_append_drop]
  have e1 : k * 3 + 1 - k * 3 = 1 := by omega
  have e2 : k * 3 + 2 - k * 3 = 2 := by omega
  rw [hx, List.set_append_right _ _ (by omega), hp, Nat.sub_self, List.set_append_right _ _ (by omega), hp, e1, List.set_append_right _ _ (by omega), hp, e2]
  simp only [List.set_cons_zero, List.set_cons_succ]
  rw [show (k + 1) * 3 = p.length + 3 by omega, ← hp, List.take_left, List.take_length_add_append]
  rfl

def LoadPost (n : Nat) (w : World) (e : Ending) (w' : World) : Prop :=
  Below w.heap.size w w' ∧ ∃ g : Nat, e = .returned (.slice (some ⟨g, 0, none⟩) n n) ∧ RB w' (some ⟨g, 0, none⟩) n (froms n)
theorem RB.of_own {base : Nat} {w : World} {g n cap : Nat} {Fs : List Int} (h : w.ownsRow base 27 3 (.slice (some ⟨g, 0, none⟩) n cap) n (flatB Fs)) (hl : Fs.length = n) : RB w (some ⟨g, 0, none⟩) n Fs :=
  Rows3.of_own h (by rw [List.length_map]; exact hl) (cellsB_len Fs)

set_option maxHeartbeats 2000000 in
theorem load_any (A : Option Addr) (n cap : Nat) (w : World) (h : RR w A n) (hn : n ≤ 1000) :
    Calls Try.prog 9 #[.slice A n cap] w (LoadPost n w) := by
  obtain ⟨i0, hi, hz0, hz1, hz2⟩ := info_parts info27
  have hst := store_complex
  go_enter Try.func9, Try.ntmps9
  go_wp2_with (at_make; refine wpList_make_full _ rfl _ _ 35 rfl w.heap.size 27 i0 _ 3 Try.underlying35 hi hz0 hz1 .i64 .i64 _ _ n rfl rfl rfl rfl (by rw [hz2]; omega) (by unfold maxLen; omega) (Nat.le_refl _) ?_; intro w1 hown1 hgr1)
  have hb1 : Below w.heap.size w w1 := (Below.refl _ _).grown hgr1 (Nat.le_refl _) (fun k hk => by cases hk)
  have HO1 := hide hown1
  clear hown1 hgr1
  go_loopw [11] (fun i wr => ∃ (k : Nat) (xs : List Value), k ≤ n ∧ i = .int .i64 k ∧ Below w.heap.size w wr ∧ Hid (wr.ownsRow w.heap.size 27 3 (.slice (some ⟨w.heap.size, 0, none⟩) n n) n xs ∧ xs.take (k * 3) = flatB (froms k))) (fun i _ => n - (intOf i).toNat)
  case atStart => exact ⟨0, _, by omega, rfl, hb1, HO1.out, by rw [Nat.zero_mul, List.take_zero]; rfl⟩
  clear HO1 hb1
  case round =>
    obtain ⟨k, xs, hk, rfl, hb, HO⟩ := hrel
    by_cases hlt : k < n
    · obtain ⟨b, o, rfl, hbl, c0, c1, c2, c3, c4, c5, c6, c7⟩ := (h.after hb).at_ hlt
      have ho := HO.out.1
      have hgl := (ho.lt w.heap.size rfl).2
      have hxl := ho.1
      obtain ⟨u0, k0⟩ : ∃ u, wr.cell? ⟨w.heap.size, k * 3, none⟩ = some u := ⟨_, (ho.cellAt _ (by omega)).trans (List.getElem?_eq_getElem (by omega))⟩
      obtain ⟨u1, k1⟩ : ∃ u, wr.cell? ⟨w.heap.size, k * 3 + 1, none⟩ = some u := ⟨_, (ho.cellAt _ (by omega)).trans (List.getElem?_eq_getElem (by omega))⟩
      obtain ⟨u2, k2⟩ : ∃ u, wr.cell? ⟨w.heap.size, k * 3 + 2, none⟩ = some u := ⟨_, (ho.cellAt _ (by omega)).trans (List.getElem?_eq_getElem (by omega))⟩
      have kf : ∀ j, wr.frozen? ⟨w.heap.size, j, none⟩ = false := fun j => ho.frozenAt j
      have h3 := (((ho.stored (k * 3) (.int .i64 k)).1.stored (k * 3 + 1) (.int .i64 ((k : Int) + 1))).1.stored (k * 3 + 2) K1).1
      have hb3 := ((hb.setCell (p := ⟨w.heap.size, k * 3, none⟩) (Nat.le_refl _) (.int .i64 k)).setCell (p := ⟨w.heap.size, k * 3 + 1, none⟩) (Nat.le_refl _) (.int .i64 ((k : Int) + 1))).setCell (p := ⟨w.heap.size, k * 3 + 2, none⟩) (Nat.le_refl _) K1
      have H3 := hide h3
      have HB3 := hide hb3
      have HT := hide (show ((((xs.set (k * 3) (.int .i64 k)).set (k * 3 + 1) (.int .i64 ((k : Int) + 1))).set (k * 3 + 2) K1).take ((k + 1) * 3) = flatB (froms (k + 1))) from by
        rw [take_set3 xs k _ _ _ (by omega), HO.out.2, froms_succ, flatB_append]; rfl)
      clear h3 hb3 ho hxl h
      go_wp2
      go_roundw
      case rel => exact ⟨k + 1, _, by omega, by go_num, HB3.out.alloc HB3.out.size _, H3.out.alloc _, HT.out⟩
      case measure => simp [intOf] <;> omega
    · have hkn : k = n := by omega
      have HR := hide (show RB wr (some ⟨w.heap.size, 0, none⟩) n (froms n) from RB.of_own (by
        have h1 := HO.out.1
        have h2 := HO.out.2
        rw [hkn, List.take_of_length_le (by rw [h1.1]; omega)] at h2
        rw [h2] at h1
        exact h1) (froms_len n))
      clear HO hkn
      go_wp2
      go_ret
      exact ⟨hb, _, rfl, HR.out⟩
end Go.Proofs.Ytdkhpjeiepkldaa
