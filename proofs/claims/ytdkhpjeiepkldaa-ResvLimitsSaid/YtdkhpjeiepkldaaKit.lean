/-
  OWN. SMALL KIT FOR THE WALKS OF THIS SEAT: a class of worlds 'BW W' (all worlds that agree with W below its heap's size) for regions that draw their order; rows of structs of int cells; append and copy for elements of k cells.
-/
import Derived.Test.YtdkhpjeiepkldaaRows
import Derived.WalkKit
import Derived.WalkSpells
import Derived.WalkLawsBesides
import Derived.BigQuiet
import Derived.Deep.QuietTactic
import Derived.Handy
import Derived.IntWalk
set_option linter.unusedSimpArgs false
set_option linter.unusedVariables false
namespace Go.Proofs.Ytdkhpjeiepkldaa
open Go.RowKit

/-- A world that agrees with W below W's heap. -/
structure BW (W : World) where
  w : World
  h : Below W.heap.size W w
instance (W : World) : Nonempty (BW W) := ⟨⟨W, Below.refl _ _⟩⟩
theorem BW.cell {W : World} {p : Addr} {v : Value} (h : W.cell? p = some v) (s : BW W) : s.w.cell? p = some v := by
  rw [s.h.cell (World.block_lt_of_cell? W p h)]; exact h
theorem BW.new {W : World} {cs : Array Value} {t : TypeId} (s : BW (W.alloc (.cells cs t))) (j : Nat) : s.w.cell? ⟨W.heap.size, j, none⟩ = cs[j]? := by
  rw [s.h.cell (p := ⟨W.heap.size, j, none⟩) (by simp), cell_of_row (W.alloc (.cells cs t)) W.heap.size j cs t (0, 0) (heap_alloc_new W _)]
theorem wp_region_bw {P : Program} {id : Nat} {Q : Exit → Act → World → Prop} {a : Act} {w : World} {l : List Oper} (hm : P.follows .mixedOrders = true) (hB : Region.lexB .any l.toArray = true)
    (h : wpQuiet P l.toArray (fun w' => ∃ s : BW w, w' = s.w) (fun a' => ∀ w', (∃ s : BW w, w' = s.w) → Q .normal a' w') l a) : (Code.region id l.toArray true).wp P Q a w :=
  wp_region_quiet (C := fun w' => ∃ s : BW w, w' = s.w) hm hB ⟨⟨w.drew, (Below.refl _ _).drew⟩, rfl⟩ (by simpa using h)
theorem Calls.bw {P : Program} {f : FuncId} {args : Array Value} {W : World} {s : BW W} {v : Value}
    (h : Calls P f args s.w fun e w' => e = .returned v ∧ Below s.w.heap.size s.w w') : Calls P f args s.w fun e w'' => e = .returned v ∧ ∃ s' : BW W, w'' = s'.w :=
  h.mono fun _ w' ⟨he, hb⟩ => ⟨he, ⟨w', s.h.trans (hb.mono s.h.size)⟩, rfl⟩
theorem Calls.bw_same {P : Program} {f : FuncId} {args : Array Value} {W : World} {s : BW W} {v : Value}
    (h : Calls P f args s.w fun e w' => e = .returned v ∧ s.w = w') : Calls P f args s.w fun e w'' => e = .returned v ∧ ∃ s' : BW W, w'' = s'.w :=
  h.mono fun _ _ ⟨he, hb⟩ => ⟨he, s, hb.symm⟩

/-- Old cells and old marks, behind a call that leaves what was there. -/
theorem bcell {W w1 : World} (hb : Below W.heap.size W w1) : (∀ b o, b < W.heap.size → w1.cell? ⟨b, o, none⟩ = W.cell? ⟨b, o, none⟩) ∧ (∀ b o, b < W.heap.size → w1.frozen? ⟨b, o, none⟩ = W.frozen? ⟨b, o, none⟩) :=
  ⟨fun b o h => hb.cell (p := ⟨b, o, none⟩) h, fun b o h => hb.frozen (p := ⟨b, o, none⟩) h⟩
theorem bafter {B : Nat} {a b c : World} (h : Below B a b) (hB : B ≤ b.heap.size) (k : Below b.heap.size b c) : Below B a c := h.trans (k.mono hB)
theorem btwo {a b c : World} (h : Below a.heap.size a b) (k : Below b.heap.size b c) : Below a.heap.size a c := h.trans (k.mono h.size)

theorem hide {p : Prop} (h : p) : Hid p := h
theorem ret_int {k : IntKind} {a b : Int} (h : a = b) : Ending.returned (.int k a) = .returned (.int k b) := by rw [h]
theorem ret_bool {a b : Bool} (h : a = b) : Ending.returned (.bool a) = .returned (.bool b) := by rw [h]

/-! ### rows of structs: the slice value '.slice A n c' holds the rows R, each of k cells -/

def Rows3 (k : Nat) (w : World) (A : Option Addr) (n : Nat) (R : List (List Value)) : Prop :=
  R.length = n ∧ (∀ r ∈ R, r.length = k) ∧ (0 < n → ∃ b o, A = some ⟨b, o, none⟩ ∧ b < w.heap.size ∧ ∀ i r, R[i]? = some r → ∀ j v, r[j]? = some v → w.cell? ⟨b, o + i * k + j, none⟩ = some v)

section
variable {k : Nat} {w w' : World} {A : Option Addr} {n : Nat} {R : List (List Value)}
theorem Rows3.nil_ : Rows3 k w A 0 [] := ⟨rfl, by simp, fun h => absurd h (by omega)⟩
theorem Rows3.below {B : Nat} (h : Rows3 k w A n R) (hb : Below B w w') (hB : w.heap.size ≤ B) : Rows3 k w' A n R :=
  ⟨h.1, h.2.1, fun hn => by
    obtain ⟨b, o, e, hlt, hc⟩ := h.2.2 hn
    exact ⟨b, o, e, Nat.lt_of_lt_of_le hlt hb.size, fun i r hr j v hv => by rw [hb.cell (p := ⟨b, _, none⟩) (by show b < B; omega)]; exact hc i r hr j v hv⟩⟩
theorem Rows3.after (h : Rows3 k w A n R) (hb : Below w.heap.size w w') : Rows3 k w' A n R := h.below hb (Nat.le_refl _)
theorem Rows3.at_ (h : Rows3 k w A n R) {i : Nat} (hi : i < n) : ∃ b o r, A = some ⟨b, o, none⟩ ∧ b < w.heap.size ∧ R[i]? = some r ∧ r.length = k ∧ ∀ j v, r[j]? = some v → w.cell? ⟨b, o + i * k + j, none⟩ = some v := by
  obtain ⟨b, o, e, hlt, hc⟩ := h.2.2 (by omega)
  have hl : i < R.length := by rw [h.1]; exact hi
  exact ⟨b, o, R[i], e, hlt, List.getElem?_eq_getElem hl, h.2.1 _ (List.getElem_mem hl), fun j v hv => hc i _ (List.getElem?_eq_getElem hl) j v hv⟩
end

/-- a row in the flat list of cells -/
theorem flat_get {k : Nat} : ∀ (R : List (List Value)), (∀ r ∈ R, r.length = k) → ∀ i r, R[i]? = some r → ∀ j v, r[j]? = some v → R.flatten[i * k + j]? = some v
  | [], _, i, r, h, _, _, _ => by simp at h
  | x :: R, hk, 0, r, h, j, v, hv => by
    simp at h; subst h
    have hj : j < x.length := (List.getElem?_eq_some_iff.1 hv).1
    simp only [Nat.zero_mul, Nat.zero_add, List.flatten_cons]
    rw [List.getElem?_append_left hj]; exact hv
  | x :: R, hk, i + 1, r, h, j, v, hv => by
    have hx : x.length = k := hk x (by simp)
    have ih := flat_get R (fun r hr => hk r (by simp [hr])) i r (by simpa using h) j v hv
    rw [List.flatten_cons, List.getElem?_append_right (by rw [hx, Nat.succ_mul]; omega)]
    rw [show (i + 1) * k + j - x.length = i * k + j by rw [hx, Nat.succ_mul]; omega]
    exact ih
theorem flat_length {k : Nat} : ∀ (R : List (List Value)), (∀ r ∈ R, r.length = k) → R.flatten.length = R.length * k
  | [], _ => by simp
  | x :: R, hk => by
    rw [List.flatten_cons, List.length_append, hk x (by simp), flat_length R (fun r hr => hk r (by simp [hr])), List.length_cons, Nat.succ_mul]; omega

theorem flat_take {k : Nat} : ∀ (R : List (List Value)), (∀ r ∈ R, r.length = k) → ∀ i, R.flatten.take (i * k) = (R.take i).flatten
  | [], _, i => by simp
  | x :: R, hk, 0 => by simp
  | x :: R, hk, i + 1 => by
    have hx : x.length = k := hk x (by simp)
    rw [List.take_succ_cons, List.flatten_cons, List.flatten_cons, List.take_append, List.take_of_length_le (by rw [hx, Nat.succ_mul]; omega), ← flat_take R (fun r hr => hk r (by simp [hr])) i]
    congr 2
    rw [hx, Nat.succ_mul]; omega
theorem flat_drop {k : Nat} : ∀ (R : List (List Value)), (∀ r ∈ R, r.length = k) → ∀ i, R.flatten.drop (i * k) = (R.drop i).flatten
  | [], _, i => by simp
  | x :: R, hk, 0 => by simp
  | x :: R, hk, i + 1 => by
    have hx : x.length = k := hk x (by simp)
    rw [List.drop_succ_cons, List.flatten_cons, List.drop_append, List.drop_eq_nil_of_le (by rw [hx, Nat.succ_mul]; omega), List.nil_append, ← flat_drop R (fun r hr => hk r (by simp [hr])) i]
    congr 1
    rw [hx, Nat.succ_mul]; omega

/-- the flat cells of the rows lie one behind the other -/
theorem Rows3.flat {k : Nat} {w : World} {a : Addr} {n : Nat} {R : List (List Value)} (h : Rows3 k w (some a) n R) (hk : 0 < k) : ∀ j u, R.flatten[j]? = some u → w.cell? (a.add j) = some u := by
  intro j u hu
  have hj : j < R.flatten.length := (List.getElem?_eq_some_iff.1 hu).1
  rw [flat_length R h.2.1, h.1] at hj
  have hn : 0 < n := by
    rcases Nat.eq_zero_or_pos n with h0 | h0
    · rw [h0] at hj; omega
    · exact h0
  obtain ⟨b, o, e, hlt, hc⟩ := h.2.2 hn
  injection e with e
  subst e
  have hi : j / k < n := by rw [Nat.div_lt_iff_lt_mul hk]; exact hj
  have hr : R[j / k]? = some (R[j / k]'(by rw [h.1]; exact hi)) := List.getElem?_eq_getElem _
  have hl : (R[j / k]'(by rw [h.1]; exact hi)).length = k := h.2.1 _ (List.getElem_mem _)
  have hm : j % k < k := Nat.mod_lt _ hk
  have hv : (R[j / k]'(by rw [h.1]; exact hi))[j % k]? = some ((R[j / k]'(by rw [h.1]; exact hi))[j % k]'(by rw [hl]; exact hm)) := List.getElem?_eq_getElem _
  have hf := flat_get R h.2.1 _ _ hr _ _ hv
  have hd : j / k * k + j % k = j := by rw [Nat.mul_comm]; exact Nat.div_add_mod j k
  rw [hd] at hf
  have hc' := hc _ _ hr _ _ hv
  rw [hu] at hf
  injection hf with hf
  rw [← hf] at hc'
  rw [Nat.add_assoc, hd] at hc'
  unfold Addr.add
  split
  · rename_i h0; subst h0; exact hc'
  · exact hc'

/-- a row of the call's own reads as rows -/
theorem Rows3.of_own {base : Nat} {e k : Nat} {w : World} {A : Option Addr} {n c : Nat} {R : List (List Value)} (h : w.ownsRow base e k (.slice A n c) n R.flatten) (hl : R.length = n) (hk : ∀ r ∈ R, r.length = k) : Rows3 k w A n R := by
  refine ⟨hl, hk, fun hn => ?_⟩
  rcases h.2 with ⟨hv, h0⟩ | ⟨g, cap, cur, hv, hb, hg, hnc, hcm, hcs, htake⟩
  · omega
  · have hA : A = some ⟨g, 0, none⟩ := by injection hv
    subst hA
    refine ⟨g, 0, rfl, (Array.getElem?_eq_some_iff.1 hg).1, fun i r hr j v hv' => ?_⟩
    have hx := flat_get R hk i r hr j v hv'
    have := h.cells (g := g) rfl (i * k + j) v hx
    rwa [show (⟨g, 0, none⟩ : Addr).add (i * k + j) = ⟨g, 0 + i * k + j, none⟩ by unfold Addr.add; split <;> simp <;> omega] at this

end Go.Proofs.Ytdkhpjeiepkldaa
