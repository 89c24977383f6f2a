/-
  OWN. PLAIN PARTS FOR THE WALK of window.Common: lists of lists of spans, edges, the sweep.
-/
import Derived.Test.YtnbbacomhomnmaaWalkD
import Derived.Test.YtnbbacomhomnmaaKit2
import Derived.Maps.AppendAt
set_option linter.unusedSimpArgs false
set_option linter.unusedVariables false
namespace Go.Proofs.Ytnbbacomhomnmaa
open Go.RowKit

theorem info44 : (Try.prog.info? 44).map (fun i => (i.zero, i.size, i.bytes)) = some (some (.agg #[.int .i64 0, .int .i64 0]), 2, 16) := by kernel_rfl

theorem lenS (L : List Sp) : ∀ r ∈ L.map cellsS, r.length = 2 := by
  intro r hr
  obtain ⟨x, _, rfl⟩ := List.mem_map.1 hr
  rfl
theorem cells_new (w : World) (cs : List Value) (t : TypeId) : ∀ j u, cs[j]? = some u → (w.alloc (.cells cs.toArray t)).cell? ((⟨w.heap.size, 0, none⟩ : Addr).add j) = some u := by
  intro j u hj
  have h := cell_of_row (w.alloc (.cells cs.toArray t)) w.heap.size j cs.toArray t (0, 0) (heap_alloc_new w _)
  have e : (⟨w.heap.size, 0, none⟩ : Addr).add j = ⟨w.heap.size, j, none⟩ := by unfold Addr.add; split <;> simp_all
  rw [e, h]
  simpa using hj
theorem max_if (a b : Int) : (if a < b then b else a) = max a b := by rw [Int.max_def]; split <;> split <;> omega
theorem twoE (a b c d : Int) : ∀ u ∈ (([(a, b), (c, d)] : List Sp).map cellsS).flatten, u.oneCell' = true := by
  intro u hu
  simp [cellsS] at hu
  rcases hu with rfl | rfl | rfl | rfl <;> rfl

/-- a row of edges of the call's own -/
def OwnE (base : Nat) (w : World) (v : Value) (M : List Sp) : Prop := w.ownsRow base 44 2 v M.length (M.map cellsS).flatten
theorem OwnE.nil_ (base : Nat) (w : World) : OwnE base w (.slice none 0 0) [] := World.ownsRow_nil _ _ _ _
theorem OwnE.two {base : Nat} {w : World} {v : Value} {M : List Sp} {x y : Sp} (h : w.ownsRow base 44 2 v (M.length + 2) ((M.map cellsS).flatten ++ ([x, y].map cellsS).flatten)) : OwnE base w v (M ++ [x, y]) := by
  unfold OwnE
  simpa using h
theorem OwnE.alloc {base : Nat} {w : World} {v : Value} {M : List Sp} (h : OwnE base w v M) (o : Obj) : OwnE base (w.alloc o) v M := World.ownsRow.alloc h o
theorem OwnE.lt {base : Nat} {w : World} {v : Value} {M : List Sp} (h : OwnE base w v M) : ∀ k, v.ownBlock = some k → base ≤ k ∧ k < w.heap.size := World.ownsRow.lt h
theorem OwnE.below {base : Nat} {w w' : World} {v : Value} {M : List Sp} (h : OwnE base w v M) (hb : Below w.heap.size w w') : OwnE base w' v M := by
  refine ⟨h.1, ?_⟩
  rcases h.2 with h0 | ⟨g, cap, cur, hv, hg, hh, h1, h2, h3, h4⟩
  · exact .inl h0
  · exact .inr ⟨g, cap, cur, hv, hg, by rw [hb.block g (Array.getElem?_eq_some_iff.1 hh).1]; exact hh, h1, h2, h3, h4⟩

/-- the slice '.slice A n c' reads as the lists Ls -/
def RLL (w : World) (A : Option Addr) (n : Nat) (Ls : List (List Sp)) : Prop :=
  Ls.length = n ∧ (0 < n → ∃ b o, A = some ⟨b, o, none⟩ ∧ b < w.heap.size ∧ ∀ i L, Ls[i]? = some L → ∃ A' c', w.cell? ⟨b, o + i, none⟩ = some (.slice A' L.length c') ∧ L.length ≤ 24 ∧ RS w A' L.length L)
theorem RLL.len {w : World} {A : Option Addr} {n : Nat} {Ls : List (List Sp)} (h : RLL w A n Ls) : Ls.length = n := h.1
theorem RLL.at_ {w : World} {A : Option Addr} {n : Nat} {Ls : List (List Sp)} (h : RLL w A n Ls) {i : Nat} (hi : i < n) :
    ∃ b o L A' c', A = some ⟨b, o, none⟩ ∧ b < w.heap.size ∧ Ls[i]? = some L ∧ w.cell? ⟨b, o + i, none⟩ = some (.slice A' L.length c') ∧ L.length ≤ 24 ∧ RS w A' L.length L := by
  obtain ⟨b, o, hA, hb, hc⟩ := h.2 (by omega)
  have hl : i < Ls.length := by rw [h.1]; exact hi
  obtain ⟨A', c', h1, h2, h3⟩ := hc i Ls[i] (List.getElem?_eq_getElem hl)
  exact ⟨b, o, Ls[i], A', c', hA, hb, List.getElem?_eq_getElem hl, h1, h2, h3⟩

theorem take_next {α : Type} {L : List α} {k : Nat} {x : α} (h : L[k]? = some x) : L.take (k + 1) = L.take k ++ [x] := by
  rw [List.take_add_one, h]; rfl

def edges1 (t : Int) (x : Sp) : List Sp := if t < x.2 then [(max x.1 t, 1), (x.2, -1)] else []
def edgesOf (t : Int) (L : List Sp) : List Sp := L.flatMap (edges1 t)
def allE (t : Int) (Ls : List (List Sp)) : List Sp := Ls.flatMap (edgesOf t)
theorem edgesOf_append {t : Int} {L L' : List Sp} : edgesOf t (L ++ L') = edgesOf t L ++ edgesOf t L' := by simp [edgesOf]
theorem allE_append {t : Int} {Ls : List (List Sp)} {L : List Sp} : allE t (Ls ++ [L]) = allE t Ls ++ edgesOf t L := by simp [allE]
theorem edgesOf_in {t : Int} {x : Sp} (h : t < x.2) : edgesOf t [x] = [(max x.1 t, 1), (x.2, -1)] := by simp [edgesOf, edges1, h]
theorem edgesOf_out {t : Int} {x : Sp} (h : ¬ t < x.2) : edgesOf t [x] = [] := by simp [edgesOf, edges1, h]
theorem up_one {t : Int} {Ls : List (List Sp)} : ∀ x ∈ allE t Ls, -1 ≤ x.2 ∧ x.2 ≤ 1 := by
  intro x hx
  obtain ⟨L, _, hx⟩ := List.mem_flatMap.1 hx
  obtain ⟨y, _, hx⟩ := List.mem_flatMap.1 hx
  unfold edges1 at hx
  split at hx
  · simp at hx
    rcases hx with rfl | rfl <;> simp
  · cases hx

/-- the sweep over the sorted edges: the first at which n are open -/
def sweep (n : Int) : Int → List Sp → Int × Bool
  | _, [] => (0, false)
  | o, x :: D => if o + x.2 = n then (x.1, true) else sweep n (o + x.2) D
def commonD (t : Int) (Ls : List (List Sp)) (D : List Sp) : Int × Bool :=
  if ¬ (0 ≤ t ∧ t < 1099511627776) then (0, false) else if ¬ (∀ L ∈ Ls, rightS (-1) L = true) then (0, false) else if Ls = [] then (t, true) else sweep Ls.length 0 D

def CommonPost (t : Int) (Ls : List (List Sp)) (w : World) (e : Ending) (w' : World) : Prop :=
  Below w.heap.size w w' ∧ ∃ D, D.Perm (allE t Ls) ∧ SortedE D ∧ e = .returned (.tuple #[.int .i64 (commonD t Ls D).1, .bool (commonD t Ls D).2])

/-- an insertion sort: there is a sorted one -/
def insE (x : Sp) : List Sp → List Sp
  | [] => [x]
  | y :: L => if x.1 < y.1 ∨ x.1 = y.1 ∧ x.2 < y.2 then x :: y :: L else y :: insE x L
def isortE : List Sp → List Sp
  | [] => []
  | x :: L => insE x (isortE L)
theorem insE_perm (x : Sp) : ∀ L, (insE x L).Perm (x :: L)
  | [] => List.Perm.refl _
  | y :: L => by
    unfold insE
    split
    · exact List.Perm.refl _
    · exact ((insE_perm x L).cons y).trans (List.Perm.swap x y L)
theorem insE_sorted (x : Sp) : ∀ L, SortedE L → SortedE (insE x L)
  | [], _ => by simp [insE, SortedE]
  | y :: L, h => by
    unfold SortedE at *
    rw [List.pairwise_cons] at h
    unfold insE
    split
    · rename_i hlt
      rw [List.pairwise_cons, List.pairwise_cons]
      refine ⟨fun z hz hzx => ?_, h.1, h.2⟩
      rcases List.mem_cons.1 hz with rfl | hz
      · unfold ltE at hzx; omega
      · have := h.1 z hz
        unfold ltE at *; omega
    · rename_i hlt
      rw [List.pairwise_cons]
      refine ⟨fun z hz => ?_, insE_sorted x L h.2⟩
      rcases List.mem_cons.1 ((insE_perm x L).mem_iff.1 hz) with rfl | hz
      · exact hlt
      · exact h.1 z hz
theorem isortE_perm : ∀ L, (isortE L).Perm L
  | [] => List.Perm.refl _
  | x :: L => (insE_perm x _).trans ((isortE_perm L).cons x)
theorem isortE_sorted : ∀ L, SortedE (isortE L)
  | [] => List.Pairwise.nil
  | x :: L => insE_sorted x _ (isortE_sorted L)
/-- the sorted list is one -/
theorem sortedE_one : ∀ (D D' : List Sp), D.Perm D' → SortedE D → SortedE D' → D = D' := by
  intro D D' hp h h'
  exact List.Perm.eq_of_pairwise (le := fun x y => ¬ ltE y x) (fun a b _ _ h1 h2 => by unfold ltE at h1 h2; exact Prod.ext (by omega) (by omega)) h h' hp

theorem CommonPost.of {t : Int} {Ls : List (List Sp)} {w w' : World} {a : Int} {b : Bool} (hb : Below w.heap.size w w') (h : ∀ D, D.Perm (allE t Ls) → SortedE D → commonD t Ls D = (a, b)) : CommonPost t Ls w (.returned (.tuple #[.int .i64 a, .bool b])) w' := by
  have := h _ (isortE_perm _) (isortE_sorted _)
  exact ⟨hb, _, isortE_perm _, isortE_sorted _, by rw [this]⟩
theorem CommonPost.early {t : Int} {Ls : List (List Sp)} {w w' : World} (h : ¬ (0 ≤ t ∧ t < 1099511627776)) (hb : Below w.heap.size w w') : CommonPost t Ls w (.returned (.tuple #[.int .i64 0, .bool false])) w' :=
  CommonPost.of hb fun D _ _ => by unfold commonD; rw [if_pos h]
theorem CommonPost.bad {t : Int} {Ls : List (List Sp)} {w w' : World} (h0 : 0 ≤ t ∧ t < 1099511627776) (h : ¬ ∀ L ∈ Ls, rightS (-1) L = true) (hb : Below w.heap.size w w') : CommonPost t Ls w (.returned (.tuple #[.int .i64 0, .bool false])) w' :=
  CommonPost.of hb fun D _ _ => by unfold commonD; rw [if_neg (by simpa using h0), if_pos h]
theorem CommonPost.none {t : Int} {Ls : List (List Sp)} {w w' : World} (h0 : 0 ≤ t ∧ t < 1099511627776) (h : Ls = []) (hb : Below w.heap.size w w') : CommonPost t Ls w (.returned (.tuple #[.int .i64 t, .bool true])) w' :=
  CommonPost.of hb fun D _ _ => by subst h; unfold commonD; rw [if_neg (by simpa using h0), if_neg (by simp), if_pos rfl]
theorem CommonPost.swept {t : Int} {Ls : List (List Sp)} {w w' : World} {D : List Sp} {r : Int × Bool} (h0 : 0 ≤ t ∧ t < 1099511627776) (h : ∀ L ∈ Ls, rightS (-1) L = true) (hL : Ls ≠ []) (hp : D.Perm (allE t Ls)) (hs : SortedE D) (hr : sweep Ls.length 0 D = r) (hb : Below w.heap.size w w') :
    CommonPost t Ls w (.returned (.tuple #[.int .i64 r.1, .bool r.2])) w' :=
  ⟨hb, D, hp, hs, by unfold commonD; rw [if_neg (by simpa using h0), if_neg (by simpa using h), if_neg hL, hr]⟩

/-- slices.SortFunc at the row of edges, nil or not -/
def SortPost (base : Nat) (E : List Sp) (v : Value) (w : World) (e : Ending) (w' : World) : Prop :=
  e = .returned (.tuple #[]) ∧ ∃ (A : Option Addr) (c : Nat) (D : List Sp), v = .slice A E.length c ∧ D.Perm E ∧ SortedE D ∧ RS w' A E.length D ∧ Below base w w'
theorem sortE_any {base : Nat} {w : World} {v : Value} {E : List Sp} (h : OwnE base w v E) (hm : E.length < 1000000) :
    Calls Try.prog 17 #[v, .func (.func 18) #[] #[]] w (SortPost base E v w) := by
  have h2 := h.2
  rcases h2 with ⟨rfl, h0⟩ | ⟨g, cap, cur, rfl, _⟩
  · have hE : E = [] := List.eq_nil_of_length_eq_zero h0
    subst hE
    have hcon := AnyF.slices_SortFunc_none Try.sortEdge none 0 (.func (.func 18) #[] #[]) w
    change Calls Try.prog 17 _ w _ at hcon
    refine hcon.mono ?_
    rintro e w' ⟨rfl, rfl⟩
    exact ⟨rfl, none, 0, [], rfl, List.Perm.refl _, List.Pairwise.nil, RS.nil_, Below.refl _ _⟩
  · refine (sort_any base g cap E w h hm).mono ?_
    rintro e w' ⟨rfl, D, hp, hs, hR, hb⟩
    exact ⟨rfl, _, cap, D, rfl, hp, hs, hR, hb⟩
end Go.Proofs.Ytnbbacomhomnmaa
