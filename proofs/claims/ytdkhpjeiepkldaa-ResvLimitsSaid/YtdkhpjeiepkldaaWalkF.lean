/-
  OWN. THE WALKS of profile's add and Take, where nothing stands behind the span's beginning.
-/
import Derived.Test.YtdkhpjeiepkldaaWalkE
import Derived.Test.YtdkhpjeiepkldaaKit2
set_option linter.unusedSimpArgs false
set_option linter.unusedVariables false
namespace Go.Proofs.Ytdkhpjeiepkldaa
open Go.RowKit

/-- what is left of the steps: each unlike the one ahead -/
def filterF : Nat → List St → List St
  | _, [] => []
  | f, x :: L => if x.2 = f then filterF f L else x :: filterF x.2 L
theorem filterF_same {f : Nat} {x : St} {L : List St} (h : x.2 = f) : filterF f (x :: L) = filterF f L := by rw [filterF, if_pos h]
theorem filterF_other {f : Nat} {x : St} {L : List St} (h : ¬ x.2 = f) : filterF f (x :: L) = x :: filterF x.2 L := by rw [filterF, if_neg h]
def flatT (L : List St) : List Value := (L.map cellsT).flatten
theorem flatT_len (L : List St) : (flatT L).length = L.length * 2 := by unfold flatT; rw [flat_length _ (cellsT_len L), List.length_map]
theorem flatT_append (L M : List St) : flatT (L ++ M) = flatT L ++ flatT M := by simp [flatT]
theorem flatT_cons (x : St) (L : List St) : flatT (x :: L) = .int .i64 x.1 :: C x.2 :: flatT L := by simp [flatT, cellsT]
theorem drop_at {α : Type} {L : List α} {k : Nat} {x : α} (h : L[k]? = some x) : L.drop k = x :: L.drop (k + 1) := by
  obtain ⟨hk, rfl⟩ := List.getElem?_eq_some_iff.1 h
  exact List.drop_eq_getElem_cons hk

theorem ordB_eq (i : Nat) (hi : i ≤ 2) : (FloatKind.f64.format.order (B i) (B i) == some Ordering.eq) = true := by
  rcases (show i = 0 ∨ i = 1 ∨ i = 2 by omega) with rfl | rfl | rfl <;> kernel_rfl
theorem ordB_ne (i j : Nat) (hi : i ≤ 2) (hj : j ≤ 2) (h : i ≠ j) : (FloatKind.f64.format.order (B i) (B j) == some Ordering.eq) = false := by
  rcases (show i = 0 ∨ i = 1 ∨ i = 2 by omega) with rfl | rfl | rfl <;> rcases (show j = 0 ∨ j = 1 ∨ j = 2 by omega) with rfl | rfl | rfl <;> first | exact absurd rfl h | kernel_rfl

/-- the state of the filter's loop: F is kept, the rest of L from q on is still to come, in the same row -/
structure Filt (base : Nat) (w0 wr : World) (p c g cap : Nat) (v : Value) (L : List St) (q fr : Nat) (F : List St) (cur : List Value) : Prop where
  hb : Below base w0 wr
  blk : wr.heap[p]? = some (.cells #[C c, v] 56 (0, 0))
  row : wr.heap[g]? = some (.cells cur.toArray 71 (0, 0))
  len : cur.length = cap * 2
  kept : cur.take (F.length * 2) = flatT F
  rest : ∃ tl, cur.drop (q * 2) = flatT (L.drop q) ++ tl
  all : filterF c L = F ++ filterF fr (L.drop q)

theorem Filt.cells {base : Nat} {w0 wr : World} {p c g cap : Nat} {v : Value} {L : List St} {q fr : Nat} {F : List St} {cur : List Value} (h : Filt base w0 wr p c g cap v L q fr F cur) {x : St} (hx : L[q]? = some x) :
    wr.cell? ⟨g, q * 2, none⟩ = some (.int .i64 x.1) ∧ wr.cell? ⟨g, q * 2 + 1, none⟩ = some (C x.2) := by
  obtain ⟨tl, ht⟩ := h.rest
  rw [drop_at hx, flatT_cons] at ht
  have k0 : cur[q * 2]? = some (.int .i64 x.1) := by
    have := congrArg (fun l => l[0]?) ht
    simpa [List.getElem?_drop] using this
  have k1 : cur[q * 2 + 1]? = some (C x.2) := by
    have := congrArg (fun l => l[1]?) ht
    simpa [List.getElem?_drop] using this
  exact ⟨by rw [cell_of_row wr g _ _ _ (0, 0) h.row]; simpa using k0, by rw [cell_of_row wr g _ _ _ (0, 0) h.row]; simpa using k1⟩
theorem Filt.skip {base : Nat} {w0 wr : World} {p c g cap : Nat} {v : Value} {L : List St} {q fr : Nat} {F : List St} {cur : List Value} (h : Filt base w0 wr p c g cap v L q fr F cur) {x : St} (hx : L[q]? = some x) (hs : x.2 = fr) (o : Obj) (hbase : base ≤ wr.heap.size) :
    Filt base w0 (wr.alloc o) p c g cap v L (q + 1) fr F cur := by
  obtain ⟨tl, ht⟩ := h.rest
  refine ⟨h.hb.alloc hbase o, (((Below.refl _ _).alloc (Nat.le_refl _) o).block p (Array.getElem?_eq_some_iff.1 h.blk).1).trans h.blk, (((Below.refl _ _).alloc (Nat.le_refl _) o).block g (Array.getElem?_eq_some_iff.1 h.row).1).trans h.row, h.len, h.kept, ⟨tl, ?_⟩, ?_⟩
  · rw [drop_at hx, flatT_cons] at ht
    rw [show (q + 1) * 2 = q * 2 + 2 by omega, ← List.drop_drop, ht]
    rfl
  · rw [h.all, drop_at hx, filterF_same hs]
theorem Filt.keep {base : Nat} {w0 wr : World} {p c g cap : Nat} {v : Value} {L : List St} {q fr : Nat} {F : List St} {cur : List Value} (h : Filt base w0 wr p c g cap v L q fr F cur) {x : St} (hx : L[q]? = some x) (hs : ¬ x.2 = fr) (hF : F.length ≤ q) (hq : q < cap)
    (hbase : base ≤ wr.heap.size) (hgb : base ≤ g) (hpg : p ≠ g) (w3 : World) (hb3 : Below wr.heap.size wr w3) :
    w3.heap[g]? = some (.cells cur.toArray 71 (0, 0)) ∧ Filt base w0 (w3.setRow g (cur.take (F.length * 2) ++ [.int .i64 x.1, C x.2] ++ cur.drop (F.length * 2 + 2)).toArray) p c g cap v L (q + 1) x.2 (F ++ [x]) (cur.take (F.length * 2) ++ [.int .i64 x.1, C x.2] ++ cur.drop (F.length * 2 + 2)) := by
  obtain ⟨tl, ht⟩ := h.rest
  have hg3 : w3.heap[g]? = some (.cells cur.toArray 71 (0, 0)) := (hb3.block g (Array.getElem?_eq_some_iff.1 h.row).1).trans h.row
  have hlen := h.len
  have htl : (cur.take (F.length * 2)).length = F.length * 2 := by rw [List.length_take, hlen]; omega
  refine ⟨hg3, ?_, ?_, ?_, ?_, ?_, ⟨tl, ?_⟩, ?_⟩
  · exact (h.hb.trans (hb3.mono hbase)).grown (grown_setRow w3 g _) (by have := hb3.size; omega) (fun k hk => by injection hk with hk; omega)
  · rw [setRow_other w3 g p _ hpg, hb3.block p (Array.getElem?_eq_some_iff.1 h.blk).1]; exact h.blk
  · exact setRow_heap w3 g cur.toArray _ 71 _ hg3
  · simp only [List.length_append, htl, List.length_drop, hlen, List.length_cons, List.length_nil]; omega
  · rw [h.kept, flatT_append, List.length_append, List.length_singleton, flatT_cons]
    rw [List.take_append_of_le_length (by rw [List.length_append, flatT_len]; simp; omega), List.take_of_length_le (by rw [List.length_append, flatT_len]; simp; omega)]
    rfl
  · rw [drop_at hx, flatT_cons] at ht
    have h2 : cur.drop ((q + 1) * 2) = flatT (L.drop (q + 1)) ++ tl := by
      rw [show (q + 1) * 2 = q * 2 + 2 by omega, ← List.drop_drop, ht]
      rfl
    rw [List.drop_append, List.drop_eq_nil_of_le (by rw [List.length_append, htl]; simp; omega), List.nil_append, List.drop_drop, List.length_append, htl]
    rw [← h2]
    congr 1
    simp; omega
  · rw [h.all, drop_at hx, filterF_other hs, List.append_assoc]; rfl
end Go.Proofs.Ytdkhpjeiepkldaa
