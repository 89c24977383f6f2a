/-
  OWN. THE WALKS of slices.Insert of a step at the end and of profile's split.
-/
import Derived.Test.YtdkhpjeiepkldaaWalkC
import Derived.Maps.AppendAt
import Derived.Deep.RegionLaw
import Derived.Laws.OwnMore
set_option linter.unusedSimpArgs false
set_option linter.unusedVariables false
namespace Go.Proofs.Ytdkhpjeiepkldaa
open Go.RowKit

theorem info71 : (Try.prog.info? 71).map (fun i => (i.zero, i.size, i.bytes)) = some (some (.agg #[.int .i64 0, .complex .f64 0 0]), 2, 24) := by kernel_rfl
theorem cells_new (w : World) (cs : List Value) (t : TypeId) : ∀ j u, cs[j]? = some u → (w.alloc (.cells cs.toArray t)).cell? ((⟨w.heap.size, 0, none⟩ : Addr).add j) = some u := by
  intro j u hj
  have h := cell_of_row (w.alloc (.cells cs.toArray t)) w.heap.size j cs.toArray t (0, 0) (heap_alloc_new w _)
  have e : (⟨w.heap.size, 0, none⟩ : Addr).add j = ⟨w.heap.size, j, none⟩ := by unfold Addr.add; split <;> simp_all
  rw [e, h]
  simpa using hj
theorem ownsRow_below {base : Nat} {e : TypeId} {size : Nat} {w w' : World} {v : Value} {n : Nat} {xs : List Value} (h : w.ownsRow base e size v n xs) (hb : Below w.heap.size w w') : w'.ownsRow base e size v n xs := by
  refine ⟨h.1, ?_⟩
  rcases h.2 with h0 | ⟨g, cap, cur, hv, hg, hh, h1, h2, h3, h4⟩
  · exact .inl h0
  · exact .inr ⟨g, cap, cur, hv, hg, by rw [hb.block g (Array.getElem?_eq_some_iff.1 hh).1]; exact hh, h1, h2, h3, h4⟩

def InsPost (base : Nat) (e size : Nat) (v : Value) (n : Nat) (ys : List Value) (w : World) (en : Ending) (w' : World) : Prop :=
  ∃ v', en = .returned v' ∧ w'.ownsRow base e size v' (n + 1) ys ∧ w.grownBy w' v.ownBlock ∧ (v'.ownBlock = v.ownBlock ∨ v'.ownBlock = some w.heap.size)

set_option maxHeartbeats 400000 in
theorem insT_end (base : Nat) (v : Value) (n : Nat) (xs news : List Value) (vb : Nat) (w : World) (hown : w.ownsRow base 71 2 v n xs) (hbase : base ≤ w.heap.size) (hn : n < 1000000)
    (hl : news.length = 2) (hcell : ∀ j u, news[j]? = some u → w.cell? ((⟨vb, 0, none⟩ : Addr).add j) = some u) (h1 : ∀ u ∈ news, u.oneCell' = true) :
    Calls Try.prog 44 #[v, .int .i64 n, .slice (some ⟨vb, 0, none⟩) 1 1] w (InsPost base 71 2 v n (xs ++ news) w) := by
  obtain ⟨i0, hi, hz0, hz1, hz2⟩ := info_parts info71
  have hm : n + 1 ≤ maxLen := by simp only [maxLen]; omega
  rcases hown.2 with ⟨rfl, rfl⟩ | ⟨g, cap, cur, rfl, hb, hg, hnc, hcm, hcs, htake⟩
  · have HC := hide hcell
    clear hcell
    go_enter Try.func44, Try.ntmps44
    go_wp2_with (at_builtin; refine wpList_append_own_at _ rfl (.tmp 23) (.tmp 24) _ rfl base 71 i0 _ 2 24 Try.underlying54 hi hz0 hz1 hz2 rfl (by decide) (.slice none 0 0) 0 xs rfl hown ⟨vb, 0, none⟩ 1 1 news rfl hl HC.out h1 hm (by omega) hbase ?_; intro v' w1 hown1 hgr1 _ hat)
    go_ret
    exact ⟨v', rfl, hown1, hgr1, hat⟩
  · simp only [maxLen] at hcm
    clear htake hcs hg
    have HC := hide hcell
    clear hcell
    go_enter Try.func44, Try.ntmps44
    go_wp2_with (at_builtin; refine wpList_append_own_at _ rfl (.tmp 23) (.tmp 24) _ rfl base 71 i0 _ 2 24 Try.underlying54 hi hz0 hz1 hz2 rfl (by decide) (.slice (some ⟨g, 0, none⟩) n cap) n xs rfl hown ⟨vb, 0, none⟩ 1 1 news rfl hl HC.out h1 hm (by omega) hbase ?_; intro v' w1 hown1 hgr1 _ hat)
    all_goals go_ret
    all_goals exact ⟨v', rfl, hown1, hgr1, hat⟩

theorem oneT (t : Int) (a : Nat) : ∀ u ∈ ([.int .i64 t, C a] : List Value), u.oneCell' = true := by
  intro u hu
  simp at hu
  rcases hu with rfl | rfl <;> rfl
theorem cellsT_len (L : List St) : ∀ r ∈ L.map cellsT, r.length = 2 := by
  intro r hr
  obtain ⟨x, _, rfl⟩ := List.mem_map.1 hr
  rfl

/-- the profile at block p, of the call's own -/
structure Prof (base : Nat) (w : World) (p c : Nat) (v : Value) (L : List St) : Prop where
  hp : base ≤ p
  blk : w.heap[p]? = some (.cells #[C c, v] 56 (0, 0))
  own : w.ownsRow base 71 2 v L.length (L.map cellsT).flatten
  ne : v.ownBlock ≠ some p
theorem Prof.lt {base : Nat} {w : World} {p c : Nat} {v : Value} {L : List St} (h : Prof base w p c v L) : p < w.heap.size := (Array.getElem?_eq_some_iff.1 h.blk).1
theorem Prof.base_le {base : Nat} {w : World} {p c : Nat} {v : Value} {L : List St} (h : Prof base w p c v L) : base ≤ w.heap.size := by have := h.hp; have := h.lt; omega
theorem Prof.c0 {base : Nat} {w : World} {p c : Nat} {v : Value} {L : List St} (h : Prof base w p c v L) : w.cell? ⟨p, 0, none⟩ = some (C c) := by
  rw [cell_of_row w p 0 _ _ (0, 0) h.blk]; rfl
theorem Prof.c1 {base : Nat} {w : World} {p c : Nat} {v : Value} {L : List St} (h : Prof base w p c v L) : w.cell? ⟨p, 1, none⟩ = some v := by
  rw [cell_of_row w p 1 _ _ (0, 0) h.blk]; rfl
theorem Prof.fz {base : Nat} {w : World} {p c : Nat} {v : Value} {L : List St} (h : Prof base w p c v L) (j : Nat) : w.frozen? ⟨p, j, none⟩ = false := by
  unfold World.frozen?
  simp [h.blk]
theorem Prof.rp {base : Nat} {w : World} {p c : Nat} {v : Value} {L : List St} (h : Prof base w p c v L) : ∃ A cap, v = .slice A L.length cap ∧ RP w p c A cap L := by
  rcases h.own.2 with ⟨hv, h0⟩ | ⟨g, cap, cur, hv, _⟩
  · have hL : L = [] := List.eq_nil_of_length_eq_zero h0
    subst hL
    exact ⟨none, 0, hv, h.lt, h.c0, by rw [h.c1, hv]; rfl, Rows3.nil_⟩
  · refine ⟨some ⟨g, 0, none⟩, cap, hv, h.lt, h.c0, by rw [h.c1, hv], ?_⟩
    have ho := h.own
    rw [hv] at ho
    exact Rows3.of_own ho (by rw [List.length_map]) (cellsT_len L)
theorem Prof.below {base : Nat} {w w' : World} {p c : Nat} {v : Value} {L : List St} (h : Prof base w p c v L) (hb : Below w.heap.size w w') : Prof base w' p c v L :=
  ⟨h.hp, (hb.block p h.lt).trans h.blk, ownsRow_below h.own hb, h.ne⟩
end Go.Proofs.Ytdkhpjeiepkldaa
