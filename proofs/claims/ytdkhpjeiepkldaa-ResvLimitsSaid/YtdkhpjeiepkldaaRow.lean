/-
  OWN. WHAT A LAW'S ROW ASKS BEHIND THE WALK, once for all laws of this seat: the result is true, each argument reads as it read, nothing that was there has turned; and a slice of structs of int fields, opened.
-/
import Derived.Test.YtdkhpjeiepkldaaKit
import Derived.ProofKit
import Derived.OpenShut
import Derived.Deep.Slices
import Derived.Deep.Fields
import Derived.ChangeSame
set_option linter.unusedSimpArgs false
set_option linter.unusedVariables false
namespace Go.Proofs.Ytdkhpjeiepkldaa
open Go.ChangeShapes Go.WideShapes Go.ChangeAt Go.RowKit Go.Deep

section
variable {H : Type} {enc : TypeId × Value → H} {P : Program}

/-- what was read before reads the same behind a call that left it alone -/
theorem trodAll_keep (hl : laidOutB P = true) {W W' : World} (hb : Below W.heap.size W W') : ∀ (ts : List TypeId) (vs : List Value) (ds : List (DataW H)) (ps : List MemPlace),
    (∀ t ∈ ts, P.readableRec t = true ∧ t < P.types.size) → DataW.TrodAll enc P W 0 (fun _ => true) true ts vs ds ps → (∀ p ∈ ps, p.block < W.heap.size) →
    DataW.TrodAll enc P W' 0 (fun b => decide (b < W.heap.size)) true ts vs ds ps
  | [], vs, ds, ps, _, h, _ => by
    obtain ⟨rfl, rfl, rfl⟩ := trodAll_nil h
    exact trodAll_mk0
  | t :: ts, vs, ds, ps, hr, h, hp => by
    obtain ⟨v, vs', d, ds', p, q, rfl, rfl, rfl, h0, h1⟩ := trodAll_cons h
    exact trodAll_cons_mk (Below.trod hl (hr t (by simp)).1 (hr t (by simp)).2 h0 hb (fun x hx => hp x (by simp [hx])))
      (trodAll_keep hl hb ts vs' ds' q (fun u hu => hr u (by simp [hu])) h1 (fun x hx => hp x (by simp [hx])))

/-- THE ROW'S post AT A LAW: the call answered true and left alone what was there. -/
theorem post_law {f : Func} {s : ChangeSpec} {W W' : World} {args : Array Value} {ds gs : List (DataW H)} {before : List MemPlace} {t : TypeId}
    (hl : laidOutB P = true) (hvars : s.vars = []) (hW : DataW.Whole enc P f.params.toList s.vars false W args.toList ds gs before)
    (hfn : s.fn H (ds ++ gs) = { results := [.lit (.bool true)], args := ds }) (hres : f.resultTypes.toList = [t]) (hsz : f.resultTypes.size = 1) (ht : P.underlying t = some .bool)
    (hr : ∀ u ∈ f.params.toList, P.readableRec u = true ∧ u < P.types.size) (hb : Below W.heap.size W W') : s.post enc P f false true false false W args (.bool true) W' := by
  have hlt : ∀ p ∈ before, p.block < W.heap.size := fun p hp => hW.lt p hp
  have hW0 := hW
  obtain ⟨p, q, hA, hV, rfl, _, _⟩ := hW
  rw [hvars] at hV
  obtain ⟨rfl, rfl⟩ := trodVars_none hV
  refine ⟨ds, [], p ++ [], [], p, [], hW0, ?_, ?_, ?_, World.keptBut_mono (fun x hx => ⟨hx, .inr (.inl (by simpa using hx))⟩) (hb.frame (· ∈ p ++ [])), fun h => by cases h⟩
  · rw [hfn, hres, hsz]
    exact trodAll_mk1 (shut_bool ht true)
  · rw [hfn]
    exact trodAll_keep hl hb _ _ _ _ hr hA (fun x hx => hlt x (by simp [hx]))
  · rw [hfn, hvars]
    exact rfl
end

/-- the ints of a struct of int fields, one cell each -/
def intCells (zs : List Int) : List Value := zs.map fun z => .int .i64 z

section
variable {H : Type} {enc : TypeId × Value → H} {P : Program} {w : World} {base : Nat} {spare : Nat → Bool} {held : Bool}
theorem plain_add {b o : Nat} (j : Nat) : (⟨b, o, none⟩ : Addr).add j = ⟨b, o + j, none⟩ := by
  unfold Addr.add
  split
  · rename_i h; subst h; rfl
  · rfl
theorem spot_of_cell {w : World} {a : Addr} {v : Value} (h : w.cell? a = some v) : a.spot = none := by
  unfold World.cell? at h
  split at h
  · split at h
    · cases h
    · rename_i hs; simpa using hs
  · cases h
/-- one struct of int fields -/
theorem open_int_struct {e : TypeId} {fs : Array Field} {fuel : Nat} {cs : List Value} {x : DataW H × List MemPlace} (he : P.underlying e = some (.struct fs))
    (hone : oneCellFields P fs = true) (hint : ∀ f ∈ fs, P.underlying f.type = some (.int .i64)) (hC : P.cellsOf e = fs.size)
    (h : DataW.trod enc P w base spare held fuel e cs = some x) : ∃ r : List Int, cs = intCells r ∧ r.length = fs.size ∧ ∀ z ∈ r, (Lit.int .i64 z).wf = true := by
  obtain ⟨xs, n', _, _, hlen, hxl, hf⟩ := DataW.trod_struct he h
  rw [hC] at hlen
  have each : ∀ j, j < fs.size → ∃ z : Int, cs[j]? = some (.int .i64 z) ∧ (Lit.int .i64 z).wf = true := fun j hj => by
    obtain ⟨ho, hk⟩ := hone_of hone j fs[j] (Array.getElem?_eq_getElem hj)
    have h1 := hf j fs[j] (Array.getElem?_eq_getElem hj)
    rw [ho, hk, List.drop_eq_getElem_cons (by omega), List.take_succ_cons, List.take_zero, List.getElem?_eq_getElem (by omega)] at h1
    obtain ⟨z, hz, _, hw⟩ := DataW.trod_int (hint _ (Array.getElem_mem hj)) h1
    refine ⟨z, ?_, hw⟩
    rw [List.getElem?_eq_getElem (by omega)]
    simpa using hz
  obtain ⟨f, hfz⟩ := choose_lt each
  refine ⟨(List.range fs.size).map f, ?_, by simp, ?_⟩
  · apply List.ext_getElem?
    intro j
    by_cases hj : j < fs.size
    · rw [(hfz j hj).1]
      simp [intCells, hj]
    · rw [List.getElem?_eq_none (by omega), List.getElem?_eq_none (by simp [intCells]; omega)]
  · intro z hz
    obtain ⟨j, hj, rfl⟩ := List.mem_map.1 hz
    exact (hfz j (List.mem_range.1 hj)).2
/-- a slice of structs whose fields are all ints: its rows -/
theorem open_int_structs {t e : TypeId} {fs : Array Field} {fuel : Nat} {cs : List Value} {x : DataW H × List MemPlace} (ht : P.underlying t = some (.slice e)) (he : P.underlying e = some (.struct fs))
    (hone : oneCellFields P fs = true) (hint : ∀ f ∈ fs, P.underlying f.type = some (.int .i64)) (hC : P.cellsOf e = fs.size) (hfs : 0 < fs.size)
    (h : DataW.trod enc P w base spare held fuel t cs = some x) :
    ∃ (A : Option Addr) (n c : Nat) (R : List (List Int)), cs = [.slice A n c] ∧ (A = none → n = 0 ∧ c = 0) ∧ n ≤ maxLen ∧ (∀ r ∈ R, r.length = fs.size) ∧ Rows3 fs.size w A n (R.map intCells) ∧ (∀ r ∈ R, ∀ z ∈ r, (Lit.int .i64 z).wf = true) := by
  rcases open_slice ht h with ⟨rfl, _⟩ | ⟨a, len, cap, m, n, D, Pl, rfl, hb, hl, hm, hmm, rfl, hx⟩
  · exact ⟨none, 0, 0, [], rfl, fun _ => ⟨rfl, rfl⟩, by simp [maxLen], by simp, Rows3.nil_, by simp⟩
  · have hlm : len ≤ m := by rw [hmm]; split <;> omega
    have each : ∀ i, i < len → ∃ r : List Int, (∀ j v, (intCells r)[j]? = some v → w.cell? ((a.add (i * fs.size)).add j) = some v) ∧ r.length = fs.size ∧ ∀ z ∈ r, (Lit.int .i64 z).wf = true := fun i hi => by
      obtain ⟨cs', h1, h2⟩ := hx i (by omega)
      obtain ⟨r, rfl, hr, hw⟩ := open_int_struct he hone hint hC h2
      rw [hC] at h1
      obtain ⟨_, hlen, hcell⟩ := World.cells?_some h1
      refine ⟨r, fun j v hj => ?_, hr, hw⟩
      have hj' : j < fs.size := by have := (List.getElem?_eq_some_iff.1 hj).1; simp [intCells] at this; omega
      rw [hcell j hj']; exact hj
    obtain ⟨f, hf⟩ := choose_lt each
    refine ⟨some a, len, cap, (List.range len).map f, rfl, (fun h => by cases h), by omega, ?_, ⟨by simp, ?_, fun hn => ?_⟩, ?_⟩
    · intro r hr
      obtain ⟨i, hi, rfl⟩ := List.mem_map.1 hr
      exact (hf i (List.mem_range.1 hi)).2.1
    · intro r hr
      obtain ⟨q, hq, rfl⟩ := List.mem_map.1 hr
      obtain ⟨i, hi, rfl⟩ := List.mem_map.1 hq
      simpa [intCells] using (hf i (List.mem_range.1 hi)).2.1
    · have h0 := hf 0 hn
      have hz : 0 < (intCells (f 0)).length := by simp [intCells]; omega
      have hc0 := h0.1 0 _ (List.getElem?_eq_getElem hz)
      have hs : a.spot = none := by
        have := spot_of_cell hc0
        simpa [Addr.add] using this
      obtain ⟨b, o, s⟩ := a
      simp only at hs
      subst hs
      refine ⟨b, o, rfl, by have := World.block_lt_of_cell? w _ hc0; rwa [plain_add, plain_add] at this, fun i r hr j v hv => ?_⟩
      rw [List.getElem?_map, List.getElem?_map] at hr
      by_cases hi : i < len
      · simp [hi] at hr
        subst hr
        have := (hf i hi).1 j v hv
        rwa [plain_add, plain_add] at this
      · simp [hi] at hr
    · intro r hr
      obtain ⟨i, hi, rfl⟩ := List.mem_map.1 hr
      exact (hf i (List.mem_range.1 hi)).2.2
end
end Go.Proofs.Ytdkhpjeiepkldaa
