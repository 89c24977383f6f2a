/-
  OWN. SMALL LAWS FOR THE WALK of resv.Add: its two regions that draw their order.
-/
import Derived.Test.YtdkhpjeiepkldaaWalkK
import Derived.Test.YtdkhpjeiepkldaaWalkN
set_option linter.unusedSimpArgs false
set_option linter.unusedVariables false
namespace Go.Proofs.Ytdkhpjeiepkldaa
open Go.RowKit

abbrev busyO (f : Int) : Obj := .cells #[.int .i64 f, .int .i64 (f + 1), K1] 27
abbrev threeO (g1 N g2 : Nat) : Obj := .cells #[.slice none 0 0, .slice (some ⟨g1, 0, none⟩) N N, .slice (some ⟨g2, 0, none⟩) 1 1] 35
theorem RB.one (w : World) (f : Int) : RB (w.alloc (busyO f)) (some ⟨w.heap.size, 0, none⟩) 1 [f] := by
  refine ⟨rfl, by simp [cellsB], fun _ => ⟨w.heap.size, 0, rfl, by simp, fun i r hr j v hv => ?_⟩⟩
  match i, hr with
  | 0, hr =>
    simp at hr
    subst hr
    rw [cell_of_row _ w.heap.size _ _ _ (0, 0) (heap_alloc_new w _)]
    simpa [cellsB] using hv
theorem three_cells (w : World) (g1 N g2 : Nat) : (w.alloc (threeO g1 N g2)).cell? ⟨w.heap.size, 0, none⟩ = some (.slice none 0 0) ∧ (w.alloc (threeO g1 N g2)).cell? ⟨w.heap.size, 1, none⟩ = some (.slice (some ⟨g1, 0, none⟩) N N) ∧ (w.alloc (threeO g1 N g2)).cell? ⟨w.heap.size, 2, none⟩ = some (.slice (some ⟨g2, 0, none⟩) 1 1) :=
  ⟨by rw [cell_of_row _ w.heap.size 0 _ _ (0, 0) (heap_alloc_new w _)]; rfl, by rw [cell_of_row _ w.heap.size 1 _ _ (0, 0) (heap_alloc_new w _)]; rfl, by rw [cell_of_row _ w.heap.size 2 _ _ (0, 0) (heap_alloc_new w _)]; rfl⟩
theorem below_alloc (w : World) (o : Obj) : Below w.heap.size w (w.alloc o) := (Below.refl _ _).alloc (Nat.le_refl _) o

/-- Concat in the region: the one row lies in the last block but one, or was laid ahead of Load -/
theorem concat_at {w6 w7 : World} {g1 N g2 : Nat} {f : Int} (hb7 : Below w6.heap.size w6 w7) (hL : RB w7 (some ⟨g1, 0, none⟩) N (froms N)) (hO : RB w7 (some ⟨g2, 0, none⟩) 1 [f]) (hN : N ≤ 1000) :
    Calls Try.prog 8 #[.slice (some ⟨w7.heap.size, 0, none⟩) 3 3] (w7.alloc (threeO g1 N g2)) (ConcatPost N f w6) := by
  obtain ⟨s0, s1, s2⟩ := three_cells w7 g1 N g2
  refine (concat_any w7.heap.size g1 g2 N 3 f _ (by simp) s0 s1 s2 (hL.after (below_alloc _ _)) (hO.after (below_alloc _ _)) hN).mono ?_
  rintro e w8 ⟨hb8, h⟩
  exact ⟨bafter (hb7.trans ((below_alloc w7 _).mono hb7.size)) (by have := hb7.size; simp; omega) hb8, h⟩

/-- Load in the region, ahead of the one row -/
theorem load_first (A : Option Addr) (N cap : Nat) (f : Int) (w6 : World) (h : RR w6 A N) (hN : N ≤ 1000) :
    Calls Try.prog 9 #[.slice A N cap] w6.drew fun e w7 => ∃ g1 : Nat, e = .returned (.slice (some ⟨g1, 0, none⟩) N N) ∧ Below w6.heap.size w6 w7 ∧
      Hid (Calls Try.prog 8 #[.slice (some ⟨w7.heap.size + 1, 0, none⟩) 3 3] ((w7.alloc (busyO f)).alloc (threeO g1 N w7.heap.size)) (ConcatPost N f w6)) := by
  refine (load_any A N cap w6.drew (h.after ((Below.refl _ _).drew)) hN).mono ?_
  rintro e w7 ⟨hb, g1, rfl, hL⟩
  have hb7 : Below w6.heap.size w6 w7 := ((Below.refl _ _).drew).trans (show Below w6.heap.size w6.drew w7 from hb)
  refine ⟨g1, rfl, hb7, ?_⟩
  have := concat_at (w6 := w6) (f := f) (hb7.trans ((below_alloc w7 (busyO f)).mono hb7.size)) (hL.after (below_alloc w7 (busyO f))) (RB.one w7 f) hN
  rw [show (w7.alloc (busyO f)).heap.size = w7.heap.size + 1 from by simp] at this
  exact this
/-- Load in the region, behind the one row -/
theorem load_second (A : Option Addr) (N cap : Nat) (f : Int) (w6 : World) (h : RR w6 A N) (hN : N ≤ 1000) :
    Calls Try.prog 9 #[.slice A N cap] (w6.alloc (busyO f)).drew fun e w7 => ∃ g1 : Nat, e = .returned (.slice (some ⟨g1, 0, none⟩) N N) ∧
      Hid (Calls Try.prog 8 #[.slice (some ⟨w7.heap.size, 0, none⟩) 3 3] (w7.alloc (threeO g1 N w6.heap.size)) (ConcatPost N f w6)) := by
  refine (load_any A N cap _ (h.after ((below_alloc w6 _).drew)) hN).mono ?_
  rintro e w7 ⟨hb, g1, rfl, hL⟩
  have hb' : Below (w6.alloc (busyO f)).heap.size (w6.alloc (busyO f)) w7 := ((Below.refl _ _).drew).trans (show Below (w6.alloc (busyO f)).heap.size (w6.alloc (busyO f)).drew w7 from hb)
  exact ⟨g1, rfl, concat_at (w6 := w6) (f := f) (btwo (below_alloc w6 _) hb') hL ((RB.one w6 f).after hb') hN⟩

/-- what Insert leaves -/
def AddPost4 (base N : Nat) (a b m f : Int) (s : Bool) (w6 : World) (e : Ending) (w' : World) : Prop :=
  Below w6.heap.size w6 w' ∧ ∃ (v' : Value) (at_ : Nat), e = .returned v' ∧ w'.ownsRow base 29 8 v' (N + 1) ((flatR N).take (at_ * 8) ++ (cellsV a b m f s ++ (flatR N).drop (at_ * 8)))
theorem insert_at {w6 w7 : World} {v : Value} {vb N k : Nat} {a b m f : Int} {s : Bool} (hb7 : Below w6.heap.size w6 w7) (hown : w7.ownsRow w6.heap.size 29 8 v N (flatR N)) (hnews : w7.heap[vb]? = some (.cells (cellsV a b m f s).toArray 29 (0, 0))) (hne : v.ownBlock ≠ some vb) (hk : k ≤ N) (hN : N ≤ 1000) :
    Calls Try.prog 12 #[v, .int .i64 k, .slice (some ⟨vb, 0, none⟩) 1 1] w7 (AddPost4 w6.heap.size N a b m f s w6) := by
  refine (insR_any w6.heap.size v N k (flatR N) (cellsV a b m f s) vb w7 hown hb7.size hk (by omega) rfl hnews hne (oneV a b m f s) (flatR_one N)).mono ?_
  rintro e w8 ⟨v', rfl, ho, hg, _⟩
  exact ⟨hb7.grown hg hb7.size (fun k hk => (hown.lt k hk).1), v', k, rfl, ho⟩
theorem clone_first (A : Option Addr) (N cap k : Nat) (a b m f : Int) (s : Bool) (w6 : World) (h : RR w6 A N) (hA : A = none → N = 0 ∧ cap = 0) (hk : k ≤ N) (hN : N ≤ 1000) :
    Calls Try.prog 13 #[.slice A N cap] w6.drew fun e w7 => ∃ v, e = .returned v ∧ Below w6.heap.size w6 w7 ∧ Hid (Calls Try.prog 12 #[v, .int .i64 k, .slice (some ⟨w7.heap.size, 0, none⟩) 1 1] (w7.alloc (newO a b m f s)) (AddPost4 w6.heap.size N a b m f s w6)) := by
  refine (cloneR_any A N cap w6.drew (h.after ((Below.refl _ _).drew)) hA (by omega)).mono ?_
  rintro e w7 ⟨v, rfl, ho, hb⟩
  have hb7 : Below w6.heap.size w6 w7 := ((Below.refl _ _).drew).trans (show Below w6.heap.size w6.drew w7 from hb)
  have ho' : w7.ownsRow w6.heap.size 29 8 v N (flatR N) := ho
  exact ⟨v, rfl, hb7, insert_at (hb7.trans ((below_alloc w7 _).mono hb7.size)) (ho'.alloc _) (heap_alloc_new w7 _) (fun e => by have := (ho'.lt _ e).2; omega) hk hN⟩
theorem clone_second (A : Option Addr) (N cap k : Nat) (a b m f : Int) (s : Bool) (w6 : World) (h : RR w6 A N) (hA : A = none → N = 0 ∧ cap = 0) (hk : k ≤ N) (hN : N ≤ 1000) :
    Calls Try.prog 13 #[.slice A N cap] (w6.alloc (newO a b m f s)).drew fun e w7 => ∃ v, e = .returned v ∧ Hid (Calls Try.prog 12 #[v, .int .i64 k, .slice (some ⟨w6.heap.size, 0, none⟩) 1 1] w7 (AddPost4 w6.heap.size N a b m f s w6)) := by
  refine (cloneR_any A N cap _ (h.after ((below_alloc w6 _).drew)) hA (by omega)).mono ?_
  rintro e w7 ⟨v, rfl, ho, hb⟩
  have hb' : Below (w6.alloc (newO a b m f s)).heap.size (w6.alloc (newO a b m f s)) w7 := ((Below.refl _ _).drew).trans (show Below (w6.alloc (newO a b m f s)).heap.size (w6.alloc (newO a b m f s)).drew w7 from hb)
  have ho' : w7.ownsRow (w6.alloc (newO a b m f s)).heap.size 29 8 v N (flatR N) := ho
  have ho2 : w7.ownsRow w6.heap.size 29 8 v N (flatR N) := by
    refine ⟨ho'.1, ?_⟩
    rcases ho'.2 with h0 | ⟨g, c', cur, hv, hg, rest⟩
    · exact .inl h0
    · exact .inr ⟨g, c', cur, hv, by simp at hg; omega, rest⟩
  refine ⟨v, rfl, insert_at (btwo (below_alloc w6 _) hb') ho2 ((hb'.block w6.heap.size (by simp)).trans (heap_alloc_new w6 _)) (fun e => ?_) hk hN⟩
  have := (ho'.lt _ e).1
  simp at this
  omega
end Go.Proofs.Ytdkhpjeiepkldaa
