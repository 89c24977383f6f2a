/-
  OWN. THE WALKS of slices.Clone and slices.Insert at uses.
-/
import Derived.Test.YtbhhahnmpkegbaaWalkC
import Derived.Test.YtbhhahnmpkegbaaKit2
import Derived.Maps.AppendAt
import Derived.Deep.RegionLaw
import Derived.Maps.RangeWalk
set_option linter.unusedSimpArgs false
set_option linter.unusedVariables false
namespace Go.Proofs.Ytbhhahnmpkegbaa
open Go.RowKit

theorem info27 : (Try.prog.info? 27).map (fun i => (i.zero, i.size, i.bytes)) = some (some (.agg #[.int .i64 0, .int .i64 0, .int .i64 0]), 3, 24) := by kernel_rfl

def InsPost (base : Nat) (v : Value) (n : Nat) (ys : List Value) (w : World) (e : Ending) (w' : World) : Prop :=
  ∃ v', e = .returned v' ∧ w'.ownsRow base 27 3 v' (n + 1) ys ∧ w.grownBy w' v.ownBlock ∧ (v'.ownBlock = v.ownBlock ∨ v'.ownBlock = some w.heap.size)

set_option maxHeartbeats 400000 in
theorem insert_end (base : Nat) (v : Value) (n : Nat) (xs news : List Value) (vb : Nat) (w : World) (hown : w.ownsRow base 27 3 v n xs) (hbase : base ≤ w.heap.size) (hn : n < 1000000)
    (hl : news.length = 3) (hnews : w.heap[vb]? = some (.cells news.toArray 27 (0, 0))) (h1 : ∀ u ∈ news, u.oneCell' = true) :
    Calls Try.prog 10 #[v, .int .i64 n, .slice (some ⟨vb, 0, none⟩) 1 1] w (InsPost base v n (xs ++ news) w) := by
  obtain ⟨i0, hi, hz0, hz1, hz2⟩ := info_parts info27
  have hcell : ∀ j u, news[j]? = some u → w.cell? ((⟨vb, 0, none⟩ : Addr).add j) = some u := fun j u hj => by
    rw [Addr.add_lit, Nat.zero_add, cell_of_row w vb j news.toArray 27 (0, 0) hnews]; simpa using hj
  have hm : n + 1 ≤ maxLen := by simp only [maxLen]; omega
  rcases hown.2 with ⟨rfl, rfl⟩ | ⟨g, cap, cur, rfl, hb, hg, hnc, hcm, hcs, htake⟩
  · clear hnews
    have HC := hide hcell
    clear hcell
    go_enter Try.func10, Try.ntmps10
    go_wp2_with (at_builtin; refine wpList_append_own_at _ rfl (.tmp 23) (.tmp 24) _ rfl base 27 i0 _ 3 24 Try.underlying22 hi hz0 hz1 hz2 rfl (by decide) (.slice none 0 0) 0 xs rfl hown ⟨vb, 0, none⟩ 1 1 news rfl hl HC.out h1 hm (by omega) hbase ?_; intro v' w1 hown1 hgr1 _ hat)
    go_ret
    exact ⟨v', rfl, hown1, hgr1, hat⟩
  · simp only [maxLen] at hcm
    clear hnews htake hcs hg
    have HC := hide hcell
    clear hcell
    go_enter Try.func10, Try.ntmps10
    go_wp2_with (at_builtin; refine wpList_append_own_at _ rfl (.tmp 23) (.tmp 24) _ rfl base 27 i0 _ 3 24 Try.underlying22 hi hz0 hz1 hz2 rfl (by decide) (.slice (some ⟨g, 0, none⟩) n cap) n xs rfl hown ⟨vb, 0, none⟩ 1 1 news rfl hl HC.out h1 hm (by omega) hbase ?_; intro v' w1 hown1 hgr1 _ hat)
    all_goals go_ret
    all_goals exact ⟨v', rfl, hown1, hgr1, hat⟩

theorem insert_zeros (base : Nat) (g n cap i : Nat) (xs : List Value) (w : World) (hown : w.ownsRow base 27 3 (.slice (some ⟨g, 0, none⟩) n cap) n xs) (hbase : base ≤ w.heap.size) (hi : i < n) (hn : n < 1000000) (hroom : cap < n + 1) :
    ∃ W1 C zs spare, (∀ ty, (Builtin.append_ #[22, 3] ty #[.slice (some ⟨g, 0, none⟩) i cap, .int .i64 ((n : Int) + 1 - (i : Int))]).run Try.prog w = .ok (.slice (some ⟨w.heap.size, 0, none⟩) (n + 1) C) W1) ∧
      n + 1 ≤ C ∧ C ≤ maxLen ∧ W1.heap[w.heap.size]? = some (.cells (xs.take (i * 3) ++ zs ++ spare).toArray 27 (0, 0)) ∧ zs.length = n * 3 + 3 - i * 3 ∧ (xs.take (i * 3) ++ zs ++ spare).length = C * 3 ∧ w.grownBy W1 none ∧ W1.heap.size = w.heap.size + 1 := by
  obtain ⟨i0, hi0, hz0, hz1, hz2⟩ := info_parts info27
  have hxl : xs.length = n * 3 := hown.1
  have hlo : (xs.take (i * 3)).length = i * i0.size := by rw [hz1, List.length_take]; omega
  have holds : ∀ j v, (xs.take (i * 3))[j]? = some v → w.cell? ((⟨g, 0, none⟩ : Addr).add j) = some v := fun j v hj => by
    rw [List.getElem?_take] at hj
    split at hj
    · exact hown.cells (g := g) rfl j v hj
    · cases hj
  have hni : i + (n + 1 - i) = n + 1 := by omega
  have hge := grownCap_ge w (n + 1) cap 27
  have hle := grownCap_le_maxLen w (n + 1) cap 27 (by simp only [maxLen]; omega)
  have hr := fun ty => run_append_grow_zeros (P := Try.prog) w 22 3 ty 27 i0 _ .i64 .i64 Try.underlying22 Try.underlying3 hi0 hz0 ⟨g, 0, none⟩ i cap (xs.take (i * 3)) hlo holds (n + 1 - i) (by omega) (by omega) (by omega) (by omega)
    (growslice_fits (by omega) (by rw [hz2]; omega)) (by rw [hz2]; omega)
  rw [hni] at hr
  refine ⟨w.drew.alloc (.cells ((xs.take (i * 3)).toArray ++ (Builtin.zeroCells (#[.int .i64 0, .int .i64 0, .int .i64 0] : Array Value) (n + 1 - i) ++ Builtin.zeroCells (#[.int .i64 0, .int .i64 0, .int .i64 0] : Array Value) (grownCap w (n + 1) cap 27 - (n + 1)))) 27), grownCap w (n + 1) cap 27, (Builtin.zeroCells (#[.int .i64 0, .int .i64 0, .int .i64 0] : Array Value) (n + 1 - i)).toList, (Builtin.zeroCells (#[.int .i64 0, .int .i64 0, .int .i64 0] : Array Value) (grownCap w (n + 1) cap 27 - (n + 1))).toList, fun ty => ?_, hge, hle, ?_, ?_, ?_, ?_, ?_⟩
  · rw [show ((n : Int) + 1 - (i : Int)) = ((n + 1 - i : Nat) : Int) by omega]
    exact hr ty
  · have hq := fun o => heap_alloc_new w.drew o
    rw [show w.drew.heap.size = w.heap.size from rfl] at hq
    rw [hq]
    congr 2
    apply Array.ext'
    simp [Value.cells]
  · simp [size_zeroCellsN]; omega
  · simp only [List.length_append, List.length_take, Array.length_toList, size_zeroCellsN]
    simp only [List.size_toArray, List.length_cons, List.length_nil]
    omega
  · exact ⟨rfl, rfl, rfl, by simp, fun k hk hne => (World.grownBy_alloc w.drew _ none).block k hk hne⟩
  · simp

set_option maxHeartbeats 1000000 in
theorem insert_grow (base : Nat) (g n cap i : Nat) (xs news : List Value) (vb : Nat) (w : World) (hown : w.ownsRow base 27 3 (.slice (some ⟨g, 0, none⟩) n cap) n xs) (hbase : base ≤ w.heap.size) (hi : i < n) (hn : n < 1000000) (hroom : cap < n + 1)
    (hl : news.length = 3) (hnews : w.heap[vb]? = some (.cells news.toArray 27 (0, 0))) (h1 : ∀ u ∈ news, u.oneCell' = true) (h1x : ∀ u ∈ xs, u.oneCell' = true) :
    Calls Try.prog 10 #[.slice (some ⟨g, 0, none⟩) n cap, .int .i64 i, .slice (some ⟨vb, 0, none⟩) 1 1] w (InsPost base (.slice (some ⟨g, 0, none⟩) n cap) n (xs.take (i * 3) ++ (news ++ xs.drop (i * 3))) w) := by
  obtain ⟨W1, C, zs, spare, hap, hC1, hC2, hh1, hzl, htot, hg1, hs1⟩ := insert_zeros base g n cap i xs w hown hbase hi hn hroom
  have hxl : xs.length = n * 3 := hown.1
  have hgl := hown.lt g rfl
  have hvbl : vb < w.heap.size := (Array.getElem?_eq_some_iff.1 hnews).1
  have hsz : (Try.prog.info? 27).map (·.size) = some 3 := by kernel_rfl
  -- v over the zeros
  obtain ⟨W2, hr2, hh2, hg2, hs2⟩ := run_copy_spliceN (P := Try.prog) W1 22 22 3 27 3 (by decide) Try.underlying22 hsz (some ⟨w.heap.size, i * 3, none⟩) (some ⟨vb, 0, none⟩) (n + 1 - i) (C - i) 1 1 w.heap.size (i * 3) _ 27 hh1 news
    (by rw [hl]; have : Nat.min 1 (n + 1 - i) = 1 := by simp only [Nat.min_def]; split <;> omega
        rw [this])
    (fun _ => ⟨rfl, _, rfl, fun j v hj => by
      rw [Addr.add_lit, Nat.zero_add, cell_of_row W1 vb j news.toArray 27 (0, 0) ((hg1.block vb hvbl (by simp)).trans hnews)]; simpa using hj⟩)
    (by rw [htot, hl]; omega) h1
  have hgl2 : g < W1.heap.size := by omega
  have hold1 : ∀ j u, xs[j]? = some u → W2.cell? ⟨g, j, none⟩ = some u := fun j u hj => by
    have := hown.cells (g := g) rfl j u hj
    rw [Addr.add_lit, Nat.zero_add] at this
    rw [World.cell?_of_block (w := W1) (a := ⟨g, j, none⟩) (hg2.block g hgl2 (by simp; omega)), World.cell?_of_block (w := w) (a := ⟨g, j, none⟩) (hg1.block g hgl.2 (by simp))]
    exact this
  obtain ⟨W3, hr3, hh3, hg3, hs3⟩ := run_copy_spliceN (P := Try.prog) W2.drew 22 22 3 27 3 (by decide) Try.underlying22 hsz (some ⟨w.heap.size, (i + 1) * 3, none⟩) (some ⟨g, i * 3, none⟩) (n - i) (C - (i + 1)) (n - i) (cap - i) w.heap.size ((i + 1) * 3) _ 27 hh2 (xs.drop (i * 3))
    (by rw [List.length_drop, hxl]; have : Nat.min (n - i) (n - i) = n - i := Nat.min_self _
        rw [this]; omega)
    (fun _ => ⟨rfl, _, rfl, fun j v hj => by
      rw [Addr.add_lit]; exact hold1 _ v (by rwa [List.getElem?_drop] at hj)⟩)
    (by rw [splice_len _ _ _ (by rw [htot, hl]; omega), htot, List.length_drop, hxl]; omega) (fun u hu => h1x u (List.mem_of_mem_drop hu))
  simp only [maxLen] at hC2
  have hCi : ¬ C = i := by omega
  have hCi1 : ¬ C = i + 1 := by omega
  have hci : ¬ cap = i := by have := hown.2; rcases this with ⟨h, _⟩ | ⟨_, c', _, h, _, _, hnc, _⟩ <;> simp at h; omega
  have HAP := hide hap
  have HR2 := hide hr2
  have HR3 := hide hr3
  have HH3 := hide hh3
  have HO := hide hown
  have hnc : n ≤ cap := by have := hown.2; rcases this with ⟨h, _⟩ | ⟨_, c', _, h, _, _, hnc, _⟩ <;> simp at h; omega
  have hz2 : ((i : Int) == (n : Int)) = false := beq_eq_false_iff_ne.2 (by omega)
  have hz3 : (cap : Int) < (n : Int) + 1 := by omega
  have hz4 : i ≤ cap := by omega
  have hz5 : i ≤ n := by omega
  clear hnews hh1 hh2 hh3 hold1 hap hr2 hr3 hown hsz
  go_enter Try.func10, Try.ntmps10
  go_wp2_with (first | (at_builtin; refine Lib.wpList_append_run _ rfl (.tmp 34) (.tmp 39) 22 3 rfl _ _ rfl rfl _ _ (HAP.out _) ?_) | (refine wpList_copy_run _ rfl (.tmp 43) (.tmp 44) 22 22 rfl _ _ rfl rfl HR2.out ?_))
  go_frame
  have hw1 : IntKind.i64.wrap ((i : Int) + 1) = (i : Int) + 1 := IntWalk.i64_in _ (by omega)
  have hw2 : (0 : Int) ≤ (i : Int) + 1 := by omega
  have hw3 : (i : Int) + 1 ≤ (n : Int) + 1 := by omega
  have hw4 : ((i : Int) + 1).toNat = i + 1 := by omega
  go_region_law (refine step_copy_run rfl (.tmp 50) (.tmp 53) 22 22 rfl _ _ (by simp [Act.eval, Act.put]) (by simp [Act.eval, Act.put]) HR3.out ?_)
  clear hw1 hw2 hw3 hw4
  go_wp2
  go_ret
  refine ⟨_, rfl, ⟨?_, .inr ⟨w.heap.size, C, _, rfl, hbase, HH3.out, hC1, by simp only [maxLen]; exact hC2, ?_, ?_⟩⟩, ?_, .inr rfl⟩
  · simp only [List.length_append, List.length_take, List.length_drop, hxl, hl]; omega
  · rw [List.size_toArray, splice_len _ _ _ (by rw [splice_len _ _ _ (by rw [htot, hl]; omega), htot, List.length_drop, hxl]; omega), splice_len _ _ _ (by rw [htot, hl]; omega), htot]
  · rw [show (i + 1) * 3 = i * 3 + 3 by omega, show (n + 1) * 3 = n * 3 + 3 by omega]
    exact insert_new xs news zs spare (i * 3) 3 (n * 3) hxl (by omega) hl hzl
  · have hsz2 : W2.drew.heap.size = W2.heap.size := rfl
    refine ⟨hg3.os.trans (hg2.os.trans hg1.os), hg3.tape.trans (hg2.tape.trans hg1.tape), hg3.output.trans (hg2.output.trans hg1.output), by omega, fun k hk hne => ?_⟩
    rw [hg3.block k (by omega) (by simp; omega)]
    show W2.heap[k]? = _
    rw [hg2.block k (by omega) (by simp; omega), hg1.block k hk (by simp)]

theorem overlaps_run (w : World) (vb g off la ca lb cb : Nat) (cv cur : Array Value) (hne : vb ≠ g) (hv : w.heap[vb]? = some (.cells cv 27 (0, 0))) (hg : w.heap[g]? = some (.cells cur 27 (0, 0))) (hc : cur.size ≠ 0) :
    (callFunc 19 #[.slice (some ⟨vb, 0, none⟩) la ca, .slice (some ⟨g, off, none⟩) lb cb]).run Try.prog w = .ok (.value (.bool false)) w := by
  have hz : ∀ w, (Go.sizeOf 27).run Try.prog w = .ok 3 w := fun w => by kernel_rfl
  rw [run_callFunc_extern Try.func19 (by kernel_rfl) (by kernel_rfl) (by kernel_rfl) (e := Extern.SlicesOverlaps.overlaps #[22, 22] #[4]) (by kernel_rfl),
    Lib.run_overlaps_apart w 22 4 27 Try.underlying22 3 hz ⟨vb, 0, none⟩ ⟨g, off, none⟩ la ca lb cb hne 27 27 cv.size cur.size (by simp [World.shape?, hv]) (by simp [World.shape?, hg]) hc (by simp [World.frozen?, hv]) (by simp [World.frozen?, hv])]
  rfl

set_option maxHeartbeats 1000000 in
theorem insert_shift_ (base : Nat) (g n cap i : Nat) (xs news : List Value) (vb : Nat) (w : World) (hown : w.ownsRow base 27 3 (.slice (some ⟨g, 0, none⟩) n cap) n xs) (hbase : base ≤ w.heap.size) (hi : i < n) (hn : n < 1000000) (hroom : n + 1 ≤ cap)
    (hl : news.length = 3) (hnews : w.heap[vb]? = some (.cells news.toArray 27 (0, 0))) (hne : vb ≠ g) (h1 : ∀ u ∈ news, u.oneCell' = true) (h1x : ∀ u ∈ xs, u.oneCell' = true) :
    Calls Try.prog 10 #[.slice (some ⟨g, 0, none⟩) n cap, .int .i64 i, .slice (some ⟨vb, 0, none⟩) 1 1] w (InsPost base (.slice (some ⟨g, 0, none⟩) n cap) n (xs.take (i * 3) ++ (news ++ xs.drop (i * 3))) w) := by
  have hxl : xs.length = n * 3 := hown.1
  have hgl := hown.lt g rfl
  have hvbl : vb < w.heap.size := (Array.getElem?_eq_some_iff.1 hnews).1
  have hsz : (Try.prog.info? 27).map (·.size) = some 3 := by kernel_rfl
  obtain ⟨cur, hg, hcm, hcs, htake⟩ : ∃ cur : Array Value, w.heap[g]? = some (.cells cur 27 (0, 0)) ∧ cap ≤ maxLen ∧ cur.size = cap * 3 ∧ cur.toList.take (n * 3) = xs := by
    rcases hown.2 with ⟨h, _⟩ | ⟨g', c', cur, h, _, hg, _, hcm, hcs, htake⟩
    · simp at h
    · simp only [Value.slice.injEq, Option.some.injEq, Addr.mk.injEq, and_true, true_and] at h
      obtain ⟨rfl, rfl⟩ := h
      exact ⟨cur, hg, hcm, hcs, htake⟩
  have hov := fun lb cb => overlaps_run w vb g ((i + 1) * 3) 1 1 lb cb news.toArray cur hne hnews hg (by omega)
  have hgl2 : w.drew.heap[g]? = some (.cells cur.toList.toArray 27 (0, 0)) := by show w.heap[g]? = _; simpa using hg
  have hcl : cur.toList.length = cap * 3 := by rw [Array.length_toList]; exact hcs
  have hcell : ∀ j u, xs[j]? = some u → w.cell? ⟨g, j, none⟩ = some u := fun j u hj => by
    have := hown.cells (g := g) rfl j u hj
    rwa [Addr.add_lit, Nat.zero_add] at this
  obtain ⟨W2, hr2, hh2, hg2, hs2⟩ := run_copy_spliceN (P := Try.prog) w.drew 22 22 3 27 3 (by decide) Try.underlying22 hsz (some ⟨g, (i + 1) * 3, none⟩) (some ⟨g, i * 3, none⟩) (n - i) (cap - (i + 1)) (n + 1 - i) (cap - i) g ((i + 1) * 3) cur.toList 27 hgl2 (xs.drop (i * 3))
    (by rw [List.length_drop, hxl]; have : Nat.min (n + 1 - i) (n - i) = n - i := by simp only [Nat.min_def]; split <;> omega
        rw [this]; omega)
    (fun _ => ⟨rfl, _, rfl, fun j v hj => by
      rw [Addr.add_lit]; exact hcell _ v (by rwa [List.getElem?_drop] at hj)⟩)
    (by rw [hcl, List.length_drop, hxl]; omega) (fun u hu => h1x u (List.mem_of_mem_drop hu))
  obtain ⟨W3, hr3, hh3, hg3, hs3⟩ := run_copy_spliceN (P := Try.prog) W2 22 22 3 27 3 (by decide) Try.underlying22 hsz (some ⟨g, i * 3, none⟩) (some ⟨vb, 0, none⟩) (n + 1 - i) (cap - i) 1 1 g (i * 3) _ 27 hh2 news
    (by rw [hl]; have : Nat.min 1 (n + 1 - i) = 1 := by simp only [Nat.min_def]; split <;> omega
        rw [this])
    (fun _ => ⟨rfl, _, rfl, fun j v hj => by
      rw [Addr.add_lit, Nat.zero_add, cell_of_row W2 vb j news.toArray 27 (0, 0) ((hg2.block vb hvbl (by simpa using hne)).trans hnews)]; simpa using hj⟩)
    (by rw [splice_len _ _ _ (by rw [hcl, List.length_drop, hxl]; omega), hcl, hl]; omega) h1
  simp only [maxLen] at hcm
  have hCi : ¬ cap = i := by omega
  have hCi1 : ¬ cap = i + 1 := by omega
  have hz2 : ((i : Int) == (n : Int)) = false := beq_eq_false_iff_ne.2 (by omega)
  have hz3 : ¬ (cap : Int) < (n : Int) + 1 := by omega
  have hz4 : i ≤ cap := by omega
  have hz5 : i ≤ n := by omega
  have HR2 := hide hr2
  have HR3 := hide hr3
  have HH3 := hide hh3
  have HO := hide hown
  have HT := hide htake
  have HC := hide hcs
  have HCL := hide hcl
  clear hnews hh2 hh3 hr2 hr3 hown hsz hgl2 hcell htake hcs hg hcl
  go_enter Try.func10, Try.ntmps10
  go_wp2_with (simp only [hov])
  have hw1 : IntKind.i64.wrap ((i : Int) + 1) = (i : Int) + 1 := IntWalk.i64_in _ (by omega)
  have hw2 : (0 : Int) ≤ (i : Int) + 1 := by omega
  have hw3 : (i : Int) + 1 ≤ (n : Int) + 1 := by omega
  have hw4 : ((i : Int) + 1).toNat = i + 1 := by omega
  have hw5 : (i : Int) ≤ (n : Int) + 1 := by omega
  go_region_law (refine step_copy_run rfl (.tmp 73) (.tmp 76) 22 22 rfl _ _ (by simp [Act.eval, Act.put]) (by simp [Act.eval, Act.put]) HR2.out ?_)
  clear hw1 hw2 hw3 hw4 hw5
  go_wp2_with (refine wpList_copy_run _ rfl (.tmp 80) (.tmp 81) 22 22 rfl _ _ rfl rfl HR3.out ?_)
  go_ret
  refine ⟨_, rfl, ⟨?_, .inr ⟨g, cap, _, rfl, hgl.1, HH3.out, hroom, by simp only [maxLen]; exact hcm, ?_, ?_⟩⟩, ?_, .inl rfl⟩
  · simp only [List.length_append, List.length_take, List.length_drop, hxl, hl]; omega
  · rw [List.size_toArray, splice_len _ _ _ (by rw [splice_len _ _ _ (by rw [HCL.out, List.length_drop, hxl]; omega), HCL.out, hl]; omega), splice_len _ _ _ (by rw [HCL.out, List.length_drop, hxl]; omega), HCL.out]
  · rw [show (i + 1) * 3 = i * 3 + 3 by omega, show (n + 1) * 3 = n * 3 + 3 by omega, ← HT.out]
    exact insert_shift cur.toList news (i * 3) 3 (n * 3) (by omega) hl (by rw [HCL.out]; omega)
  · have hsz2 : w.drew.heap.size = w.heap.size := rfl
    refine ⟨hg3.os.trans hg2.os, hg3.tape.trans hg2.tape, hg3.output.trans hg2.output, by omega, fun k hk hne' => ?_⟩
    rw [hg3.block k (by omega) hne', hg2.block k hk hne']
    rfl

/-- slices.Insert of one use, whatever the room. -/
theorem insert_any (base : Nat) (v : Value) (n i : Nat) (xs news : List Value) (vb : Nat) (w : World) (hown : w.ownsRow base 27 3 v n xs) (hbase : base ≤ w.heap.size) (hi : i ≤ n) (hn : n < 1000000)
    (hl : news.length = 3) (hnews : w.heap[vb]? = some (.cells news.toArray 27 (0, 0))) (hne : v.ownBlock ≠ some vb) (h1 : ∀ u ∈ news, u.oneCell' = true) (h1x : ∀ u ∈ xs, u.oneCell' = true) :
    Calls Try.prog 10 #[v, .int .i64 i, .slice (some ⟨vb, 0, none⟩) 1 1] w (InsPost base v n (xs.take (i * 3) ++ (news ++ xs.drop (i * 3))) w) := by
  by_cases hin : i = n
  · subst hin
    have hx : xs.length = i * 3 := hown.1
    rw [List.take_of_length_le (by omega), List.drop_eq_nil_of_le (by omega), List.append_nil]
    exact insert_end base v i xs news vb w hown hbase hn hl hnews h1
  · rcases hown.2 with ⟨rfl, h0⟩ | ⟨g, cap, cur, rfl, _, hg, hnc, _⟩
    · omega
    · by_cases hroom : n + 1 ≤ cap
      · exact insert_shift_ base g n cap i xs news vb w hown hbase (by omega) hn hroom hl hnews (fun e => hne (by simp [Value.ownBlock, e])) h1 h1x
      · exact insert_grow base g n cap i xs news vb w hown hbase (by omega) hn (by omega) hl hnews h1 h1x
end Go.Proofs.Ytbhhahnmpkegbaa
