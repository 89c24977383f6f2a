/-
  OWN. THE WALKS of slices.Clone and slices.Insert at reservations.
-/
import Derived.Test.YtdkhpjeiepkldaaWalkM
import Derived.Test.YtdkhpjeiepkldaaKit2
import Derived.Maps.RangeWalk
set_option linter.unusedSimpArgs false
set_option linter.unusedVariables false
namespace Go.Proofs.Ytdkhpjeiepkldaa
open Go.RowKit

abbrev zR : Value := .agg #[.int .i64 0, .int .i64 0, .int .i64 0, .int .i64 0, .int .i64 0, .complex .f64 0 0, .bool false, .int .i64 0]
theorem zR_size : zR.cells.size = 8 := by kernel_rfl
theorem info29 : (Try.prog.info? 29).map (fun i => (i.zero, i.size, i.bytes)) = some (some zR, 8, 72) := by kernel_rfl

set_option maxHeartbeats 400000 in
theorem insR_end (base : Nat) (v : Value) (n : Nat) (xs news : List Value) (vb : Nat) (w : World) (hown : w.ownsRow base 29 8 v n xs) (hbase : base ≤ w.heap.size) (hn : n < 1000000)
    (hl : news.length = 8) (hnews : w.heap[vb]? = some (.cells news.toArray 29 (0, 0))) (h1 : ∀ u ∈ news, u.oneCell' = true) :
    Calls Try.prog 12 #[v, .int .i64 n, .slice (some ⟨vb, 0, none⟩) 1 1] w (InsPost base 29 8 v n (xs ++ news) w) := by
  obtain ⟨i0, hi, hz0, hz1, hz2⟩ := info_parts info29
  have hcell : ∀ j u, news[j]? = some u → w.cell? ((⟨vb, 0, none⟩ : Addr).add j) = some u := fun j u hj => by
    rw [Addr.add_lit, Nat.zero_add, cell_of_row w vb j news.toArray 29 (0, 0) hnews]; simpa using hj
  have hm : n + 1 ≤ maxLen := by simp only [maxLen]; omega
  rcases hown.2 with ⟨rfl, rfl⟩ | ⟨g, cap, cur, rfl, hb, hg, hnc, hcm, hcs, htake⟩
  · clear hnews
    have HC := hide hcell
    clear hcell
    go_enter Try.func12, Try.ntmps12
    go_wp2_with (at_builtin; refine wpList_append_own_at _ rfl (.tmp 23) (.tmp 24) _ rfl base 29 i0 _ 8 72 Try.underlying24 hi hz0 hz1 hz2 rfl (by decide) (.slice none 0 0) 0 xs rfl hown ⟨vb, 0, none⟩ 1 1 news rfl hl HC.out h1 hm (by omega) hbase ?_; intro v' w1 hown1 hgr1 _ hat)
    go_ret
    exact ⟨v', rfl, hown1, hgr1, hat⟩
  · simp only [maxLen] at hcm
    clear hnews htake hcs hg
    have HC := hide hcell
    clear hcell
    go_enter Try.func12, Try.ntmps12
    go_wp2_with (at_builtin; refine wpList_append_own_at _ rfl (.tmp 23) (.tmp 24) _ rfl base 29 i0 _ 8 72 Try.underlying24 hi hz0 hz1 hz2 rfl (by decide) (.slice (some ⟨g, 0, none⟩) n cap) n xs rfl hown ⟨vb, 0, none⟩ 1 1 news rfl hl HC.out h1 hm (by omega) hbase ?_; intro v' w1 hown1 hgr1 _ hat)
    all_goals go_ret
    all_goals exact ⟨v', rfl, hown1, hgr1, hat⟩

theorem insR_zeros (base : Nat) (g n cap i : Nat) (xs : List Value) (w : World) (hown : w.ownsRow base 29 8 (.slice (some ⟨g, 0, none⟩) n cap) n xs) (hbase : base ≤ w.heap.size) (hi : i < n) (hn : n < 1000000) (hroom : cap < n + 1) :
    ∃ W1 C zs spare, (∀ ty, (Builtin.append_ #[24, 3] ty #[.slice (some ⟨g, 0, none⟩) i cap, .int .i64 ((n : Int) + 1 - (i : Int))]).run Try.prog w = .ok (.slice (some ⟨w.heap.size, 0, none⟩) (n + 1) C) W1) ∧
      n + 1 ≤ C ∧ C ≤ maxLen ∧ W1.heap[w.heap.size]? = some (.cells (xs.take (i * 8) ++ zs ++ spare).toArray 29 (0, 0)) ∧ zs.length = n * 8 + 8 - i * 8 ∧ (xs.take (i * 8) ++ zs ++ spare).length = C * 8 ∧ w.grownBy W1 none ∧ W1.heap.size = w.heap.size + 1 := by
  obtain ⟨i0, hi0, hz0, hz1, hz2⟩ := info_parts info29
  have hxl : xs.length = n * 8 := hown.1
  have hlo : (xs.take (i * 8)).length = i * i0.size := by rw [hz1, List.length_take]; omega
  have holds : ∀ j v, (xs.take (i * 8))[j]? = some v → w.cell? ((⟨g, 0, none⟩ : Addr).add j) = some v := fun j v hj => by
    rw [List.getElem?_take] at hj
    split at hj
    · exact hown.cells (g := g) rfl j v hj
    · cases hj
  have hni : i + (n + 1 - i) = n + 1 := by omega
  have hge := grownCap_ge w (n + 1) cap 29
  have hle := grownCap_le_maxLen w (n + 1) cap 29 (by simp only [maxLen]; omega)
  have hr := fun ty => run_append_grow_zeros (P := Try.prog) w 24 3 ty 29 i0 _ .i64 .i64 Try.underlying24 Try.underlying3 hi0 hz0 ⟨g, 0, none⟩ i cap (xs.take (i * 8)) hlo holds (n + 1 - i) (by omega) (by omega) (by omega) (by omega)
    (growslice_fits (by omega) (by rw [hz2]; omega)) (by rw [hz2]; omega)
  rw [hni] at hr
  refine ⟨w.drew.alloc (.cells ((xs.take (i * 8)).toArray ++ (Builtin.zeroCells zR.cells (n + 1 - i) ++ Builtin.zeroCells zR.cells (grownCap w (n + 1) cap 29 - (n + 1)))) 29), grownCap w (n + 1) cap 29, (Builtin.zeroCells zR.cells (n + 1 - i)).toList, (Builtin.zeroCells zR.cells (grownCap w (n + 1) cap 29 - (n + 1))).toList, fun ty => ?_, hge, hle, ?_, ?_, ?_, ?_, ?_⟩
  · rw [show ((n : Int) + 1 - (i : Int)) = ((n + 1 - i : Nat) : Int) by omega]
    exact hr ty
  · have hq := fun o => heap_alloc_new w.drew o
    rw [show w.drew.heap.size = w.heap.size from rfl] at hq
    rw [hq]
    congr 2
    apply Array.ext'
    simp [Value.cells]
  · simp [size_zeroCellsN, zR_size]; omega
  · simp only [List.length_append, List.length_take, Array.length_toList, size_zeroCellsN]
    rw [zR_size]
    omega
  · exact ⟨rfl, rfl, rfl, by simp, fun k hk hne => (World.grownBy_alloc w.drew _ none).block k hk hne⟩
  · simp

set_option maxHeartbeats 1000000 in
theorem insR_grow (base : Nat) (g n cap i : Nat) (xs news : List Value) (vb : Nat) (w : World) (hown : w.ownsRow base 29 8 (.slice (some ⟨g, 0, none⟩) n cap) n xs) (hbase : base ≤ w.heap.size) (hi : i < n) (hn : n < 1000000) (hroom : cap < n + 1)
    (hl : news.length = 8) (hnews : w.heap[vb]? = some (.cells news.toArray 29 (0, 0))) (h1 : ∀ u ∈ news, u.oneCell' = true) (h1x : ∀ u ∈ xs, u.oneCell' = true) :
    Calls Try.prog 12 #[.slice (some ⟨g, 0, none⟩) n cap, .int .i64 i, .slice (some ⟨vb, 0, none⟩) 1 1] w (InsPost base 29 8 (.slice (some ⟨g, 0, none⟩) n cap) n (xs.take (i * 8) ++ (news ++ xs.drop (i * 8))) w) := by
  obtain ⟨W1, C, zs, spare, hap, hC1, hC2, hh1, hzl, htot, hg1, hs1⟩ := insR_zeros base g n cap i xs w hown hbase hi hn hroom
  have hxl : xs.length = n * 8 := hown.1
  have hgl := hown.lt g rfl
  have hvbl : vb < w.heap.size := (Array.getElem?_eq_some_iff.1 hnews).1
  have hsz : (Try.prog.info? 29).map (·.size) = some 8 := by kernel_rfl
  -- v over the zeros
  obtain ⟨W2, hr2, hh2, hg2, hs2⟩ := run_copy_spliceN (P := Try.prog) W1 24 24 3 29 8 (by decide) Try.underlying24 hsz (some ⟨w.heap.size, i * 8, none⟩) (some ⟨vb, 0, none⟩) (n + 1 - i) (C - i) 1 1 w.heap.size (i * 8) _ 29 hh1 news
    (by rw [hl]; have : Nat.min 1 (n + 1 - i) = 1 := by simp only [Nat.min_def]; split <;> omega
        rw [this])
    (fun _ => ⟨rfl, _, rfl, fun j v hj => by
      rw [Addr.add_lit, Nat.zero_add, cell_of_row W1 vb j news.toArray 29 (0, 0) ((hg1.block vb hvbl (by simp)).trans hnews)]; simpa using hj⟩)
    (by rw [htot, hl]; omega) h1
  have hgl2 : g < W1.heap.size := by omega
  have hold1 : ∀ j u, xs[j]? = some u → W2.cell? ⟨g, j, none⟩ = some u := fun j u hj => by
    have := hown.cells (g := g) rfl j u hj
    rw [Addr.add_lit, Nat.zero_add] at this
    rw [World.cell?_of_block (w := W1) (a := ⟨g, j, none⟩) (hg2.block g hgl2 (by simp; omega)), World.cell?_of_block (w := w) (a := ⟨g, j, none⟩) (hg1.block g hgl.2 (by simp))]
    exact this
  obtain ⟨W3, hr3, hh3, hg3, hs3⟩ := run_copy_spliceN (P := Try.prog) W2.drew 24 24 3 29 8 (by decide) Try.underlying24 hsz (some ⟨w.heap.size, (i + 1) * 8, none⟩) (some ⟨g, i * 8, none⟩) (n - i) (C - (i + 1)) (n - i) (cap - i) w.heap.size ((i + 1) * 8) _ 29 hh2 (xs.drop (i * 8))
    (by rw [List.length_drop, hxl]; have : Nat.min (n - i) (n - i) = n - i := Nat.min_self _
        rw [this]; omega)
    (fun _ => ⟨rfl, _, rfl, fun j v hj => by
      rw [Addr.add_lit]; exact hold1 _ v (by rwa [List.getElem?_drop] at hj)⟩)
    (by rw [splice_len _ _ _ (by rw [htot, hl]; omega), htot, List.length_drop, hxl]; omega) (fun u hu => h1x u (List.mem_of_mem_drop hu))
  simp only [maxLen] at hC2
  have hCi : ¬ C = i := by omega
  have hCi1 : ¬ C = i + 1 := by omega
  have hci : ¬ cap = i := by have := hown.2; rcases this with ⟨h, _⟩ | ⟨_, c', _, h, _, _, hnc, _⟩ <;> simp at h; omega
  have HAP := hide hap
  have HR2 := hide hr2
  have HR3 := hide hr3
  have HH3 := hide hh3
  have HO := hide hown
  have hnc : n ≤ cap := by have := hown.2; rcases this with ⟨h, _⟩ | ⟨_, c', _, h, _, _, hnc, _⟩ <;> simp at h; omega
  have hz2 : ((i : Int) == (n : Int)) = false := beq_eq_false_iff_ne.2 (by omega)
  have hz3 : (cap : Int) < (n : Int) + 1 := by omega
  have hz4 : i ≤ cap := by omega
  have hz5 : i ≤ n := by omega
  clear hnews hh1 hh2 hh3 hold1 hap hr2 hr3 hown hsz
  go_enter Try.func12, Try.ntmps12
  go_wp2_with (first | (at_builtin; refine Lib.wpList_append_run _ rfl (.tmp 34) (.tmp 39) 24 3 rfl _ _ rfl rfl _ _ (HAP.out _) ?_) | (refine wpList_copy_run _ rfl (.tmp 43) (.tmp 44) 24 24 rfl _ _ rfl rfl HR2.out ?_))
  go_frame
  have hw1 : IntKind.i64.wrap ((i : Int) + 1) = (i : Int) + 1 := IntWalk.i64_in _ (by omega)
  have hw2 : (0 : Int) ≤ (i : Int) + 1 := by omega
  have hw3 : (i : Int) + 1 ≤ (n : Int) + 1 := by omega
  have hw4 : ((i : Int) + 1).toNat = i + 1 := by omega
  go_region_law (refine step_copy_run rfl (.tmp 50) (.tmp 53) 24 24 rfl _ _ (by simp [Act.eval, Act.put]) (by simp [Act.eval, Act.put]) HR3.out ?_)
  clear hw1 hw2 hw3 hw4
  go_wp2
  go_ret
  refine ⟨_, rfl, ⟨?_, .inr ⟨w.heap.size, C, _, rfl, hbase, HH3.out, hC1, by simp only [maxLen]; exact hC2, ?_, ?_⟩⟩, ?_, .inr rfl⟩
  · simp only [List.length_append, List.length_take, List.length_drop, hxl, hl]; omega
  · rw [List.size_toArray, splice_len _ _ _ (by rw [splice_len _ _ _ (by rw [htot, hl]; omega), htot, List.length_drop, hxl]; omega), splice_len _ _ _ (by rw [htot, hl]; omega), htot]
  · rw [show (i + 1) * 8 = i * 8 + 8 by omega, show (n + 1) * 8 = n * 8 + 8 by omega]
    exact insert_new xs news zs spare (i * 8) 8 (n * 8) hxl (by omega) hl hzl
  · have hsz2 : W2.drew.heap.size = W2.heap.size := rfl
    refine ⟨hg3.os.trans (hg2.os.trans hg1.os), hg3.tape.trans (hg2.tape.trans hg1.tape), hg3.output.trans (hg2.output.trans hg1.output), by omega, fun k hk hne => ?_⟩
    rw [hg3.block k (by omega) (by simp; omega)]
    show W2.heap[k]? = _
    rw [hg2.block k (by omega) (by simp; omega), hg1.block k hk (by simp)]

theorem insR_run (w : World) (vb g off la ca lb cb : Nat) (cv cur : Array Value) (hne : vb ≠ g) (hv : w.heap[vb]? = some (.cells cv 29 (0, 0))) (hg : w.heap[g]? = some (.cells cur 29 (0, 0))) (hc : cur.size ≠ 0) :
    (callFunc 22 #[.slice (some ⟨vb, 0, none⟩) la ca, .slice (some ⟨g, off, none⟩) lb cb]).run Try.prog w = .ok (.value (.bool false)) w := by
  have hz : ∀ w, (Go.sizeOf 29).run Try.prog w = .ok 8 w := fun w => by kernel_rfl
  rw [run_callFunc_extern Try.func22 (by kernel_rfl) (by kernel_rfl) (by kernel_rfl) (e := Extern.SlicesOverlaps.overlaps #[24, 24] #[4]) (by kernel_rfl),
    Lib.run_overlaps_apart w 24 4 29 Try.underlying24 8 hz ⟨vb, 0, none⟩ ⟨g, off, none⟩ la ca lb cb hne 29 29 cv.size cur.size (by simp [World.shape?, hv]) (by simp [World.shape?, hg]) hc (by simp [World.frozen?, hv]) (by simp [World.frozen?, hv])]
  rfl

set_option maxHeartbeats 1000000 in
theorem insR_shift (base : Nat) (g n cap i : Nat) (xs news : List Value) (vb : Nat) (w : World) (hown : w.ownsRow base 29 8 (.slice (some ⟨g, 0, none⟩) n cap) n xs) (hbase : base ≤ w.heap.size) (hi : i < n) (hn : n < 1000000) (hroom : n + 1 ≤ cap)
    (hl : news.length = 8) (hnews : w.heap[vb]? = some (.cells news.toArray 29 (0, 0))) (hne : vb ≠ g) (h1 : ∀ u ∈ news, u.oneCell' = true) (h1x : ∀ u ∈ xs, u.oneCell' = true) :
    Calls Try.prog 12 #[.slice (some ⟨g, 0, none⟩) n cap, .int .i64 i, .slice (some ⟨vb, 0, none⟩) 1 1] w (InsPost base 29 8 (.slice (some ⟨g, 0, none⟩) n cap) n (xs.take (i * 8) ++ (news ++ xs.drop (i * 8))) w) := by
  have hxl : xs.length = n * 8 := hown.1
  have hgl := hown.lt g rfl
  have hvbl : vb < w.heap.size := (Array.getElem?_eq_some_iff.1 hnews).1
  have hsz : (Try.prog.info? 29).map (·.size) = some 8 := by kernel_rfl
  obtain ⟨cur, hg, hcm, hcs, htake⟩ : ∃ cur : Array Value, w.heap[g]? = some (.cells cur 29 (0, 0)) ∧ cap ≤ maxLen ∧ cur.size = cap * 8 ∧ cur.toList.take (n * 8) = xs := by
    rcases hown.2 with ⟨h, _⟩ | ⟨g', c', cur, h, _, hg, _, hcm, hcs, htake⟩
    · simp at h
    · simp only [Value.slice.injEq, Option.some.injEq, Addr.mk.injEq, and_true, true_and] at h
      obtain ⟨rfl, rfl⟩ := h
      exact ⟨cur, hg, hcm, hcs, htake⟩
  have hov := fun lb cb => insR_run w vb g ((i + 1) * 8) 1 1 lb cb news.toArray cur hne hnews hg (by omega)
  have hgl2 : w.drew.heap[g]? = some (.cells cur.toList.toArray 29 (0, 0)) := by show w.heap[g]? = _; simpa using hg
  have hcl : cur.toList.length = cap * 8 := by rw [Array.length_toList]; exact hcs
  have hcell : ∀ j u, xs[j]? = some u → w.cell? ⟨g, j, none⟩ = some u := fun j u hj => by
    have := hown.cells (g := g) rfl j u hj
    rwa [Addr.add_lit, Nat.zero_add] at this
  obtain ⟨W2, hr2, hh2, hg2, hs2⟩ := run_copy_spliceN (P := Try.prog) w.drew 24 24 3 29 8 (by decide) Try.underlying24 hsz (some ⟨g, (i + 1) * 8, none⟩) (some ⟨g, i * 8, none⟩) (n - i) (cap - (i + 1)) (n + 1 - i) (cap - i) g ((i + 1) * 8) cur.toList 29 hgl2 (xs.drop (i * 8))
    (by rw [List.length_drop, hxl]; have : Nat.min (n + 1 - i) (n - i) = n - i := by simp only [Nat.min_def]; split <;> omega
        rw [this]; omega)
    (fun _ => ⟨rfl, _, rfl, fun j v hj => by
      rw [Addr.add_lit]; exact hcell _ v (by rwa [List.getElem?_drop] at hj)⟩)
    (by rw [hcl, List.length_drop, hxl]; omega) (fun u hu => h1x u (List.mem_of_mem_drop hu))
  obtain ⟨W3, hr3, hh3, hg3, hs3⟩ := run_copy_spliceN (P := Try.prog) W2 24 24 3 29 8 (by decide) Try.underlying24 hsz (some ⟨g, i * 8, none⟩) (some ⟨vb, 0, none⟩) (n + 1 - i) (cap - i) 1 1 g (i * 8) _ 29 hh2 news
    (by rw [hl]; have : Nat.min 1 (n + 1 - i) = 1 := by simp only [Nat.min_def]; split <;> omega
        rw [this])
    (fun _ => ⟨rfl, _, rfl, fun j v hj => by
      rw [Addr.add_lit, Nat.zero_add, cell_of_row W2 vb j news.toArray 29 (0, 0) ((hg2.block vb hvbl (by simpa using hne)).trans hnews)]; simpa using hj⟩)
    (by rw [splice_len _ _ _ (by rw [hcl, List.length_drop, hxl]; omega), hcl, hl]; omega) h1
  simp only [maxLen] at hcm
  have hCi : ¬ cap = i := by omega
  have hCi1 : ¬ cap = i + 1 := by omega
  have hz2 : ((i : Int) == (n : Int)) = false := beq_eq_false_iff_ne.2 (by omega)
  have hz3 : ¬ (cap : Int) < (n : Int) + 1 := by omega
  have hz4 : i ≤ cap := by omega
  have hz5 : i ≤ n := by omega
  have HR2 := hide hr2
  have HR3 := hide hr3
  have HH3 := hide hh3
  have HO := hide hown
  have HT := hide htake
  have HC := hide hcs
  have HCL := hide hcl
  clear hnews hh2 hh3 hr2 hr3 hown hsz hgl2 hcell htake hcs hg hcl
  go_enter Try.func12, Try.ntmps12
  go_wp2_with (simp only [hov])
  have hw1 : IntKind.i64.wrap ((i : Int) + 1) = (i : Int) + 1 := IntWalk.i64_in _ (by omega)
  have hw2 : (0 : Int) ≤ (i : Int) + 1 := by omega
  have hw3 : (i : Int) + 1 ≤ (n : Int) + 1 := by omega
  have hw4 : ((i : Int) + 1).toNat = i + 1 := by omega
  have hw5 : (i : Int) ≤ (n : Int) + 1 := by omega
  go_region_law (refine step_copy_run rfl (.tmp 73) (.tmp 76) 24 24 rfl _ _ (by simp [Act.eval, Act.put]) (by simp [Act.eval, Act.put]) HR2.out ?_)
  clear hw1 hw2 hw3 hw4 hw5
  go_wp2_with (refine wpList_copy_run _ rfl (.tmp 80) (.tmp 81) 24 24 rfl _ _ rfl rfl HR3.out ?_)
  go_ret
  refine ⟨_, rfl, ⟨?_, .inr ⟨g, cap, _, rfl, hgl.1, HH3.out, hroom, by simp only [maxLen]; exact hcm, ?_, ?_⟩⟩, ?_, .inl rfl⟩
  · simp only [List.length_append, List.length_take, List.length_drop, hxl, hl]; omega
  · rw [List.size_toArray, splice_len _ _ _ (by rw [splice_len _ _ _ (by rw [HCL.out, List.length_drop, hxl]; omega), HCL.out, hl]; omega), splice_len _ _ _ (by rw [HCL.out, List.length_drop, hxl]; omega), HCL.out]
  · rw [show (i + 1) * 8 = i * 8 + 8 by omega, show (n + 1) * 8 = n * 8 + 8 by omega, ← HT.out]
    exact insert_shift cur.toList news (i * 8) 8 (n * 8) (by omega) hl (by rw [HCL.out]; omega)
  · have hsz2 : w.drew.heap.size = w.heap.size := rfl
    refine ⟨hg3.os.trans hg2.os, hg3.tape.trans hg2.tape, hg3.output.trans hg2.output, by omega, fun k hk hne' => ?_⟩
    rw [hg3.block k (by omega) hne', hg2.block k hk hne']
    rfl

/-- slices.Insert of one use, whatever the room. -/
theorem insR_any (base : Nat) (v : Value) (n i : Nat) (xs news : List Value) (vb : Nat) (w : World) (hown : w.ownsRow base 29 8 v n xs) (hbase : base ≤ w.heap.size) (hi : i ≤ n) (hn : n < 1000000)
    (hl : news.length = 8) (hnews : w.heap[vb]? = some (.cells news.toArray 29 (0, 0))) (hne : v.ownBlock ≠ some vb) (h1 : ∀ u ∈ news, u.oneCell' = true) (h1x : ∀ u ∈ xs, u.oneCell' = true) :
    Calls Try.prog 12 #[v, .int .i64 i, .slice (some ⟨vb, 0, none⟩) 1 1] w (InsPost base 29 8 v n (xs.take (i * 8) ++ (news ++ xs.drop (i * 8))) w) := by
  by_cases hin : i = n
  · subst hin
    have hx : xs.length = i * 8 := hown.1
    rw [List.take_of_length_le (by omega), List.drop_eq_nil_of_le (by omega), List.append_nil]
    exact insR_end base v i xs news vb w hown hbase hn hl hnews h1
  · rcases hown.2 with ⟨rfl, h0⟩ | ⟨g, cap, cur, rfl, _, hg, hnc, _⟩
    · omega
    · by_cases hroom : n + 1 ≤ cap
      · exact insR_shift base g n cap i xs news vb w hown hbase (by omega) hn hroom hl hnews (fun e => hne (by simp [Value.ownBlock, e])) h1 h1x
      · exact insR_grow base g n cap i xs news vb w hown hbase (by omega) hn (by omega) hl hnews h1 h1x

/-! Clone -/
def flatR (n : Nat) : List Value := ((List.range n).map cellsR).flatten
theorem cellsR_len (n : Nat) : ∀ r ∈ (List.range n).map cellsR, r.length = 8 := by
  intro r hr
  obtain ⟨x, _, rfl⟩ := List.mem_map.1 hr
  rfl
theorem flatR_len (n : Nat) : (flatR n).length = n * 8 := by unfold flatR; rw [flat_length _ (cellsR_len n), List.length_map, List.length_range]
theorem oneV (a b m f : Int) (s : Bool) : ∀ u ∈ cellsV a b m f s, u.oneCell' = true := by
  intro u hu
  simp [cellsV] at hu
  rcases hu with rfl | rfl | rfl | rfl | rfl | rfl | rfl | rfl <;> rfl
theorem flatR_one (n : Nat) : ∀ u ∈ flatR n, u.oneCell' = true := by
  intro u hu
  obtain ⟨r, hr, hur⟩ := List.mem_flatten.1 hu
  obtain ⟨x, _, rfl⟩ := List.mem_map.1 hr
  exact oneV _ _ _ _ _ u hur
theorem run_eql_nil (a : Addr) (n c : Nat) (w : World) : (binOp .eql 24 (.slice (some a) n c) (.slice none 0 0)).run Try.prog w = .ok (.bool false) w := by have := Lib.run_eql_slice_nil w 24 29 (some a) n c 0 0 Try.underlying24; simpa using this
theorem run_eql_nil_nil (w : World) : (binOp .eql 24 (.slice none 0 0) (.slice none 0 0)).run Try.prog w = .ok (.bool true) w := by have := Lib.run_eql_slice_nil w 24 29 none 0 0 0 0 Try.underlying24; simpa using this
def ClonePost (n : Nat) (w : World) (e : Ending) (w' : World) : Prop :=
  ∃ v', e = .returned v' ∧ w'.ownsRow w.heap.size 29 8 v' n (flatR n) ∧ Below w.heap.size w w'

set_option maxHeartbeats 400000 in
theorem cloneR_any (A : Option Addr) (n c : Nat) (w : World) (h : RR w A n) (hA : A = none → n = 0 ∧ c = 0) (hn : n < 1000000) :
    Calls Try.prog 13 #[.slice A n c] w (ClonePost n w) := by
  cases A with
  | none =>
    obtain ⟨rfl, rfl⟩ := hA rfl
    have he := run_eql_nil_nil
    go_enter Try.func13, Try.ntmps13
    go_wp2
    go_ret
    exact ⟨_, rfl, World.ownsRow_nil _ _ _ _, Below.refl _ _⟩
  | some a =>
    have he := run_eql_nil a n c
    obtain ⟨i0, hi, hz0, hz1, hz2⟩ := info_parts info29
    have hcell : ∀ j u, (flatR n)[j]? = some u → (w.alloc (.cells #[] 29)).cell? (a.add j) = some u := Rows3.flat (Rows3.after h ((Below.refl _ _).alloc (Nat.le_refl _) _)) (by decide)
    have hl := flatR_len n
    have h1 := flatR_one n
    have hm : 0 + n ≤ maxLen := by simp only [maxLen]; omega
    have hown := World.ownsRow_made (base := w.heap.size) (e := 29) (size := 8) w #[] 0 (Nat.le_refl _) (by decide) rfl
    have HC := hide hcell
    have HL := hide hl
    have HO := hide hown
    clear hcell hl h hown
    go_enter Try.func13, Try.ntmps13
    go_wp2_with (at_builtin; refine wpList_append_own_at _ rfl (.tmp 5) (.tmp 6) _ rfl w.heap.size 29 i0 _ 8 72 Try.underlying24 hi hz0 hz1 hz2 rfl (by decide) _ 0 [] rfl HO.out a n c _ rfl HL.out HC.out h1 hm (by omega) (by simp) ?_; intro v' w1 hown1 hgr1 _ hat)
    go_ret
    refine ⟨v', rfl, by simpa using hown1, ((Below.refl _ _).alloc (Nat.le_refl _) _).grown hgr1 (by simp) (fun k hk => ?_)⟩
    cases hk
    exact Nat.le_refl _
end Go.Proofs.Ytdkhpjeiepkldaa
