/-
  OWN. THE WALK of profile's add, where nothing stands behind the span's beginning.
-/
import Derived.Test.YtdkhpjeiepkldaaWalkF
import Derived.Deep.AppendLies
set_option linter.unusedSimpArgs false
set_option linter.unusedVariables false
namespace Go.Proofs.Ytdkhpjeiepkldaa
open Go.RowKit

theorem appT_run (w : World) (g n cap vb : Nat) (cur news : List Value) (hg : w.heap[g]? = some (.cells cur.toArray 71 (0, 0))) (hlen : cur.length = cap * 2) (hn : n + 1 ≤ cap) (hl : news.length = 2)
    (hnews : ∀ j u, news[j]? = some u → w.cell? ((⟨vb, 0, none⟩ : Addr).add j) = some u) (h1 : ∀ u ∈ news, u.oneCell' = true) (ty : TypeId) :
    (Builtin.append_ #[54, 54] ty #[.slice (some ⟨g, 0, none⟩) n cap, .slice (some ⟨vb, 0, none⟩) 1 1]).run Try.prog w = .ok (.slice (some ⟨g, 0, none⟩) (n + 1) cap) (w.setRow g (cur.take (n * 2) ++ news ++ cur.drop (n * 2 + 2)).toArray) := by
  obtain ⟨i0, hi, hz0, hz1, hz2⟩ := info_parts info71
  have h := run_append_room (P := Try.prog) w 54 ty 71 i0 Try.underlying54 hi g n cap cur.toArray hg ⟨vb, 0, none⟩ 1 1 news (by rw [hl, hz1]) hnews h1 hn (by rw [hl, hz1]; simp; omega)
  rw [h, hz1, hl]

theorem store_complex (k : FloatKind) (x y : Nat) (a : Addr) (m : Mode) (w : World) : (store a (.complex k x y) m).run Try.prog w = stored Try.prog w a (.complex k x y) m := run_store Try.prog w a _ m rfl

def AddPost (base : Nat) (w : World) (p c : Nat) (L' : List St) (e : Ending) (w' : World) : Prop :=
  e = .returned (.tuple #[]) ∧ Below base w w' ∧ ∃ v', Prof base w' p c v' L'

theorem flatT_set (L0 : List St) (f t : Int) (a b d : Nat) : (flatT (L0 ++ [(f, a), (t, d)])).set (L0.length * 2 + 1) (C b) = flatT (L0 ++ [(f, b), (t, d)]) := by
  rw [flatT_append, flatT_append, List.set_append_right _ _ (by rw [flatT_len]; omega), flatT_len]
  rw [show L0.length * 2 + 1 - L0.length * 2 = 1 by omega]
  rfl
theorem flatT_get (L0 : List St) (f t : Int) (a d : Nat) : (flatT (L0 ++ [(f, a), (t, d)]))[L0.length * 2 + 1]? = some (C a) := by
  rw [flatT_append, List.getElem?_append_right (by rw [flatT_len]; omega), flatT_len]
  rw [show L0.length * 2 + 1 - L0.length * 2 = 1 by omega]
  rfl
theorem ahead_last (c : Nat) (L0 : List St) (f : Int) (a : Nat) : aheadP c (L0 ++ [(f, a)]) = a := by
  unfold aheadP
  rw [List.getLast?_append]
  rfl

set_option maxHeartbeats 2000000 in
theorem add_any (base p c : Nat) (L0 : List St) (f t : Int) (a : Nat) (w : World)
    (hs : Calls Try.prog 35 #[.pointer (some ⟨p, 0, none⟩), .int .i64 f] w (SplitPost base w p c (L0 ++ [(f, a)]) L0.length))
    (hL : ∀ x ∈ L0, x.1 ≤ f ∧ x.2 ≤ 2) (hft : f < t) (ht : t < 1099511627776) (ha : 1 ≤ a ∧ a ≤ 2) (hn : L0.length ≤ 900) (hc : c ≤ 2) :
    Calls Try.prog 26 #[.pointer (some ⟨p, 0, none⟩), .int .i64 f, .int .i64 t, .complex .f64 13830554455654793216 9223372036854775808] w (AddPost base w p c (filterF c (L0 ++ [(f, a - 1), (t, a)]))) := by
  have hadd := less_one_run a ha 25
  unfold C at hadd
  have hst := store_complex
  go_enter Try.func26, Try.ntmps26
  go_wp2_with fail
  refine hs.mono ?_
  rintro e w1 ⟨rfl, hb1, v1, h1⟩
  obtain ⟨A1, cap1, rfl, hr1⟩ := h1.rp
  have k1 := hr1.c1
  have hx1 := split_new base p c _ (L0 ++ [(f, a)]) t w1 h1 (by
    intro x hx
    rcases List.mem_append.1 hx with hx | hx
    · have := (hL x hx).1; omega
    · rw [List.mem_singleton.1 hx]; simp only; omega) (by
    intro x hx
    rw [List.getLast?_append] at hx
    simp at hx
    rw [← hx]; simp only; omega) (by simp; omega)
  rw [ahead_last, List.append_assoc] at hx1
  have HS := hide hx1
  have hl1 : (L0 ++ [(f, a)]).length = L0.length + 1 := by simp
  rw [hl1] at k1 HS
  clear hx1 hl1 hr1 hs
  go_wp2_with fail
  refine HS.out.mono ?_
  rintro e w2 ⟨rfl, hb2, v2, h2⟩
  have hl2 : (L0 ++ ([(f, a)] ++ [(t, a)])).length = L0.length + 2 := by simp
  have h12 : Below base w w2 := hb1.trans hb2
  obtain ⟨g, cap, hv, hbg, hlt⟩ := World.ownsRow.form h2.own (by rw [hl2]; omega)
  rw [hl2] at hv
  subst hv
  have ho2 := h2.own
  rw [hl2] at ho2
  have hcap : L0.length + 2 ≤ cap := by
    rcases ho2.2 with ⟨hv, _⟩ | ⟨_, c', _, hv, _, _, hnc, _⟩
    · cases hv
    · injection hv with _ _ hv; omega
  have hpg : p ≠ g := fun e => h2.ne (by rw [e]; rfl)
  have k1 := h2.c1
  have kg : w2.cell? ⟨g, L0.length * 2 + 1, none⟩ = some (C a) := by
    rw [ho2.cellAt _ (by omega)]
    exact flatT_get L0 f t a a
  have kf : w2.frozen? ⟨g, L0.length * 2 + 1, none⟩ = false := ho2.frozenAt _
  have e1 : (0 : Int) ≤ (L0.length : Int) := by omega
  have e2 : (L0.length : Int) < (L0.length : Int) + 2 := by omega
  have H2 := hide h2
  have HO := hide ho2
  have HB := hide h12
  have hL := hide hL
  clear h2 ho2 h12 hb1 hb2 h1 HS
  go_wp2
  go_loopw [10] (fun k wr => (k = .int .i64 L0.length ∧ wr = w2) ∨ (k = .int .i64 ((L0.length : Int) + 1) ∧ wr = w2.setCell ⟨g, L0.length * 2 + 1, none⟩ (C (a - 1)))) (fun k _ => L0.length + 1 - (intOf k).toNat)
  case atStart => exact .inl ⟨rfl, rfl⟩
  case round =>
    rcases hrel with ⟨rfl, rfl⟩ | ⟨rfl, hwr⟩
    · go_wp2
      go_roundw
      case rel => exact .inr ⟨rfl, by first | trivial | rfl⟩
      case measure => simp [intOf] <;> omega
    · have hx2 : ((L0 ++ [(f, a - 1), (t, a)]).map cellsT).flatten = (((L0 ++ ([(f, a)] ++ [(t, a)])).map cellsT).flatten).set (L0.length * 2 + 1) (C (a - 1)) := (flatT_set L0 f t a (a - 1) a).symm
      have ho3 : wr.ownsRow base 71 2 (.slice (some ⟨g, 0, none⟩) (L0.length + 2) cap) (L0.length + 2) (flatT (L0 ++ [(f, a - 1), (t, a)])) := by
        rw [hwr]
        have := (HO.out.stored (L0.length * 2 + 1) (C (a - 1))).1
        rw [← hx2] at this
        exact this
      have hb3 : Below base w wr := by rw [hwr]; exact HB.out.setCell (p := ⟨g, _, none⟩) hbg _
      have hblk : wr.heap[p]? = some (.cells #[C c, .slice (some ⟨g, 0, none⟩) (L0.length + 2) cap] 56 (0, 0)) := by
        rw [hwr, heap_setCell_other w2 ⟨g, _, none⟩ p _ hpg]; exact H2.out.blk
      have hp := H2.out.hp
      obtain ⟨cur, hrow, hcl, hcm, hct⟩ : ∃ cur : List Value, wr.heap[g]? = some (.cells cur.toArray 71 (0, 0)) ∧ cur.length = cap * 2 ∧ cap ≤ maxLen ∧ cur.take ((L0.length + 2) * 2) = flatT (L0 ++ [(f, a - 1), (t, a)]) := by
        rcases ho3.2 with ⟨hv, _⟩ | ⟨g', c', cur, hv, _, hh, _, hcm, hcs, htk⟩
        · cases hv
        · injection hv with hv1 hv2 hv3
          injection hv1 with hv1
          injection hv1 with hv1
          subst hv1 hv3
          exact ⟨cur.toList, by simpa using hh, by simpa using hcs, hcm, htk⟩
      obtain ⟨L, hLL⟩ : ∃ L, L = L0 ++ [(f, a - 1), (t, a)] := ⟨_, rfl⟩
      rw [← hLL] at hct
      have hLl : L.length = L0.length + 2 := by rw [hLL]; simp
      have hL2 : ∀ x ∈ L, x.2 ≤ 2 := by
        intro x hx
        rw [hLL] at hx
        rcases List.mem_append.1 hx with hx | hx
        · exact (hL.out x hx).2
        · simp at hx
          rcases hx with rfl | rfl <;> simp only <;> omega
      have hF0 : Filt base w wr p c g cap (.slice (some ⟨g, 0, none⟩) (L0.length + 2) cap) L 0 c [] cur :=
        ⟨hb3, hblk, hrow, hcl, by simp [flatT], ⟨cur.drop ((L0.length + 2) * 2), by rw [Nat.zero_mul, List.drop_zero, List.drop_zero, ← hct, List.take_append_drop]⟩, by rw [List.drop_zero]; rfl⟩
      have k1 : wr.cell? ⟨p, 1, none⟩ = some (.slice (some ⟨g, 0, none⟩) (L0.length + 2) cap) := by rw [cell_of_row wr p 1 _ _ (0, 0) hblk]; rfl
      have k0 : wr.cell? ⟨p, 0, none⟩ = some (C c) := by rw [cell_of_row wr p 0 _ _ (0, 0) hblk]; rfl
      have HLL := hide hLL
      have HF0 := hide hF0
      have HL2 := hide hL2
      have HLl := hide hLl
      clear hx2 ho3 hb3 hrow hcl hct hLL hF0 hwr kg kf HO HB H2 hL2 hLl hblk hadd
      go_wp2
      go_loopw [11, 12, 60] (fun lv fv qv wq => ∃ (q fr : Nat) (F : List St) (cur : List Value), q ≤ L0.length + 2 ∧ F.length ≤ q ∧ fr ≤ 2 ∧ lv = .slice (some ⟨g, 0, none⟩) F.length cap ∧ fv = C fr ∧ qv = .int .i64 q ∧ Hid (Filt base w wq p c g cap (.slice (some ⟨g, 0, none⟩) (L0.length + 2) cap) L q fr F cur)) (fun _ _ qv _ => L0.length + 2 - (intOf qv).toNat)
      case atStart => exact ⟨0, c, [], cur, by omega, by simp, hc, rfl, rfl, rfl, HF0.out⟩
      clear k0 k1 HF0
      case round =>
        obtain ⟨q, fr, F, cur, hq, hFq, hfr, rfl, rfl, rfl, HI⟩ := hrel
        by_cases hlt2 : q < L0.length + 2
        · obtain ⟨x, hx⟩ : ∃ x, L[q]? = some x := ⟨_, List.getElem?_eq_getElem (by rw [HLl.out]; exact hlt2)⟩
          obtain ⟨c0, c1⟩ := HI.out.cells hx
          have hx2 := HL2.out x (List.mem_of_getElem? hx)
          have hgl : g < wr.heap.size := (Array.getElem?_eq_some_iff.1 HI.out.row).1
          have hbase : base ≤ wr.heap.size := by omega
          have oz := o00
          by_cases hsame : x.2 = fr
          · have HS := hide (HI.out.skip hx hsame (.cells #[.int .i64 x.1, C x.2] 71) hbase)
            have oB : (FloatKind.f64.format.order (B x.2) (B fr) == some Ordering.eq) = true := by rw [hsame]; exact ordB_eq fr hfr
            clear hsame hx
            go_wp2
            go_roundw
            case rel => exact ⟨q + 1, fr, F, cur, by omega, by omega, hfr, rfl, rfl, by go_num, HS.out⟩
            case measure => simp [intOf] <;> omega
          · have oB : (FloatKind.f64.format.order (B x.2) (B fr) == some Ordering.eq) = false := ordB_ne _ _ hx2 hfr hsame
            obtain ⟨w3, hw3⟩ : ∃ w3, w3 = (wr.alloc (.cells #[.int .i64 x.1, C x.2] 71)).alloc (.cells #[.int .i64 x.1, C x.2] 71) := ⟨_, rfl⟩
            have hb3 : Below wr.heap.size wr w3 := by rw [hw3]; exact ((Below.refl _ _).alloc (Nat.le_refl _) _).alloc (by simp) _
            obtain ⟨hg3, hK⟩ := HI.out.keep hx hsame hFq (by omega) hbase hbg hpg w3 hb3
            have hnews : ∀ j u, ([.int .i64 x.1, C x.2] : List Value)[j]? = some u → w3.cell? ((⟨wr.heap.size + 1, 0, none⟩ : Addr).add j) = some u := by
              have := cells_new (wr.alloc (.cells #[.int .i64 x.1, C x.2] 71)) [.int .i64 x.1, C x.2] 71
              rw [show (wr.alloc (.cells #[.int .i64 x.1, C x.2] 71)).heap.size = wr.heap.size + 1 from by simp] at this
              rw [hw3]; exact this
            have hap := appT_run w3 g F.length cap (wr.heap.size + 1) cur [.int .i64 x.1, C x.2] hg3 HI.out.len (by omega) rfl hnews (oneT x.1 x.2)
            obtain ⟨w4, hw4⟩ : ∃ w4, w4 = w3.setRow g (cur.take (F.length * 2) ++ [.int .i64 x.1, C x.2] ++ cur.drop (F.length * 2 + 2)).toArray := ⟨_, rfl⟩
            rw [← hw4] at hap hK
            have hf1 : w4.cell? ⟨wr.heap.size, 1, none⟩ = some (C x.2) := by
              have e : w4.heap[wr.heap.size]? = some (.cells #[.int .i64 x.1, C x.2] 71 (0, 0)) := by
                rw [hw4, setRow_other w3 g wr.heap.size _ (by omega), hw3]
                exact (((Below.refl _ _).alloc (Nat.le_refl _) _).block wr.heap.size (by simp)).trans (heap_alloc_new wr _)
              rw [cell_of_row w4 _ 1 _ _ (0, 0) e]; rfl
            rw [hw3] at hap
            have HAP := hide hap
            have HK := hide hK
            have HW := hide hw4
            clear hw3 hw4 hb3 hg3 hK hnews hap hx hsame
            go_wp2_with (at_builtin; refine Lib.wpList_append_run _ rfl (.tmp 68) (.tmp 70) 54 54 rfl _ _ rfl rfl _ _ (HAP.out _) ?_)
            go_roundw
            case rel => exact ⟨q + 1, x.2, F ++ [x], _, by omega, by simp; omega, hx2, by simp, rfl, by go_num, HK.out⟩
            case measure => simp [intOf] <;> omega
        · have hqe : q = L0.length + 2 := by omega
          have HI' := HI.out
          have hall := HI'.all
          rw [List.drop_eq_nil_of_le (by rw [HLl.out]; omega)] at hall
          have hall : filterF c L = F := by rw [hall]; simp [filterF]
          have k1 : wr.cell? ⟨p, 1, none⟩ = some (.slice (some ⟨g, 0, none⟩) (L0.length + 2) cap) := by rw [cell_of_row wr p 1 _ _ (0, 0) HI'.blk]; rfl
          have kz : wr.frozen? ⟨p, 1, none⟩ = false := by unfold World.frozen?; simp [HI'.blk]
          have HFF := hide (show Prof base (wr.setCell ⟨p, 1, none⟩ (.slice (some ⟨g, 0, none⟩) F.length cap)) p c (.slice (some ⟨g, 0, none⟩) F.length cap) F from by
            refine ⟨hp, ?_, ?_, fun e => hpg (by simpa [Value.ownBlock] using e.symm)⟩
            · rw [heap_setCell_same wr p 1 _ 56 _ HI'.blk]; rfl
            · refine ownsRow_setCell_other (a := ⟨p, 1, none⟩) ⟨flatT_len F, .inr ⟨g, cap, cur.toArray, rfl, hbg, HI'.row, by omega, hcm, by simpa using HI'.len, by simpa using HI'.kept⟩⟩ (fun e => hpg (by simpa [Value.ownBlock] using e.symm)) _)
          have HBB := hide (HI'.hb.setCell (p := ⟨p, 1, none⟩) hp (.slice (some ⟨g, 0, none⟩) F.length cap))
          have HA := hide hall
          have HLL2 := hide HLL.out
          clear HI' hall hqe
          go_wp2
          go_end0
          refine ⟨rfl, HBB.out, .slice (some ⟨g, 0, none⟩) F.length cap, ?_⟩
          rw [← HLL2.out, HA.out]
          exact HFF.out
end Go.Proofs.Ytdkhpjeiepkldaa
