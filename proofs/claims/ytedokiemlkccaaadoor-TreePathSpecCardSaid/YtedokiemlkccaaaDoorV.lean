/- The walk of slices.Grow, slices.Concat and digest.Tagged. -/
import Derived.Test.YtedokiemlkccaaaDoorS
import Derived.Test.YtedokiemlkccaaaDoorG
import Derived.Outline
import Derived.Lib.AppendZeros
import Derived.Laws.AppendOwnNone
set_option linter.all false
namespace Go.Proofs.YtedokiemlkccaaaDoor
open Go.RowKit
theorem info5 : (Tryd.prog.info? 5).map (fun i => (i.zero, i.size, i.bytes)) = some (some (.int .u8 0), 1, 1) := by kernel_rfl
/-- slices.Grow of the nil slice. -/
theorem grow_any (n : Nat) (w : World) (h0 : 0 < n) (hn : n ≤ 8000000) : Calls Tryd.prog 112 #[.slice none 0 0, .int .i64 n] w fun e w' =>
    ∃ c cur, e = .returned (.slice (some ⟨w.heap.size, 0, none⟩) 0 c) ∧ w' = w.drew.alloc (.cells cur 5) ∧ cur.size = c ∧ n ≤ c ∧ c ≤ 9223372036854775807 := by
  obtain ⟨G, hG⟩ : ∃ G, grownCap w n 0 5 = G := ⟨_, rfl⟩
  have hGn : n ≤ G := by rw [← hG]; exact grownCap_ge w _ _ _
  have hG63 : G ≤ 9223372036854775807 := by rw [← hG]; exact grownCap_le_maxLen w n 0 5 (by unfold maxLen; omega)
  obtain ⟨i0, hi, hz, hsize, hby⟩ := info_parts info5
  have hr : ∀ ty, (Builtin.append_ #[22, 3] ty #[.slice none 0 0, .int .i64 n]).run Tryd.prog w = .ok (.slice (some ⟨w.heap.size, 0, none⟩) n G) (w.drew.alloc (.cells (Builtin.zeroCells (Value.int .u8 0).cells n ++ Builtin.zeroCells (Value.int .u8 0).cells (G - n)) 5)) := by
    intro ty
    have := Lib.run_append_nil_zeros (P := Tryd.prog) w 22 3 ty 5 i0 (.int .u8 0) .i64 .i64 Tryd.underlying22 Tryd.underlying3 hi hz n h0 (by rw [hsize]; decide) (by omega) (by rw [hby]; omega)
    rw [hG] at this; exact this
  obtain ⟨cur, hcur⟩ : ∃ cur, Builtin.zeroCells (Value.int .u8 0).cells n ++ Builtin.zeroCells (Value.int .u8 0).cells (G - n) = cur := ⟨_, rfl⟩
  have hsz : cur.size = G := by
    rw [← hcur, Array.size_append, size_zeroCells, size_zeroCells]
    show n * 1 + (G - n) * 1 = G
    omega
  rw [hcur] at hr
  clear hcur hG hi hz hsize hby
  have h0' : (0 : Int) < n := by omega
  go_enter Tryd.func112, Tryd.ntmps112
  go_wp2_with (at_builtin; refine Lib.wpList_append_run _ rfl _ _ _ _ rfl _ _ rfl rfl _ _ (hr _) ?_)
  go_ret
  exact ⟨G, cur, rfl, rfl, hsz, hGn, hG63⟩
theorem ownsRow_bs {w : World} {B n : Nat} {v : Value} {l : List UInt8} (h : w.ownsRow B 5 1 v n (u8s l)) (h0 : 0 < n) : ∃ A c, v = .slice A n c ∧ BS w A n c l := by
  have hl : l.length = n := by have := h.1; rw [u8s_length] at this; omega
  rcases h.2 with ⟨rfl, h1⟩ | ⟨g, cap, cur, rfl, hb, hg, h1, h2, h3, h4⟩
  · omega
  · refine ⟨some ⟨g, 0, none⟩, cap, rfl, hl, h1, h2, fun e => (by cases e), fun _ => ⟨g, 0, rfl, ⟨fun i hi => ?_, fun _ => (Array.getElem?_eq_some_iff.1 hg).1⟩⟩⟩
    rw [Nat.zero_add, cell_of_row w g i cur 5 (0, 0) hg]
    have := u8s_get l i hi
    rw [← h4, List.getElem?_take, if_pos (by omega)] at this
    simpa using this
set_option maxRecDepth 100000 in
theorem concat_any (g : Nat) (A1 A2 : Option Addr) (n1 c1 n2 c2 : Nat) (l1 l2 : List UInt8) (w : World) (hg : Blk w g 22 #[.slice A1 n1 c1, .slice A2 n2 c2])
    (h1 : BS w A1 n1 c1 l1) (h2 : BS w A2 n2 c2 l2) (hA1 : ∃ a, A1 = some a) (h0 : 0 < n1 + n2) (hn : n1 + n2 ≤ 8000000) :
    Calls Tryd.prog 81 #[.slice (some ⟨g, 0, none⟩) 2 2] w fun e w' => ∃ A c, e = .returned (.slice A (n1 + n2) c) ∧ BS w' A (n1 + n2) c (l1 ++ l2) ∧ Below w.heap.size w w' := by
  obtain ⟨i0, hi, hz, hsize, hby⟩ := info_parts info5
  obtain ⟨a1, rfl⟩ := hA1
  have g0 : w.cell? ⟨g, 0, none⟩ = some (.slice (some a1) n1 c1) := hg.cell 0
  have g1 : w.cell? ⟨g, 1, none⟩ = some (.slice A2 n2 c2) := hg.cell 1
  have gw := grow_any (n1 + n2) w h0 hn
  rw [show ((n1 + n2 : Nat) : Int) = (n1 : Int) + n2 by omega] at gw
  have GW := Lib.hid gw
  have e1 : ¬ ((n1 : Int) < 0) := by omega
  have e2 : ¬ ((n1 : Int) + n2 < 0) := by omega
  have hlt := hg.lt
  clear gw
  go_enter Tryd.func81, Tryd.ntmps81
  go_wp2_with fail
  refine wp_loop_rounds 3 ?_
  rw [rounds_succ]
  go_wp2_with fail
  rw [rounds_succ]
  go_wp2_with fail
  rw [rounds_succ]
  go_wp2_with fail
  refine GW.out.mono ?_
  rintro e w1 ⟨c, cur, rfl, rfl, hsz, hc1, hc2⟩
  have hb1 : Below w.heap.size w (w.drew.alloc (.cells cur 5)) := (below_drewN (Below.refl _ w) 1).alloc (Nat.le_refl _) _
  have hg1 : Blk (w.drew.alloc (.cells cur 5)) g 22 #[.slice (some a1) n1 c1, .slice A2 n2 c2] := hg.below hb1 hlt
  have g0' := hg1.cell 0
  have g1' := hg1.cell 1
  have hz' : (w.drew.alloc (.cells cur 5)).heap.size = w.heap.size + 1 := by simp
  have hown : (w.drew.alloc (.cells cur 5)).ownsRow w.heap.size 5 1 (.slice (some ⟨w.heap.size, 0, none⟩) 0 c) 0 [] :=
    World.ownsRow_made w.drew cur c (Nat.le_refl _) hc2 (by omega)
  have hn1 : ∀ j u, (u8s l1)[j]? = some u → (w.drew.alloc (.cells cur 5)).cell? (a1.add j) = some u := by
    intro j u hu
    have hlt : j < l1.length := by
      rcases Nat.lt_or_ge j l1.length with h | h
      · exact h
      · rw [List.getElem?_eq_none (by rw [u8s_length]; exact h)] at hu; cases hu
    obtain ⟨b, o, e, hB⟩ := (h1.below hb1).at_ (by have := h1.len; omega)
    cases e
    exact bytes_cell hB j u hu
  generalize w.drew.alloc (.cells cur 5) = w1 at *
  clear GW g0 g1 hg
  go_wp2_with fail
  refine wp_loop_rounds 3 ?_
  rw [rounds_succ]
  have hl1 : (u8s l1).length = n1 * 1 := by rw [u8s_length, h1.len, Nat.mul_one]
  have hl2 : (u8s l2).length = n2 * 1 := by rw [u8s_length, h2.len, Nat.mul_one]
  have k1 : 0 + n1 ≤ maxLen := by unfold maxLen; omega
  have k2 : (0 + n1) * 1 ≤ 140737488355328 := by omega
  have k3 : w.heap.size ≤ w1.heap.size := hb1.size
  go_wp2_with (at_builtin; refine wpList_append_own _ rfl _ _ 22 rfl w.heap.size 5 i0 (.int .u8 0) 1 1 Tryd.underlying22 hi hz hsize hby rfl (by decide) _ _ _ rfl hown a1 n1 c1 (u8s l1) rfl hl1 hn1 (u8s_one l1) k1 k2 k3 ?_)
  intro v2 w2 hown2 hgr2 _
  have hb2 : Below w.heap.size w w2 := hb1.grown hgr2 hb1.size (fun k e => by cases e; exact Nat.le_refl _)
  have hg2 : Blk w2 g 22 #[.slice (some a1) n1 c1, .slice A2 n2 c2] := hg1.grown hgr2 (by intro e; simp only [Value.ownBlock, Option.some.injEq] at e; omega)
  have f0 := hg2.cell 0
  have f1 := hg2.cell 1
  clear hgr2 hown g0' g1' hg1 hn1 k1 k2 k3
  rcases A2 with _ | a2
  · obtain rfl : c2 = 0 := h2.nil_ rfl
    obtain rfl : n2 = 0 := by have := h2.cap; omega
    obtain rfl : l2 = [] := List.length_eq_zero_iff.1 h2.len
    go_wp2_with fail
    rw [rounds_succ]
    go_wp2_with (at_builtin; refine wpList_append_own_none rfl _ _ 22 rfl w.heap.size 5 i0 1 Tryd.underlying22 hi v2 n1 (u8s l1) rfl hown2 rfl ?_)
    rw [rounds_succ]
    go_wp2_with fail
    go_ret
    obtain ⟨A, c, rfl, hbs⟩ := ownsRow_bs hown2 h0
    rw [List.append_nil]
    exact ⟨A, c, rfl, hbs, hb2⟩
  · have hn2 : ∀ j u, (u8s l2)[j]? = some u → w2.cell? (a2.add j) = some u := by
      intro j u hu
      have hlt : j < l2.length := by
        rcases Nat.lt_or_ge j l2.length with h | h
        · exact h
        · rw [List.getElem?_eq_none (by rw [u8s_length]; exact h)] at hu; cases hu
      obtain ⟨b, o, e, hB⟩ := (h2.below hb2).at_ (by have := h2.len; omega)
      cases e
      exact bytes_cell hB j u hu
    have k1 : n1 + n2 ≤ maxLen := by unfold maxLen; omega
    have k2 : (n1 + n2) * 1 ≤ 140737488355328 := by omega
    have k3 : w.heap.size ≤ w2.heap.size := hb2.size
    go_wp2_with fail
    rw [rounds_succ]
    go_wp2_with (at_builtin; refine wpList_append_own _ rfl _ _ 22 rfl w.heap.size 5 i0 (.int .u8 0) 1 1 Tryd.underlying22 hi hz hsize hby rfl (by decide) _ _ _ rfl hown2 a2 n2 c2 (u8s l2) rfl hl2 hn2 (u8s_one l2) k1 k2 k3 ?_)
    intro v3 w3 hown3 hgr3 _
    have hb3 : Below w.heap.size w w3 := hb2.grown hgr3 hb2.size (fun k e => (hown2.lt k e).1)
    clear hgr3 hown2 hn2 k1 k2 k3 f0 f1 hg2
    go_wp2_with fail
    rw [rounds_succ]
    go_wp2_with fail
    go_ret
    rw [← u8s_append] at hown3
    obtain ⟨A, c, rfl, hbs⟩ := ownsRow_bs hown3 h0
    exact ⟨A, c, rfl, hbs, hb3⟩
theorem bytesRow_get (s : List UInt8) (c i : Nat) (h : i < s.length) : (bytesRow ⟨s.toArray⟩ c)[i]? = some (.int .u8 (bI s i)) := by
  have := u8s_get s i h
  unfold u8s at this
  unfold bytesRow
  rw [Array.getElem?_append_left (by simpa using h)]
  simpa using this
set_option maxRecDepth 100000 in
/-- digest.Tagged. -/
theorem tagged_any (tag : List UInt8) (A : Option Addr) (n c : Nat) (l : List UInt8) (w : World) (ht : tag.length ≤ 100000) (h : BS w A n c l) (hn : n ≤ 100000) (hT : Tabs w) :
    Calls Tryd.prog 40 #[.string ⟨tag.toArray⟩, .slice A n c] w fun e w' => e = .returned (.agg (u8s (sha (sha tag ++ l))).toArray) ∧ Below w.heap.size w w' := by
  have hcv : ∀ W : World, ∃ G w1, (convert 9 22 (.string ⟨tag.toArray⟩)).run Tryd.prog W = .ok (.slice (some ⟨W.heap.size, 0, none⟩) tag.length G) w1 ∧ BS w1 (some ⟨W.heap.size, 0, none⟩) tag.length G tag ∧ Below W.heap.size W w1 := by
    intro W
    have := run_bytes_of_string (P := Tryd.prog) W 9 22 5 ⟨tag.toArray⟩ Tryd.underlying9 Tryd.underlying22 Tryd.underlying5
    refine ⟨_, _, this, ⟨rfl, grownCap_ge W _ _ _, grownCap_le_maxLen W _ 0 5 (by unfold maxLen; simp only [ByteArray.size, List.size_toArray]; omega), fun e => (by cases e), fun _ => ⟨_, 0, rfl, ⟨fun i hi => ?_, fun _ => by simp⟩⟩⟩, (below_drewN (Below.refl _ W) 1).alloc (Nat.le_refl _) _⟩
    rw [Nat.zero_add]
    exact (cell_of_row _ _ i _ 5 _ (heap_new W.drew _)).trans (bytesRow_get tag _ i hi)
  have HT := Lib.hid hT
  have HBS := Lib.hid h
  have hlt := hT.lt
  clear hT h
  go_enter Tryd.func40, Tryd.ntmps40
  go_upto_region 1 with fail
  have hb0 : Below w.heap.size w (w.alloc (.cells z32 41)) := (Below.refl _ w).alloc (Nat.le_refl _) _
  have hd0 : Blk (w.alloc (.cells z32 41)) w.heap.size 41 z32 := Blk.new _ _ _
  have hz0 : (w.alloc (.cells z32 41)).heap.size = w.heap.size + 1 := by simp
  change Code.wp _ _ _ _ (w.alloc (.cells z32 41))
  generalize w.alloc (.cells z32 41) = W0 at *
  obtain ⟨G, w1, hc1, hbs1, hb1⟩ := hcv W0
  rw [hz0] at hc1 hbs1
  have cs := dsum_any (some ⟨w.heap.size + 1, 0, none⟩) tag.length G tag w1 hbs1 (by omega) (((HT.out).ext hb0).ext hb1)
  have hd1 := hd0.below hb1 (by omega)
  have hbw1 : Below w.heap.size w w1 := bl hb0 hb1
  have hz1 := hb1.size
  clear hcv hbs1 hb1 hb0 hd0
  go_wp2_with fail
  refine cs.mono ?_
  rintro e w2 ⟨rfl, hb2⟩
  have hd2 := hd1.below hb2 (by omega)
  have hbw2 : Below w.heap.size w w2 := bl hbw1 hb2
  have hlt2 : w.heap.size < w2.heap.size := by have := hb2.size; omega
  clear cs hb2 hd1 hbw1 hc1
  have hsz : (u8s (sha tag)).toArray.size = 32 := by rw [List.size_toArray, u8s_length, sha_length]
  have hall := u8s_all (sha tag)
  obtain ⟨d1, hd1e⟩ : ∃ d, sha tag = d := ⟨_, rfl⟩
  have hdl : d1.length = 32 := by rw [← hd1e]; exact sha_length _
  rw [hd1e] at hsz hall ⊢
  dsimp only
  go_step
  go_step
  go_step
  go_step
  change wpList _ _ _ _ _ (w2.alloc (.cells z32 41))
  have hz2 := hbw2.size
  have ht3 : Blk (w2.alloc (.cells z32 41)) w2.heap.size 41 z32 := Blk.new _ _ _
  refine wpList_store_row rfl 41 (.tmp 5) (.tmp 8) rfl w2.heap.size _ rfl rfl 41 z32 ht3 (by rw [hsz]; kernel_rfl) (by rw [hsz]; rfl) hall ?_
  have ht4 : Blk ((w2.alloc (.cells z32 41)).setRow w2.heap.size (u8s d1).toArray) w2.heap.size 41 (u8s d1).toArray := setRow_heap _ _ _ _ _ _ ht3
  have hb4 : Below w.heap.size w ((w2.alloc (.cells z32 41)).setRow w2.heap.size (u8s d1).toArray) := below_setRow (hbw2.alloc hz2 _) hz2 _
  have hd4 : Blk ((w2.alloc (.cells z32 41)).setRow w2.heap.size (u8s d1).toArray) w.heap.size 41 z32 := (setRow_other _ _ _ _ (by omega)).trans (hd2.alloc _)
  generalize (w2.alloc (.cells z32 41)).setRow w2.heap.size (u8s d1).toArray = w4 at ht4 hb4 hd4 ⊢
  obtain ⟨g, hg⟩ : ∃ g, w2.heap.size = g := ⟨_, rfl⟩
  rw [hg] at ht4 hz2 ⊢
  clear hbw2 hd2 ht3 hg
  apply wpList_nil
  go_upto_region 2 with fail
  have ht5 := ht4.alloc (.cells #[.slice (some ⟨g, 0, none⟩) 32 32, .slice A n c] 22)
  have hq5 : Blk (w4.alloc (.cells #[.slice (some ⟨g, 0, none⟩) 32 32, .slice A n c] 22)) w4.heap.size 22 #[.slice (some ⟨g, 0, none⟩) 32 32, .slice A n c] := Blk.new _ _ _
  have hd5 := hd4.alloc (.cells #[.slice (some ⟨g, 0, none⟩) 32 32, .slice A n c] 22)
  have hb5 := hb4.alloc hb4.size (.cells #[.slice (some ⟨g, 0, none⟩) 32 32, .slice A n c] 22)
  have hs1 : BS (w4.alloc (.cells #[.slice (some ⟨g, 0, none⟩) 32 32, .slice A n c] 22)) (some ⟨g, 0, none⟩) 32 32 d1 :=
    ⟨hdl, by omega, by omega, fun e => (by cases e), fun _ => ⟨g, 0, rfl, ⟨fun i hi => by
      rw [Nat.zero_add, ht5.cell i, List.getElem?_toArray]; exact u8s_get _ _ hi, fun _ => ht5.lt⟩⟩⟩
  have cc := concat_any w4.heap.size (some ⟨g, 0, none⟩) A 32 32 n c d1 l _ hq5 hs1 ((HBS.out).below hb5) ⟨_, rfl⟩ (by omega) (by omega)
  have CC := Lib.hid cc
  clear cc hs1
  go_wp2_with fail
  refine CC.out.mono ?_
  rintro e w6 ⟨A3, c3, rfl, hbs3, hb6⟩
  have hbw6 : Below w.heap.size w w6 := bl hb5 hb6
  have hd6 := hd5.below hb6 (by simp; have := hb4.size; omega)
  have cs := dsum_any A3 (32 + n) c3 (d1 ++ l) w6 hbs3 (by omega) ((HT.out).ext hbw6)
  have CS := Lib.hid cs
  clear cs CC hb6 hb5 hd5 hq5 ht5 hb4 hd4 ht4 hbs3
  go_wp2_with fail
  refine CS.out.mono ?_
  rintro e w7 ⟨rfl, hb7⟩
  have hbw7 : Below w.heap.size w w7 := bl hbw6 hb7
  have hd7 := hd6.below hb7 (by have := hbw6.size; have := hd6.lt; omega)
  have hsz2 : (u8s (sha (d1 ++ l))).toArray.size = 32 := by rw [List.size_toArray, u8s_length, sha_length]
  have hall2 := u8s_all (sha (d1 ++ l))
  obtain ⟨ds, hds⟩ : ∃ ds, (u8s (sha (d1 ++ l))).toArray = ds := ⟨_, rfl⟩
  rw [hds] at hsz2 hall2 ⊢
  have HDS := Lib.hid hds
  clear hds
  dsimp only
  go_step
  refine wpList_store_row rfl 41 (.tmp 4) (.tmp 13) rfl w.heap.size _ rfl rfl 41 z32 hd7 (by rw [hsz2]; kernel_rfl) (by rw [hsz2]; rfl) hall2 ?_
  have hd8 : Blk (w7.setRow w.heap.size ds) w.heap.size 41 ds := setRow_heap _ _ _ _ _ _ hd7
  have hb8 : Below w.heap.size w (w7.setRow w.heap.size ds) := below_setRow hbw7 (Nat.le_refl _) _
  generalize w7.setRow w.heap.size ds = w8 at hd8 hb8 ⊢
  apply wpList_nil
  go_wp2_with fail
  refine bodyPost_ret (v := .agg ds) ?_ rfl ⟨by rw [hd1e, HDS.out], hb8⟩
  exact results_cell_row (p := 4) (ty := 41) rfl _ w8 w.heap.size 41 ds (0, 0) _ rfl hd8 Tryd.underlying41 rfl (by rw [hsz2]; kernel_rfl)
end Go.Proofs.YtedokiemlkccaaaDoor
