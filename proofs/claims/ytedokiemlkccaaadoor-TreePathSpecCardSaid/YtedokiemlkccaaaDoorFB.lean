/- Salt, Line and Leaf of the reference of tree. -/
import Derived.Test.YtedokiemlkccaaaDoorFA
set_option linter.all false
namespace Go.Proofs.YtedokiemlkccaaaDoor
open Go.RowKit
open Go.RowKit Go.Shelf
attribute [local go_sem] Oper.semAt_some
theorem own_none (W : World) (B : Nat) (hB : B ≤ W.heap.size) : (W.alloc (.cells #[] 5)).ownsRow B 5 1 (.slice (some ⟨W.heap.size, 0, none⟩) 0 0) 0 (u8s []) := World.ownsRow_made W #[] 0 hB (by unfold maxLen; omega) rfl
theorem encL_len (zs : List Int) (h : zs.length ≤ 100) : (encL zs).length ≤ 1111 := by
  have := numer_ten (u := zs.length) (by omega)
  have := flat_len zs
  unfold encL
  rw [List.length_cons, List.length_append]
  omega
set_option maxRecDepth 100000 in
set_option maxHeartbeats 1000000 in
theorem rsalt_any (d : List UInt8) (k a : Int) (w : World) (hd : d.length = 32) (hk : -9223372036854775808 ≤ k ∧ k < 9223372036854775808) (ha : -9223372036854775808 ≤ a ∧ a < 9223372036854775808) :
    Calls Tryd.prog 57 #[.agg (u8s d).toArray, .int .i64 k, .int .i64 a] w fun e w' => e = .returned (.agg (u8s (saltV d k a)).toArray) ∧ Below w.heap.size w w' := by
  obtain ⟨ar, har⟩ : ∃ ar, (u8s d).toArray = ar := ⟨_, rfl⟩
  have HAR := Lib.hid har
  rw [har]
  obtain ⟨es, hes⟩ : ∃ es, (u8s (saltV d k a)).toArray = es := ⟨_, rfl⟩
  have hsz3 : es.size = 32 := by rw [← hes, List.size_toArray, u8s_length]; exact tagB_length _ _
  have hall : es.all (·.oneCell') = true := by rw [← hes]; exact u8s_all _
  rw [hes]
  have HES := Lib.hid hes
  have hel := encL_len [k, a] (by simp)
  have hep := encL_pos [k, a]
  have HZB : Hid (∀ z ∈ [k, a], -9223372036854775808 ≤ z ∧ z < 9223372036854775808) := Lib.hid (by intro z hz; simp at hz; rcases hz with rfl | rfl; exact hk; exact ha)
  have HD := Lib.hid hd
  clear har hes hk ha hd
  go_enter Tryd.func57, Tryd.ntmps57
  go_upto_region 1 with fail
  have hA : Blk ((w.alloc (.cells ar 41)).alloc (.cells z32 41)) w.heap.size 41 (u8s d).toArray := by rw [HAR.out]; exact (Blk.new _ _ _).alloc _
  have hD : Blk ((w.alloc (.cells ar 41)).alloc (.cells z32 41)) (w.heap.size + 1) 41 z32 := by
    have := Blk.new (w.alloc (.cells ar 41)) 41 z32
    rwa [World.size_alloc] at this
  have hb1 : Below w.heap.size w ((w.alloc (.cells ar 41)).alloc (.cells z32 41)) := ((Below.refl _ w).alloc (Nat.le_refl _) _).alloc (by simp) _
  have hs1 : ((w.alloc (.cells ar 41)).alloc (.cells z32 41)).heap.size = w.heap.size + 2 := by simp
  generalize hW0 : (w.alloc (Obj.cells ar 41)).alloc (Obj.cells _ 41) = W1
  have hzz : (w.alloc (.cells ar 41)).alloc (.cells z32 41) = W1 := hW0
  rw [hzz] at hA hD hb1 hs1
  clear hW0 hzz
  obtain ⟨g1, hg1⟩ : ∃ g, w.heap.size = g := ⟨_, rfl⟩
  rw [hg1] at hA hD hs1 ⊢
  have HG1 := Lib.hid hg1
  clear hg1
  have hown0 := own_none W1 (g1 + 2) (by omega)
  have hsA := z32_blk_bytes (hA.alloc (.cells #[] 5)) HD.out
  rw [hs1] at hown0
  have hz2 : g1 + 2 ≤ (W1.alloc (.cells #[] 5)).heap.size := by simp; omega
  go_wp2_with (at_builtin; refine wpList_append_bs rfl (.tmp 8) (.tmp 9) rfl (g1 + 2) 0 32 32 _ _ [] d rfl rfl hown0 hsA (by omega) hz2 ?_)
  intro v2 w2 ho2 hb2
  have kb : Below (g1 + 2) W1 w2 := hb2 W1 ((Below.refl _ W1).alloc (by omega) _)
  have hz3 : g1 + 2 ≤ w2.heap.size := Nat.le_trans (by omega) kb.size
  replace hb1 := hb1.trans (kb.mono (by have := HG1.out; omega))
  replace hD := hD.below kb (by omega)
  clear hown0 hsA hb2 kb hA hz2 hs1
  go_wp2_with fail
  have hz : Blk (w2.alloc (.cells #[.int .i64 k, .int .i64 a] 3)) w2.heap.size 3 (ints [k, a]) := Blk.new _ _ _
  have hb3 := hb1.alloc hb1.size (.cells #[.int .i64 k, .int .i64 a] 3)
  have hD3 := hD.alloc (.cells #[.int .i64 k, .int .i64 a] 3)
  have ho3 := ho2.alloc (.cells #[.int .i64 k, .int .i64 a] 3)
  have CI := Lib.hid (rints_any w2.heap.size 2 [k, a] _ rfl (by omega) (by omega) hz HZB.out)
  clear hz hb1 hD ho2
  refine CI.out.mono ?_
  rintro e w4 ⟨v4, rfl, ho4, k4⟩
  obtain ⟨A4, c4, rfl, hs4⟩ := ownsRow_bs ho4 hep
  have b4 := bl hb3 k4
  have hD4 := hD3.below k4 hD3.lt
  have hown4 := owns_below k4 ho3
  have hz4 : g1 + 2 ≤ w4.heap.size := Nat.le_trans hz3 (Nat.le_trans (by simp) k4.size)
  clear CI ho4 k4 hb3 hD3 ho3
  go_wp2_with (at_builtin; refine wpList_append_bs rfl (.tmp 11) (.tmp 15) rfl (g1 + 2) 32 (encL [k, a]).length c4 _ _ _ (encL [k, a]) rfl rfl hown4 hs4 (by omega) hz4 ?_)
  intro v5 w5 ho5 hb5
  have kb : Below (g1 + 2) w4 w5 := hb5 w4 (Below.refl _ _)
  have b5 := b4.trans (kb.mono (by have := HG1.out; omega))
  have hD5 := hD4.below kb (by omega)
  obtain ⟨A5, c5, rfl, hs5⟩ := ownsRow_bs ho5 (by omega)
  have ct := rtagged_any saltS A5 (32 + (encL [k, a]).length) c5 _ w5 (by decide) hs5 (by omega)
  rw [show tagB saltS (d ++ encL [k, a]) = saltV d k a from rfl, HES.out] at ct
  have CT := Lib.hid ct
  clear ct hs5 ho5 hb5 kb hown4 hs4 hD4 b4
  go_wp2_with fail
  refine CT.out.mono ?_
  rintro e w6 ⟨rfl, k6⟩
  have b6 := bl b5 k6
  have hD6 := hD5.below k6 hD5.lt
  clear CT b5 hD5 k6
  dsimp only
  go_step
  refine wpList_store_row rfl 41 (.tmp 6) (.tmp 17) rfl (g1 + 1) es (by rfl) (by rfl) 41 z32 hD6 (by rw [hsz3]; kernel_rfl) (by rw [hsz3]; rfl) hall ?_
  have hD7 : Blk (w6.setRow (g1 + 1) es) (g1 + 1) 41 es := setRow_heap _ _ _ _ _ _ hD6
  have hB7 : Below w.heap.size w (w6.setRow (g1 + 1) es) := below_setRow b6 (by have := HG1.out; omega) _
  generalize w6.setRow (g1 + 1) es = w7 at hD7 hB7 ⊢
  apply wpList_nil
  go_wp2_with fail
  refine bodyPost_ret (v := .agg es) ?_ rfl ⟨rfl, hB7⟩
  exact results_cell_row (p := 6) (ty := 41) rfl _ w7 (g1 + 1) 41 es (0, 0) _ rfl hD7 Tryd.underlying41 rfl (by rw [hsz3]; kernel_rfl)
open Go.RowKit Go.Shelf
attribute [local go_sem] Oper.semAt_some
set_option maxRecDepth 100000 in
set_option maxHeartbeats 2000000 in
/-- Line of the reference. -/
theorem rline_any (l : Ln) (w : World) : Calls Tryd.prog 97 #[.agg l.arr] w fun e w' => e = .returned (.bool l.ok) ∧ Below w.heap.size w w' := by
  obtain ⟨co, te, gr, cr, ca⟩ := l
  have hB := Blk.new w 65 (Ln.arr ⟨co, te, gr, cr, ca⟩)
  have c0 : (w.alloc (.cells (Ln.arr ⟨co, te, gr, cr, ca⟩) 65)).cell? ⟨w.heap.size, 0, none⟩ = some (.int .i64 co) := hB.cell 0
  have c1 : (w.alloc (.cells (Ln.arr ⟨co, te, gr, cr, ca⟩) 65)).cell? ⟨w.heap.size, 1, none⟩ = some (.int .i64 te) := hB.cell 1
  have c2 : (w.alloc (.cells (Ln.arr ⟨co, te, gr, cr, ca⟩) 65)).cell? ⟨w.heap.size, 2, none⟩ = some (.int .i64 gr) := hB.cell 2
  have c3 : (w.alloc (.cells (Ln.arr ⟨co, te, gr, cr, ca⟩) 65)).cell? ⟨w.heap.size, 3, none⟩ = some (.int .i64 cr) := hB.cell 3
  have c4 : (w.alloc (.cells (Ln.arr ⟨co, te, gr, cr, ca⟩) 65)).cell? ⟨w.heap.size, 4, none⟩ = some (.int .i64 ca) := hB.cell 4
  have b : Below w.heap.size w (w.alloc (.cells (Ln.arr ⟨co, te, gr, cr, ca⟩) 65)) := (Below.refl _ w).alloc (Nat.le_refl _) _
  have hok : (Ln.ok ⟨co, te, gr, cr, ca⟩) = decide (0 ≤ co ∧ co < 4096 ∧ 0 ≤ te ∧ te < 1024 ∧ 0 ≤ gr ∧ gr ≤ 12 ∧ 0 ≤ cr ∧ cr ≤ 60 ∧ 0 ≤ ca ∧ ca < 7) := rfl
  obtain ⟨K, hK⟩ : ∃ K, (Ln.ok ⟨co, te, gr, cr, ca⟩) = K := ⟨_, rfl⟩
  rw [hK] at hok ⊢
  obtain ⟨ar, har⟩ : ∃ ar, (Ln.arr ⟨co, te, gr, cr, ca⟩) = ar := ⟨_, rfl⟩
  rw [har] at c0 c1 c2 c3 c4 b ⊢
  have HOK := Lib.hid hok
  have HB := Lib.hid b
  clear hok hK har hB b
  by_cases d0 : 0 ≤ co
  case neg =>
    have e3 : K = false := by rw [HOK.out]; exact decide_eq_false (fun h => d0 h.1)
    have HK := Lib.hid e3
    clear e3
    go_enter Tryd.func97, Tryd.ntmps97
    go_wp2_with fail
    go_ret
    exact ⟨by rw [HK.out]; rfl, HB.out⟩
  by_cases d1 : co < 4096
  case neg =>
    have e3 : K = false := by rw [HOK.out]; exact decide_eq_false (fun h => d1 h.2.1)
    have HK := Lib.hid e3
    clear e3
    go_enter Tryd.func97, Tryd.ntmps97
    go_wp2_with fail
    go_ret
    exact ⟨by rw [HK.out]; rfl, HB.out⟩
  by_cases d2 : 0 ≤ te
  case neg =>
    have e3 : K = false := by rw [HOK.out]; exact decide_eq_false (fun h => d2 h.2.2.1)
    have HK := Lib.hid e3
    clear e3
    go_enter Tryd.func97, Tryd.ntmps97
    go_wp2_with fail
    go_ret
    exact ⟨by rw [HK.out]; rfl, HB.out⟩
  by_cases d3 : te < 1024
  case neg =>
    have e3 : K = false := by rw [HOK.out]; exact decide_eq_false (fun h => d3 h.2.2.2.1)
    have HK := Lib.hid e3
    clear e3
    go_enter Tryd.func97, Tryd.ntmps97
    go_wp2_with fail
    go_ret
    exact ⟨by rw [HK.out]; rfl, HB.out⟩
  by_cases d4 : 0 ≤ gr
  case neg =>
    have e3 : K = false := by rw [HOK.out]; exact decide_eq_false (fun h => d4 h.2.2.2.2.1)
    have HK := Lib.hid e3
    clear e3
    go_enter Tryd.func97, Tryd.ntmps97
    go_wp2_with fail
    go_ret
    exact ⟨by rw [HK.out]; rfl, HB.out⟩
  by_cases d5 : gr ≤ 12
  case neg =>
    have e3 : K = false := by rw [HOK.out]; exact decide_eq_false (fun h => d5 h.2.2.2.2.2.1)
    have HK := Lib.hid e3
    clear e3
    go_enter Tryd.func97, Tryd.ntmps97
    go_wp2_with fail
    go_ret
    exact ⟨by rw [HK.out]; rfl, HB.out⟩
  by_cases d6 : 0 ≤ cr
  case neg =>
    have e3 : K = false := by rw [HOK.out]; exact decide_eq_false (fun h => d6 h.2.2.2.2.2.2.1)
    have HK := Lib.hid e3
    clear e3
    go_enter Tryd.func97, Tryd.ntmps97
    go_wp2_with fail
    go_ret
    exact ⟨by rw [HK.out]; rfl, HB.out⟩
  by_cases d7 : cr ≤ 60
  case neg =>
    have e3 : K = false := by rw [HOK.out]; exact decide_eq_false (fun h => d7 h.2.2.2.2.2.2.2.1)
    have HK := Lib.hid e3
    clear e3
    go_enter Tryd.func97, Tryd.ntmps97
    go_wp2_with fail
    go_ret
    exact ⟨by rw [HK.out]; rfl, HB.out⟩
  by_cases d8 : 0 ≤ ca
  case neg =>
    have e3 : K = false := by rw [HOK.out]; exact decide_eq_false (fun h => d8 h.2.2.2.2.2.2.2.2.1)
    have HK := Lib.hid e3
    clear e3
    go_enter Tryd.func97, Tryd.ntmps97
    go_wp2_with fail
    go_ret
    exact ⟨by rw [HK.out]; rfl, HB.out⟩
  by_cases d9 : ca < 7
  case neg =>
    have e3 : K = false := by rw [HOK.out]; exact decide_eq_false (fun h => d9 h.2.2.2.2.2.2.2.2.2)
    have HK := Lib.hid e3
    clear e3
    go_enter Tryd.func97, Tryd.ntmps97
    go_wp2_with fail
    go_ret
    exact ⟨by rw [HK.out]; rfl, HB.out⟩
  have e3 : K = true := by rw [HOK.out]; exact decide_eq_true ⟨d0, d1, d2, d3, d4, d5, d6, d7, d8, d9⟩
  have HK := Lib.hid e3
  clear e3
  go_enter Tryd.func97, Tryd.ntmps97
  go_wp2_with fail
  go_ret
  exact ⟨by rw [HK.out]; rfl, HB.out⟩
open Go.RowKit Go.Shelf
attribute [local go_sem] Oper.semAt_some
/-- a node written out, as a word of its own. -/
def bd46 (l : Array (Nat × Value)) : Sem Value := Instr.build 46 l
theorem bd46_in (l : Array (Nat × Value)) : Instr.build 46 l = bd46 l := rfl
theorem bd46_nil (W : World) : (bd46 #[]).run Tryd.prog W = .ok (.agg nd0.arr) W := by
  obtain ⟨i46, h46, z46, s46, _⟩ := info_parts info46
  obtain ⟨i41, h41, z41, s41, _⟩ := info_parts info41
  obtain ⟨i3, h3, z3, s3, _⟩ := info_parts info3
  unfold bd46
  simp [Instr.build, zeroValue, run_underlying Tryd.underlying46, sizeOf, typeInfo, h46, h41, h3, z46, s41, s3]
  rfl
theorem bd46_node (d : List UInt8) (hd : d.length = 32) (c p : Int) (w : World) : (bd46 #[(0, .agg (u8s d).toArray), (1, .int .i64 c), (2, .int .i64 p)]).run Tryd.prog w = .ok (.agg (Nd.arr ⟨d, c, p⟩)) w := build46 d hd c p w
attribute [local go_sem ↓] ld46_in st46_in bs46_in bd46_in
attribute [local go_sem] st_new st_any sl_one sl_two sl_three
/-- what the last statement of Leaf reads. -/
abbrev LF (w : World) (g2 g4 : Nat) (l : Ln) (W : World) : Prop :=
  W.cell? ⟨g2, 3, none⟩ = some (.int .i64 l.cr) ∧ W.cell? ⟨g2, 2, none⟩ = some (.int .i64 l.gr) ∧ At46 W g4 ∧ Blk W g2 65 l.arr ∧ Below w.heap.size w W
theorem lf_of' {w W : World} {g2 g4 : Nat} {l : Ln} (h : Blk W g2 65 l.arr) (a : At46 W g4) (b : Below w.heap.size w W) : LF w g2 g4 l W := ⟨h.cell 3, h.cell 2, a, h, b⟩
theorem lf_next {w W W' : World} {g2 g4 : Nat} {l : Ln} (h : LF w g2 g4 l W) (k : Below W.heap.size W W') : LF w g2 g4 l W' := lf_of' (h.2.2.2.1.below k h.2.2.2.1.lt) (at46_keep h.2.2.1 k) (bl h.2.2.2.2 k)
theorem at46_row {W : World} {b : Nat} {X : Array Value} (h : At46 W b) (hX : X.size = 34) : At46 (W.setRow b X) b := ⟨X, at46_set h X, hX⟩
theorem lf_row {w W : World} {g2 g4 : Nat} {l : Ln} (h : LF w g2 g4 l W) (hne : g2 ≠ g4) (hb : w.heap.size ≤ g4) {X : Array Value} (hX : X.size = 34) : LF w g2 g4 l (W.setRow g4 X) :=
  lf_of' ((setRow_other _ _ _ _ hne).trans h.2.2.2.1) (at46_row h.2.2.1 hX) (below_setRow h.2.2.2.2 hb _)
theorem lf_b {w W : World} {g2 g4 : Nat} {l : Ln} (h : LF w g2 g4 l W) : Below w.heap.size w W := h.2.2.2.2
set_option maxRecDepth 100000 in
set_option maxHeartbeats 1000000 in
theorem rleaf_no (l : Ln) (d : List UInt8) (w : World) (h : l.ok = false) : Calls Tryd.prog 55 #[.agg l.arr, .agg (u8s d).toArray] w fun e w' => e = .returned (.tuple #[.agg nd0.arr, .int .i64 410]) ∧ Below w.heap.size w w' := by
  have CL := Lib.hid fun W => rline_any l W
  rw [h] at CL
  obtain ⟨ar, har⟩ : ∃ ar, (u8s d).toArray = ar := ⟨_, rfl⟩
  rw [har]
  have o0 := okX nd0 rfl
  have hbn := bd46_nil
  obtain ⟨na, hna⟩ : ∃ na, nd0.arr = na := ⟨_, rfl⟩
  rw [hna] at o0 ⊢
  simp only [hna] at hbn
  have hs : na.size = 34 := o0.1
  have HNA := Lib.hid hna
  have hX := Blk.new w 65 l.arr
  have hb := (((Below.refl _ w).alloc (Nat.le_refl _) (.cells l.arr 65)).alloc (by simp) (.cells ar 41)).alloc (by simp; omega) (.cells na 46)
  have hN : Blk (((w.alloc (.cells l.arr 65)).alloc (.cells ar 41)).alloc (.cells na 46)) (w.heap.size + 2) 46 na := by
    have := Blk.new ((w.alloc (.cells l.arr 65)).alloc (.cells ar 41)) 46 na
    rwa [World.size_alloc, World.size_alloc] at this
  have hX2 := (hX.alloc (.cells ar 41)).alloc (.cells na 46)
  clear h har hna hX
  go_enter Tryd.func55, Tryd.ntmps55
  go_upto_region 1 with fail
  generalize hW0 : ((w.alloc (Obj.cells l.arr 65)).alloc (Obj.cells ar 41)).alloc (Obj.cells _ 46) = W1
  have hzz : ((w.alloc (.cells l.arr 65)).alloc (.cells ar 41)).alloc (.cells na 46) = W1 := by rw [← HNA.out]; exact hW0
  rw [hzz] at hb hN hX2
  clear hW0 hzz
  obtain ⟨g1, hg1⟩ : ∃ g, w.heap.size = g := ⟨_, rfl⟩
  rw [hg1] at hX2 hN ⊢
  have x0 : W1.cell? ⟨g1, 0, none⟩ = some (.int .i64 l.co) := hX2.cell 0
  have x1 : W1.cell? ⟨g1, 1, none⟩ = some (.int .i64 l.te) := hX2.cell 1
  have x2 : W1.cell? ⟨g1, 2, none⟩ = some (.int .i64 l.gr) := hX2.cell 2
  have x3 : W1.cell? ⟨g1, 3, none⟩ = some (.int .i64 l.cr) := hX2.cell 3
  have x4 : W1.cell? ⟨g1, 4, none⟩ = some (.int .i64 l.ca) := hX2.cell 4
  have HG1 := Lib.hid hg1
  clear hg1
  go_wp2_with fail
  refine (CL.out _).mono ?_
  rintro e w2 ⟨rfl, k⟩
  replace hN := hN.below k hN.lt
  have b2 := bl hb k
  have hat : At46 w2 (g1 + 2) := ⟨na, hN, hs⟩
  clear x0 x1 x2 x3 x4 k
  go_wp2_with fail
  have hR : Blk (w2.setRow (g1 + 2) na) (g1 + 2) 46 na := at46_set hat na
  have bR : Below w.heap.size w (w2.setRow (g1 + 2) na) := below_setRow b2 (by have := HG1.out; omega) _
  refine bodyPost_ret (v := .tuple #[.agg na, .int .i64 410]) ?_ rfl ⟨rfl, bR⟩
  exact results_node rfl hR hs rfl rfl
set_option maxRecDepth 100000 in
set_option maxHeartbeats 2000000 in
theorem rleaf_yes (l : Ln) (d : List UInt8) (w : World) (h : l.ok = true) (hd : d.length = 32) : Calls Tryd.prog 55 #[.agg l.arr, .agg (u8s d).toArray] w fun e w' => e = .returned (.tuple #[.agg (leafV l d).arr, .int .i64 0]) ∧ Below w.heap.size w w' := by
  have CL := Lib.hid fun W => rline_any l W
  rw [h] at CL
  have lp := Ln.ok_parts h
  have q := mul_bd lp.2.2.2.2.1 lp.2.2.2.2.2.1 lp.2.2.2.2.2.2.1
  have hwm : IntKind.i64.wrap (l.gr * l.cr) = l.gr * l.cr := IntWalk.i64_in _ (by omega)
  have HZB : Hid (∀ z ∈ [l.co, l.te, l.gr, l.cr, l.ca], -9223372036854775808 ≤ z ∧ z < 9223372036854775808) := Lib.hid (by intro z hz; simp at hz; rcases hz with rfl | rfl | rfl | rfl | rfl <;> omega)
  have hel := encL_len [l.co, l.te, l.gr, l.cr, l.ca] (by simp)
  have hep := encL_pos [l.co, l.te, l.gr, l.cr, l.ca]
  have htl : (tagB lineS (d ++ encL [l.co, l.te, l.gr, l.cr, l.ca])).length = 32 := tagB_length _ _
  have hbd := fun W => bd46_node (tagB lineS (d ++ encL [l.co, l.te, l.gr, l.cr, l.ca])) htl l.cr (l.gr * l.cr) W
  have oX := okX (leafV l d) (leafV_len l d)
  rw [show (⟨tagB lineS (d ++ encL [l.co, l.te, l.gr, l.cr, l.ca]), l.cr, l.gr * l.cr⟩ : Nd) = leafV l d from rfl] at hbd
  obtain ⟨X, hXe⟩ : ∃ X, (leafV l d).arr = X := ⟨_, rfl⟩
  rw [hXe] at oX ⊢
  simp only [hXe] at hbd
  have hct := fun (W : World) (A : Option Addr) (n c : Nat) (hs : BS W A n c (d ++ encL [l.co, l.te, l.gr, l.cr, l.ca])) (hn : n ≤ 100000) => rtagged_any lineS A n c _ W (by decide) hs hn
  obtain ⟨es, hes⟩ : ∃ es, (u8s (tagB lineS (d ++ encL [l.co, l.te, l.gr, l.cr, l.ca]))).toArray = es := ⟨_, rfl⟩
  simp only [hes] at hbd hct
  have HCT := Lib.hid hct
  obtain ⟨ar, har⟩ : ∃ ar, (u8s d).toArray = ar := ⟨_, rfl⟩
  have HAR := Lib.hid har
  rw [har]
  have hs : nd0.arr.size = 34 := rfl
  have hX := Blk.new w 65 l.arr
  have hA : Blk (((w.alloc (.cells l.arr 65)).alloc (.cells ar 41)).alloc (.cells nd0.arr 46)) (w.heap.size + 1) 41 (u8s d).toArray := by
    have := Blk.new (w.alloc (.cells l.arr 65)) 41 ar
    rw [World.size_alloc, ← har] at this
    rw [← har]
    exact this.alloc _
  have hb := (((Below.refl _ w).alloc (Nat.le_refl _) (.cells l.arr 65)).alloc (by simp) (.cells ar 41)).alloc (by simp; omega) (.cells nd0.arr 46)
  have hN : Blk (((w.alloc (.cells l.arr 65)).alloc (.cells ar 41)).alloc (.cells nd0.arr 46)) (w.heap.size + 2) 46 nd0.arr := by
    have := Blk.new ((w.alloc (.cells l.arr 65)).alloc (.cells ar 41)) 46 nd0.arr
    rwa [World.size_alloc, World.size_alloc] at this
  have hX2 := (hX.alloc (.cells ar 41)).alloc (.cells nd0.arr 46)
  have hsz : (((w.alloc (.cells l.arr 65)).alloc (.cells ar 41)).alloc (.cells nd0.arr 46)).heap.size = w.heap.size + 3 := by simp
  have HD := Lib.hid hd
  clear h har hX lp q hes htl hct hXe hd
  go_enter Tryd.func55, Tryd.ntmps55
  go_upto_region 1 with fail
  generalize hW0 : ((w.alloc (Obj.cells l.arr 65)).alloc (Obj.cells ar 41)).alloc (Obj.cells _ 46) = W1
  have hzz : ((w.alloc (.cells l.arr 65)).alloc (.cells ar 41)).alloc (.cells nd0.arr 46) = W1 := hW0
  rw [hzz] at hb hN hX2 hA hsz
  clear hW0 hzz
  obtain ⟨g1, hg1⟩ : ∃ g, w.heap.size = g := ⟨_, rfl⟩
  rw [hg1] at hX2 hN hA hsz ⊢
  have x0 : W1.cell? ⟨g1, 0, none⟩ = some (.int .i64 l.co) := hX2.cell 0
  have x1 : W1.cell? ⟨g1, 1, none⟩ = some (.int .i64 l.te) := hX2.cell 1
  have x2 : W1.cell? ⟨g1, 2, none⟩ = some (.int .i64 l.gr) := hX2.cell 2
  have x3 : W1.cell? ⟨g1, 3, none⟩ = some (.int .i64 l.cr) := hX2.cell 3
  have x4 : W1.cell? ⟨g1, 4, none⟩ = some (.int .i64 l.ca) := hX2.cell 4
  have HG1 := Lib.hid hg1
  clear hg1
  go_wp2_with fail
  refine (CL.out _).mono ?_
  rintro e w2 ⟨rfl, k⟩
  replace hX2 := hX2.below k hX2.lt
  replace hA := hA.below k hA.lt
  replace hN := hN.below k hN.lt
  have b2 := bl hb k
  have hz2 : g1 + 3 ≤ w2.heap.size := by have := k.size; omega
  clear x0 x1 x2 x3 x4 k hb hsz CL
  have hown0 := own_none w2 (g1 + 3) hz2
  have hsA := z32_blk_bytes (hA.alloc (.cells #[] 5)) HD.out
  have hz3 : g1 + 3 ≤ (w2.alloc (.cells #[] 5)).heap.size := by simp; omega
  go_wp2_with (at_builtin; refine wpList_append_bs rfl (.tmp 11) (.tmp 12) rfl (g1 + 3) 0 32 32 _ _ [] d rfl rfl hown0 hsA (by omega) hz3 ?_)
  intro v3 w3 ho3 hb3
  have kb : Below (g1 + 3) w2 w3 := hb3 w2 ((Below.refl _ w2).alloc hz2 _)
  replace hz3 : g1 + 3 ≤ w3.heap.size := Nat.le_trans hz2 kb.size
  have b3 := b2.trans (kb.mono (by have := HG1.out; omega))
  replace hX2 := hX2.below kb (by omega)
  replace hN := hN.below kb (by omega)
  clear hown0 hsA hb3 kb hA hz2 b2
  have x0 : w3.cell? ⟨g1, 0, none⟩ = some (.int .i64 l.co) := hX2.cell 0
  have x1 : w3.cell? ⟨g1, 1, none⟩ = some (.int .i64 l.te) := hX2.cell 1
  have x2 : w3.cell? ⟨g1, 2, none⟩ = some (.int .i64 l.gr) := hX2.cell 2
  have x3 : w3.cell? ⟨g1, 3, none⟩ = some (.int .i64 l.cr) := hX2.cell 3
  have x4 : w3.cell? ⟨g1, 4, none⟩ = some (.int .i64 l.ca) := hX2.cell 4
  go_wp2_with fail
  have hz : Blk (w3.alloc (.cells #[.int .i64 l.co, .int .i64 l.te, .int .i64 l.gr, .int .i64 l.cr, .int .i64 l.ca] 3)) w3.heap.size 3 (ints [l.co, l.te, l.gr, l.cr, l.ca]) := Blk.new _ _ _
  have CI := Lib.hid (rints_any w3.heap.size 5 [l.co, l.te, l.gr, l.cr, l.ca] _ rfl (by omega) (by omega) hz HZB.out)
  have b4 := b3.alloc b3.size (.cells #[.int .i64 l.co, .int .i64 l.te, .int .i64 l.gr, .int .i64 l.cr, .int .i64 l.ca] 3)
  replace hX2 := hX2.alloc (.cells #[.int .i64 l.co, .int .i64 l.te, .int .i64 l.gr, .int .i64 l.cr, .int .i64 l.ca] 3)
  replace hN := hN.alloc (.cells #[.int .i64 l.co, .int .i64 l.te, .int .i64 l.gr, .int .i64 l.cr, .int .i64 l.ca] 3)
  have ho4 := ho3.alloc (.cells #[.int .i64 l.co, .int .i64 l.te, .int .i64 l.gr, .int .i64 l.cr, .int .i64 l.ca] 3)
  clear hz b3 ho3 x0 x1 x2 x3 x4
  refine CI.out.mono ?_
  rintro e w5 ⟨v5, rfl, ho5, k5⟩
  obtain ⟨A5, c5, rfl, hs5⟩ := ownsRow_bs ho5 hep
  have b5 := bl b4 k5
  replace hX2 := hX2.below k5 hX2.lt
  replace hN := hN.below k5 hN.lt
  have hown5 := owns_below k5 ho4
  have hz5 : g1 + 3 ≤ w5.heap.size := Nat.le_trans hz3 (Nat.le_trans (by simp) k5.size)
  clear CI ho5 k5 b4 ho4 hz3
  go_wp2_with (at_builtin; refine wpList_append_bs rfl (.tmp 14) (.tmp 26) rfl (g1 + 3) 32 (encL [l.co, l.te, l.gr, l.cr, l.ca]).length c5 _ _ _ (encL [l.co, l.te, l.gr, l.cr, l.ca]) rfl rfl hown5 hs5 (by omega) hz5 ?_)
  intro v6 w6 ho6 hb6
  have kb : Below (g1 + 3) w5 w6 := hb6 w5 (Below.refl _ _)
  have b6 := b5.trans (kb.mono (by have := HG1.out; omega))
  replace hX2 := hX2.below kb (by omega)
  replace hN := hN.below kb (by omega)
  obtain ⟨A6, c6, rfl, hs6⟩ := ownsRow_bs ho6 (by omega)
  have CT := Lib.hid (HCT.out w6.drew A6 _ c6 (show BS w6.drew A6 _ c6 _ from hs6.below (Below.refl _ w6).drew) (by omega))
  clear ho6 hb6 kb hown5 hs5 hs6 b5 hz5
  go_upto_region 5 with fail
  have s0 : LF w g1 (g1 + 2) l w6.drew := lf_of' (W := w6.drew) hX2 ⟨nd0.arr, hN, hs⟩ b6.drew
  have hgb : w.heap.size ≤ g1 + 2 := by have := HG1.out; omega
  have hne : g1 ≠ g1 + 2 := by omega
  clear hX2 hN b6
  go_region_held3 (fun W => W.cell? ⟨g1, 3, none⟩ = some (.int .i64 l.cr) ∧ W.cell? ⟨g1, 2, none⟩ = some (.int .i64 l.gr) ∧ At46 W (g1 + 2) ∧ Blk W g1 65 l.arr ∧ Below w.heap.size w W)
    (first | exact s0 | exact s7 | exact lf_row s7 hne hgb oX.1)
    (first | (go_at_call 77; refine CT.out.mono ?_; rintro e w7 ⟨rfl, k7⟩; have s7 := lf_next s0 k7))
  have hR := at46_set s7.2.2.1 X
  have bR := lf_b (lf_row s7 hne hgb oX.1)
  clear s0
  generalize w7.setRow (g1 + 2) X = W9 at hR bR ⊢
  go_wp2_with fail
  refine bodyPost_ret (v := .tuple #[.agg X, .int .i64 0]) ?_ rfl ⟨rfl, bR⟩
  exact results_node rfl hR oX.1 rfl rfl
end Go.Proofs.YtedokiemlkccaaaDoor
