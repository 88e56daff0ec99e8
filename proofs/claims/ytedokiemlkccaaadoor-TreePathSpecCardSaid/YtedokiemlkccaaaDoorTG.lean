/- The examples of chapter 41. -/
import Derived.Test.YtedokiemlkccaaaDoorTF
set_option linter.all false
namespace Go.Proofs.YtedokiemlkccaaaDoor
open Go.RowKit
open Go.RowKit Go.Shelf
attribute [local go_sem] Oper.semAt_some
attribute [local go_sem ↓] ld46_in st46_in bs46_in
attribute [local go_sem] st_new sl_one sl_two sl_three
theorem Bk.nil (W : World) : Bk W [] := fun _ h => by cases h
theorem NS.drew {W : World} {A : Option Addr} {n c : Nat} {L : List Nd} (h : NS W A n c L) : NS W.drew A n c L := h.below (Below.refl _ W).drew
theorem exA_get : exA.arr[33]? = some (.int .i64 24) ∧ exA.arr[32]? = some (.int .i64 4) := ⟨exA.get33 dA, exA.get32 dA⟩
theorem exR_get : exR.arr[33]? = some (.int .i64 768) ∧ exR.arr[32]? = some (.int .i64 68) := ⟨exR.get33 dR, exR.get32 dR⟩
theorem exN_get : exN.arr[33]? = some (.int .i64 0) ∧ exN.arr[32]? = some (.int .i64 0) := ⟨exN.get33 dN, exN.get32 dN⟩
theorem exN_range {W : World} {g : Nat} (h : Blk W g 46 exN.arr) : W.rangeAt g 0 (u8s (tagB sumS [])) := fun j v hv => by
  rw [Nat.zero_add, h.cell j]
  have e : exN.arr[j]? = (u8s (tagB sumS []) ++ [Value.int .i64 0, .int .i64 0])[j]? := List.getElem?_toArray
  rw [e, List.getElem?_append_left (by rcases Nat.lt_or_ge j (u8s (tagB sumS [])).length with h | h; exact h; rw [List.getElem?_eq_none h] at hv; cases hv)]
  exact hv
/-- what the examples' last statement reads. -/
abbrev SS (w : World) (gA gR gJ gN gM gU : Nat) (A : Option Addr) (n c : Nat) (W : World) : Prop :=
  W.cell? ⟨gA, 33, none⟩ = some (.int .i64 24) ∧ W.cell? ⟨gA, 32, none⟩ = some (.int .i64 4) ∧ W.cell? ⟨gR, 33, none⟩ = some (.int .i64 768) ∧ W.cell? ⟨gR, 32, none⟩ = some (.int .i64 68) ∧ W.cell? ⟨gN, 33, none⟩ = some (.int .i64 0) ∧ W.cell? ⟨gN, 32, none⟩ = some (.int .i64 0) ∧
  (ld46 ⟨gR, 0, none⟩).run Tryd.prog W = .ok (.agg exR.arr) W ∧ (ld46 ⟨gJ, 0, none⟩).run Tryd.prog W = .ok (.agg exR.arr) W ∧ (ld46 ⟨gM, 0, none⟩).run Tryd.prog W = .ok (.agg exM.arr) W ∧ (ld46 ⟨gU, 0, none⟩).run Tryd.prog W = .ok (.agg exR.arr) W ∧
  W.rangeAt gN 0 (u8s (tagB sumS [])) ∧ Bk W [(gA, exA.arr), (gR, exR.arr), (gJ, exR.arr), (gN, exN.arr), (gM, exM.arr), (gU, exR.arr)] ∧ NS W A n c [exM] ∧ Below w.heap.size w W
theorem ss_of {w W : World} {gA gR gJ gN gM gU : Nat} {A : Option Addr} {n c : Nat} (hk : Bk W [(gA, exA.arr), (gR, exR.arr), (gJ, exR.arr), (gN, exN.arr), (gM, exM.arr), (gU, exR.arr)]) (hP : NS W A n c [exM]) (b : Below w.heap.size w W) : SS w gA gR gJ gN gM gU A n c W := by
  have kA := hk (gA, exA.arr) (by simp)
  have kR := hk (gR, exR.arr) (by simp)
  have kJ := hk (gJ, exR.arr) (by simp)
  have kN := hk (gN, exN.arr) (by simp)
  have kM := hk (gM, exM.arr) (by simp)
  have kU := hk (gU, exR.arr) (by simp)
  exact ⟨(kA.cell 33).trans exA_get.1, (kA.cell 32).trans exA_get.2, (kR.cell 33).trans exR_get.1, (kR.cell 32).trans exR_get.2, (kN.cell 33).trans exN_get.1, (kN.cell 32).trans exN_get.2,
    ld_blk kR (okX exR dR), ld_blk kJ (okX exR dR), ld_blk kM (okX exM dM), ld_blk kU (okX exR dR), exN_range kN, hk, hP, b⟩
theorem ss_next {w W W' : World} {gA gR gJ gN gM gU : Nat} {A : Option Addr} {n c : Nat} (h : SS w gA gR gJ gN gM gU A n c W) (k : Below W.heap.size W W') : SS w gA gR gJ gN gM gU A n c W' :=
  ss_of (h.2.2.2.2.2.2.2.2.2.2.2.1.below k) (h.2.2.2.2.2.2.2.2.2.2.2.2.1.below k) (bl h.2.2.2.2.2.2.2.2.2.2.2.2.2 k)
theorem ss_alloc {w W : World} {gA gR gJ gN gM gU : Nat} {A : Option Addr} {n c : Nat} (h : SS w gA gR gJ gN gM gU A n c W) (o : Obj) : SS w gA gR gJ gN gM gU A n c (W.alloc o) := ss_next h (Below.alloc (Below.refl _ W) (Nat.le_refl _) o)
theorem ss_b {w W : World} {gA gR gJ gN gM gU : Nat} {A : Option Addr} {n c : Nat} (h : SS w gA gR gJ gN gM gU A n c W) : Below w.heap.size w W := h.2.2.2.2.2.2.2.2.2.2.2.2.2
theorem ss_p {w W : World} {gA gR gJ gN gM gU : Nat} {A : Option Addr} {n c : Nat} (h : SS w gA gR gJ gN gM gU A n c W) : NS W A n c [exM] := h.2.2.2.2.2.2.2.2.2.2.2.2.1
theorem hi41 : (Tryd.prog.info? 41).map (·.size) = some (u8s (tagB sumS [])).length := by
  obtain ⟨i41, h41, z41, s41, _⟩ := info_parts info41
  rw [h41, u8s_length, tagB_length]; simp [s41]
set_option maxRecDepth 100000 in
set_option maxHeartbeats 2000000 in
theorem sane41_any (w : World) (hT : Tabs w) : Calls Tryd.prog 41 #[] w fun e w' => e = .returned (.bool true) ∧ Below w.heap.size w w' := by
  have HT := Lib.hid hT
  clear hT
  have oA := okX exA dA
  have oB := okX exB dB
  have oC := okX exC dC
  have oM := okX exM dM
  have oR := okX exR dR
  have oN := okX exN dN
  have o0 := okX nd0 rfl
  go_enter Tryd.func41, Tryd.ntmps41
  go_wp2_with fail
  have hL : Blk (w.alloc (.cells #[.int .i64 3, .int .i64 5, .int .i64 6, .int .i64 4, .int .i64 0] 65)) w.heap.size 65 #[.int .i64 3, .int .i64 5, .int .i64 6, .int .i64 4, .int .i64 0] := Blk.new _ _ _
  have b : Below w.heap.size w (w.alloc (.cells #[.int .i64 3, .int .i64 5, .int .i64 6, .int .i64 4, .int .i64 0] 65)) := (Below.refl _ w).alloc (Nat.le_refl _) _
  obtain ⟨gL, hgL⟩ : ∃ g, w.heap.size = g := ⟨_, rfl⟩
  have hk := Bk.nil (w.alloc (.cells #[.int .i64 3, .int .i64 5, .int .i64 6, .int .i64 4, .int .i64 0] 65))

  refine (exA_call _ ((HT.out).ext b)).mono ?_
  rintro e w1 ⟨rfl, k⟩
  replace hk := hk.below k
  replace hL := hL.below k hL.lt
  replace b := bl b k
  clear k
  go_upto_region 3 with fail
  replace hk := hk.new exA.arr
  replace hL := hL.alloc (.cells exA.arr 46)
  replace b := b.alloc b.size (.cells exA.arr 46)
  obtain ⟨gA, hgA⟩ : ∃ g, w1.heap.size = g := ⟨_, rfl⟩
  rw [hgA] at hk ⊢
  generalize w1.alloc (.cells exA.arr 46) = v1 at *
  clear hgA
  rw [hgL] at hL
  clear hgL
  have q0 := hL.cell 0; have q1 := hL.cell 1; have q2 := hL.cell 2; have q3 := hL.cell 3; have q4 := hL.cell 4
  go_wp2_with fail
  refine (exB_call _ ((HT.out).ext b)).mono ?_
  rintro e w2 ⟨rfl, k⟩
  replace hk := hk.below k
  replace b := bl b k
  clear k
  go_upto_region 4 with fail
  replace hk := hk.new exB.arr
  replace b := b.alloc b.size (.cells exB.arr 46)
  obtain ⟨gB, hgB⟩ : ∃ g, w2.heap.size = g := ⟨_, rfl⟩
  rw [hgB] at hk ⊢
  generalize w2.alloc (.cells exB.arr 46) = v2 at *
  clear hgB
  go_wp2_with fail
  refine (exC_call _ ((HT.out).ext b)).mono ?_
  rintro e w3 ⟨rfl, k⟩
  replace hk := hk.below k
  replace b := bl b k
  clear k
  go_upto_region 5 with fail
  replace hk := hk.new exC.arr
  replace b := b.alloc b.size (.cells exC.arr 46)
  obtain ⟨gC, hgC⟩ : ∃ g, w3.heap.size = g := ⟨_, rfl⟩
  rw [hgC] at hk ⊢
  generalize w3.alloc (.cells exC.arr 46) = v3 at *
  clear hgC
  go_wp2_with fail
  refine (exD_call _ _).mono ?_
  rintro e w4 ⟨rfl, k⟩
  replace hk := hk.below k
  replace b := bl b k
  clear k
  go_upto_region 6 with fail
  replace hk := hk.new nd0.arr
  replace b := b.alloc b.size (.cells nd0.arr 46)
  obtain ⟨gD, hgD⟩ : ∃ g, w4.heap.size = g := ⟨_, rfl⟩
  rw [hgD] at hk ⊢
  generalize w4.alloc (.cells nd0.arr 46) = v4 at *
  clear hgD
  have l0 := ld_blk (hk (gA, exA.arr) (by simp)) oA
  have l1 := ld_blk (hk (gB, exB.arr) (by simp)) oB
  go_wp2_with fail
  refine (exM_call _ ((HT.out).ext b)).mono ?_
  rintro e w5 ⟨rfl, k⟩
  replace hk := hk.below k
  replace b := bl b k
  clear l0 l1
  clear k
  go_upto_region 7 with fail
  replace hk := hk.new exM.arr
  replace b := b.alloc b.size (.cells exM.arr 46)
  obtain ⟨gM, hgM⟩ : ∃ g, w5.heap.size = g := ⟨_, rfl⟩
  rw [hgM] at hk ⊢
  generalize w5.alloc (.cells exM.arr 46) = v5 at *
  clear hgM
  have l0 := ld_blk (hk (gM, exM.arr) (by simp)) oM
  have l1 := ld_blk (hk (gC, exC.arr) (by simp)) oC
  go_wp2_with fail
  refine (exR_call _ ((HT.out).ext b)).mono ?_
  rintro e w6 ⟨rfl, k⟩
  replace hk := hk.below k
  replace b := bl b k
  clear l0 l1
  clear k
  go_upto_region 8 with fail
  replace hk := hk.new exR.arr
  replace b := b.alloc b.size (.cells exR.arr 46)
  obtain ⟨gJ, hgJ⟩ : ∃ g, w6.heap.size = g := ⟨_, rfl⟩
  rw [hgJ] at hk ⊢
  generalize w6.alloc (.cells exR.arr 46) = v6 at *
  clear hgJ
  have l0 := ld_blk (hk (gA, exA.arr) (by simp)) oA
  have l1 := ld_blk (hk (gB, exB.arr) (by simp)) oB
  have l2 := ld_blk (hk (gC, exC.arr) (by simp)) oC
  go_wp2_with fail
  have hs := Blk.new v6 46 (exA.arr ++ exB.arr ++ exC.arr)
  replace hk := hk.alloc (.cells (exA.arr ++ exB.arr ++ exC.arr) 46)
  replace b := b.alloc b.size (.cells (exA.arr ++ exB.arr ++ exC.arr) 46)
  refine (exS_call _ ((HT.out).ext b) _ hs).mono ?_
  rintro e w7 ⟨rfl, k⟩
  replace hk := hk.below k
  replace b := bl b k
  clear hs
  clear l0 l1 l2
  clear k
  go_upto_region 9 with fail
  replace hk := hk.new exR.arr
  replace b := b.alloc b.size (.cells exR.arr 46)
  obtain ⟨gR, hgR⟩ : ∃ g, w7.heap.size = g := ⟨_, rfl⟩
  rw [hgR] at hk ⊢
  generalize w7.alloc (.cells exR.arr 46) = v7 at *
  clear hgR
  go_wp2_with fail
  refine (exE_call _ ((HT.out).ext b)).mono ?_
  rintro e w8 ⟨rfl, k⟩
  replace hk := hk.below k
  replace b := bl b k
  clear k
  go_upto_region 10 with fail
  replace hk := hk.new exN.arr
  replace b := b.alloc b.size (.cells exN.arr 46)
  obtain ⟨gN, hgN⟩ : ∃ g, w8.heap.size = g := ⟨_, rfl⟩
  rw [hgN] at hk ⊢
  generalize w8.alloc (.cells exN.arr 46) = v8 at *
  clear hgN
  go_wp2_with fail
  refine (exF_call _ ((HT.out).ext b)).mono ?_
  rintro e w9 ⟨A9, n9, c9, rfl, hF, k⟩
  replace hk := hk.below k
  replace b := bl b k
  clear hF
  clear k
  go_upto_region 11 with fail
  have l0 := ld_blk (hk (gA, exA.arr) (by simp)) oA
  go_wp2_with fail
  refine (exG_call _ ((HT.out).ext b)).mono ?_
  rintro e w10 ⟨rfl, k⟩
  replace hk := hk.below k
  replace b := bl b k
  clear l0
  clear k
  go_upto_region 12 with fail
  replace hk := hk.new nd0.arr
  replace b := b.alloc b.size (.cells nd0.arr 46)
  obtain ⟨gG, hgG⟩ : ∃ g, w10.heap.size = g := ⟨_, rfl⟩
  rw [hgG] at hk ⊢
  generalize w10.alloc (.cells nd0.arr 46) = v10 at *
  clear hgG
  have l0 := ld_blk (hk (gA, exA.arr) (by simp)) oA
  have l1 := ld_blk (hk (gB, exB.arr) (by simp)) oB
  have l2 := ld_blk (hk (gC, exC.arr) (by simp)) oC
  go_wp2_with fail
  have hs := Blk.new v10 46 (exA.arr ++ exB.arr ++ exC.arr)
  replace hk := hk.alloc (.cells (exA.arr ++ exB.arr ++ exC.arr) 46)
  replace b := b.alloc b.size (.cells (exA.arr ++ exB.arr ++ exC.arr) 46)
  refine (exP_call _ ((HT.out).ext b) _ hs).mono ?_
  rintro e w11 ⟨A11, n11, c11, rfl, hP, k⟩
  replace hk := hk.below k
  replace b := bl b k
  clear hs
  clear l0 l1 l2
  clear k
  go_upto_region 13 with fail
  have l0 := ld_blk (hk (gC, exC.arr) (by simp)) oC
  go_wp2_with fail
  refine (exU_call _ ((HT.out).ext b) _ _ _ hP).mono ?_
  rintro e w12 ⟨rfl, k⟩
  replace hk := hk.below k
  replace b := bl b k
  replace hP := hP.below k
  clear l0
  clear k
  go_upto_region 14 with fail
  replace hk := hk.new exR.arr
  replace hP := hP.below (Below.alloc (Below.refl _ w12) (Nat.le_refl _) (.cells exR.arr 46))
  replace b := b.alloc b.size (.cells exR.arr 46)
  obtain ⟨gU, hgU⟩ : ∃ g, w12.heap.size = g := ⟨_, rfl⟩
  rw [hgU] at hk ⊢
  generalize w12.alloc (.cells exR.arr 46) = v12 at *
  clear hgU
  go_upto_region 16 with fail
  have hk6 : Bk v12 [(gA, exA.arr), (gR, exR.arr), (gJ, exR.arr), (gN, exN.arr), (gM, exM.arr), (gU, exR.arr)] := fun p hp => hk p (by simp at hp ⊢; rcases hp with rfl | rfl | rfl | rfl | rfl | rfl <;> simp)
  have hs0 := ss_of (w := w) (W := v12.drew) hk6 hP.drew b.drew
  have HRR := fun W => (eqN_self exR) ▸ eq_node exR exR dR dR W
  have HNN := fun W => (decide_eq_true (rfl : tagB sumS [] = tagB sumS [])) ▸ eq_digest (tagB sumS []) (tagB sumS []) (tagB_length _ _) (tagB_length _ _) W
  have hu41 := Tryd.underlying41
  have hi41 := hi41
  clear hk hP b hk6
  go_region_held3 (fun W => W.cell? ⟨gA, 33, none⟩ = some (.int .i64 24) ∧ W.cell? ⟨gA, 32, none⟩ = some (.int .i64 4) ∧ W.cell? ⟨gR, 33, none⟩ = some (.int .i64 768) ∧ W.cell? ⟨gR, 32, none⟩ = some (.int .i64 68) ∧ W.cell? ⟨gN, 33, none⟩ = some (.int .i64 0) ∧ W.cell? ⟨gN, 32, none⟩ = some (.int .i64 0) ∧
  (ld46 ⟨gR, 0, none⟩).run Tryd.prog W = .ok (.agg exR.arr) W ∧ (ld46 ⟨gJ, 0, none⟩).run Tryd.prog W = .ok (.agg exR.arr) W ∧ (ld46 ⟨gM, 0, none⟩).run Tryd.prog W = .ok (.agg exM.arr) W ∧ (ld46 ⟨gU, 0, none⟩).run Tryd.prog W = .ok (.agg exR.arr) W ∧
  W.rangeAt gN 0 (u8s (tagB sumS [])) ∧ Bk W [(gA, exA.arr), (gR, exR.arr), (gJ, exR.arr), (gN, exN.arr), (gM, exM.arr), (gU, exR.arr)] ∧ NS W A11 n11 c11 [exM] ∧ Below w.heap.size w W)
    (first | exact hs0 | exact ss_next (by assumption) (by assumption) | exact ss_alloc (by assumption) _)
    (first | (go_at_call 40; refine (sum_tagged _ ((HT.out).ext (ss_b (by assumption)))).mono ?_; rintro e w20 ⟨rfl, k20⟩) | (go_at_call 50; refine (exQ_call _ _ _ _ _ (ss_p (by assumption)) (Blk.new _ 46 exM.arr)).mono ?_; rintro e w21 ⟨rfl, k21⟩))
  go_wp2_with fail
  go_ret
  exact ⟨rfl, ss_b (by assumption)⟩
end Go.Proofs.YtedokiemlkccaaaDoor
