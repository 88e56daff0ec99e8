/- The walks of the reference of package sign and of its statements. -/
import Derived.Test.YtedokiemlkccaaaDoorRG
import Derived.Test.YtedokiemlkccaaaDoorY
namespace Go.Proofs.YtedokiemlkccaaaDoor
open Go.RowKit
set_option maxRecDepth 100000 in
/-- sizarref04.Bytes. -/
theorem rbytes_any (z : Int) (w : World) : Calls Tryd.prog 100 #[.int .i64 z] w fun e w' => ∃ A c, e = .returned (.slice A 8 c) ∧ w'.ownsRow w.heap.size 5 1 (.slice A 8 c) 8 (u8s (numB z)) ∧ Below w.heap.size w w' := by
  have hb1 : Below w.heap.size w (w.alloc (.cells #[] 5)) := (Below.refl _ w).alloc (Nat.le_refl _) _
  have hown0 : (w.alloc (.cells #[] 5)).ownsRow w.heap.size 5 1 (.slice (some ⟨w.heap.size, 0, none⟩) 0 0) 0 (u8s []) := World.ownsRow_made w #[] 0 (Nat.le_refl _) (by unfold maxLen; omega) rfl
  go_enter Tryd.func100, Tryd.ntmps100
  go_wp2_with fail
  go_loopw [4, 3] (fun x v wq => ∃ j : Nat, j ≤ 8 ∧ x = .int .i64 (7 - (j : Int)) ∧ Below w.heap.size w wq ∧ wq.ownsRow w.heap.size 5 1 v j (u8s ((numB z).take j))) (fun x _ _ => (intOf x + 1).toNat)
  case atStart => exact ⟨0, by omega, rfl, hb1, hown0⟩
  case round =>
    obtain ⟨j, hj, rfl, hB, hown⟩ := hrel
    clear hb1 hown0
    by_cases hlt : j < 8
    · have e0 : 0 ≤ 7 - (j : Int) := by omega
      have e1 : 7 - (j : Int) ≤ 7 := by omega
      have e2 : (8 * (7 - (j : Int))).toNat = 56 - 8 * j := by omega
      have hb := num_byte z j hlt
      have htb := numB_byte z j hlt
      obtain ⟨b, hbe⟩ : ∃ b, UInt8.ofNat ((z % 18446744073709551616).toNat / 256 ^ (7 - j)) = b := ⟨_, rfl⟩
      rw [hbe] at hb htb
      have HTB := Lib.hid htb
      have hbs := bs_one wr b (IntKind.u64.wrap z / 2 ^ (56 - 8 * j) % 256) hb
      have hB1 := hB.alloc hB.size (.cells #[.int .u8 (IntKind.u64.wrap z / 2 ^ (56 - 8 * j) % 256)] 5)
      have hown1 := hown.alloc (.cells #[.int .u8 (IntKind.u64.wrap z / 2 ^ (56 - 8 * j) % 256)] 5)
      clear hbe htb hb hown
      go_wp2_with (at_builtin; refine wpList_append_bs rfl (.tmp 10) (.tmp 17) rfl w.heap.size j 1 1 _ _ _ [b] rfl rfl hown1 hbs (by omega) hB1.size ?_)
      intro v2 w2 hown2 hb2
      have hB2 := hb2 _ hB1
      clear hb2 hown1 hB1 hbs
      go_wp2_with fail
      go_roundw
      case rel =>
        refine ⟨j + 1, by omega, by go_num, hB2, ?_⟩
        rw [HTB.out]
        exact hown2
      case measure => simp [intOf]; omega
    · obtain rfl : j = 8 := by omega
      have e0 : ¬ 0 ≤ 7 - ((8 : Nat) : Int) := by decide
      rw [List.take_of_length_le (l := numB z) (by rw [numB_length]; omega)] at hown
      obtain ⟨A, c, rfl, hbs⟩ := ownsRow_bs hown (by omega)
      go_wp2_with fail
      go_ret
      exact ⟨A, c, rfl, hown, hB⟩
set_option maxRecDepth 100000 in
/-- sizarref04.Challenge. -/
theorem rchallenge_any (p r : Int) (A : Option Addr) (n c : Nat) (l : List UInt8) (w : World) (h : BS w A n c l) (hn : n ≤ 1000) :
    Calls Tryd.prog 101 #[.int .i64 p, .int .i64 r, .slice A n c] w fun e w' => e = .returned (.int .i64 (chV p r l)) ∧ Below w.heap.size w w' := by
  have C1 := Lib.hid (rbytes_any r w)
  have C2 := Lib.hid fun W => rbytes_any p W
  go_enter Tryd.func101, Tryd.ntmps101
  go_wp2_with fail
  refine C1.out.mono ?_
  rintro e w1 ⟨A1, c1, rfl, ho1, hb1⟩
  go_wp2_with fail
  refine (C2.out _).mono ?_
  rintro e w2 ⟨A2, c2, rfl, ho2, hb2⟩
  have hbw2 := bl hb1 hb2
  have ho1' := own_below ho1 hb2
  obtain ⟨_, hs2⟩ := ownsRow_bs' ho2 (by omega)
  have hsz := hbw2.size
  clear C1 C2 ho1 ho2
  go_wp2_with (at_builtin; refine wpList_append_bs rfl (.tmp 8) (.tmp 10) rfl w.heap.size 8 8 c2 _ _ _ _ rfl rfl ho1' hs2 (by omega) hsz ?_)
  intro v3 w3 ho3 hb3
  have hbw3 := hb3 _ hbw2
  have hsm := h.below hbw3
  have hsz3 := hbw3.size
  clear ho1' hs2 hb3 hsz
  go_wp2_with (at_builtin; refine wpList_append_bs rfl (.tmp 11) (.tmp 12) rfl w.heap.size 16 n c _ _ _ _ rfl rfl ho3 hsm (by omega) hsz3 ?_)
  intro v4 w4 ho4 hb4
  have hbw4 := hb4 _ hbw3
  obtain ⟨A4, c4, rfl, hs4⟩ := ownsRow_bs ho4 (by omega)
  have cs := rscalar_any signS A4 (16 + n) c4 (numB r ++ numB p ++ l) w4 (by decide) hs4 (by omega)
  have CS := Lib.hid cs
  clear cs ho4 hs4 hb4
  go_wp2_with fail
  refine CS.out.mono ?_
  rintro e w5 ⟨rfl, hb5⟩
  go_wp2_with fail
  go_ret
  exact ⟨rfl, bl hbw4 hb5⟩
theorem ispriv_any (x : Int) (w : World) : Calls Tryd.prog 98 #[.int .i64 x] w fun e w' => e = .returned (.bool (keyB x)) ∧ w = w' := by
  by_cases h1 : 1 ≤ x
  · by_cases h2 : x < 2305843009213688669
    · rw [show keyB x = true from decide_eq_true ⟨h1, h2⟩]
      go_enter Tryd.func98, Tryd.ntmps98
      go_wp2_with fail
      go_ret
      exact ⟨by simp [h1, h2], rfl⟩
    · rw [show keyB x = false from decide_eq_false (fun h => h2 h.2)]
      go_enter Tryd.func98, Tryd.ntmps98
      go_wp2_with fail
      go_ret
      exact ⟨by simp [h1, h2], rfl⟩
  · rw [show keyB x = false from decide_eq_false (fun h => h1 h.1)]
    go_enter Tryd.func98, Tryd.ntmps98
    go_wp2_with fail
    go_ret
    exact ⟨by simp [h1], rfl⟩
theorem rbase_yes {k : Int} (h : scalB k = true) (W : World) : Calls Tryd.prog 99 #[.int .i64 k] W fun e w' => e = .returned (.tuple #[.int .i64 (expV 4 k), .int .i64 0]) ∧ W = w' := by
  have := rbase_any k W
  rwa [show expE 4 k = 0 by unfold expE; rw [e4, h]; rfl] at this
theorem rpublic_yes (x : Int) (w : World) (h : keyB x = true) : Calls Tryd.prog 59 #[.int .i64 x] w fun e w' => e = .returned (.tuple #[.int .i64 (expV 4 x), .int .i64 0]) ∧ w = w' := by
  have c0 := fun W => ispriv_any x W
  rw [h] at c0
  have C0 := Lib.hid c0
  have C := Lib.hid fun W => rbase_yes (key_scal h) W
  clear c0 h
  go_enter Tryd.func59, Tryd.ntmps59
  go_wp2_with fail
  refine (C0.out _).mono ?_
  rintro e w1 ⟨rfl, rfl⟩
  go_wp2_with fail
  refine (C.out _).mono ?_
  rintro e w1 ⟨rfl, rfl⟩
  go_wp2_with fail
  go_ret2
  exact ⟨rfl, rfl⟩
theorem rpublic_no (x : Int) (w : World) (h : keyB x = false) : Calls Tryd.prog 59 #[.int .i64 x] w fun e w' => e = .returned (.tuple #[.int .i64 0, .int .i64 40]) ∧ w = w' := by
  have c0 := fun W => ispriv_any x W
  rw [h] at c0
  have C0 := Lib.hid c0
  clear c0 h
  go_enter Tryd.func59, Tryd.ntmps59
  go_wp2_with fail
  refine (C0.out _).mono ?_
  rintro e w1 ⟨rfl, rfl⟩
  go_wp2_with fail
  go_ret2
  exact ⟨rfl, rfl⟩
theorem results_sig60 {tmps : Array Value} {W : World} {g : Nat} {R S : Int} {e : Value} (h : Blk W g 29 #[.int .i64 R, .int .i64 S]) (h1 : tmps.getD 4 undef = .pointer (some ⟨g, 0, none⟩)) (h2 : tmps.getD 5 undef = e) :
    (results Tryd.f60 tmps).run Tryd.prog W = .ok (.tuple #[.agg #[.int .i64 R, .int .i64 S], e]) W := by
  rw [results_cell_tmp (p := 4) (u := 5) (ty := 29) rfl, h1, h2]
  have hl := run_loadVar_row (P := Tryd.prog) W g 29 29 #[.int .i64 R, .int .i64 S] _ _ h Tryd.underlying29 rfl (by kernel_rfl)
  simp only [asAddr, Sem.run_pure, Result.andThen_ok, hl]
theorem rsign_no (x : Int) (A : Option Addr) (n c : Nat) (w : World) (hx : keyB x = false) :
    Calls Tryd.prog 60 #[.int .i64 x, .slice A n c] w fun e w' => e = .returned (.tuple #[.agg #[.int .i64 0, .int .i64 0], .int .i64 40]) ∧ Below w.heap.size w w' := by
  have C0 := Lib.hid fun W => rpublic_no x W hx
  clear hx
  go_enter Tryd.func60, Tryd.ntmps60
  go_upto_region 1 with fail
  have hS0 : Blk (w.alloc (.cells #[.int .i64 0, .int .i64 0] 29)) w.heap.size 29 #[.int .i64 0, .int .i64 0] := Blk.new _ _ _
  have hb0 : Below w.heap.size w (w.alloc (.cells #[.int .i64 0, .int .i64 0] 29)) := (Below.refl _ w).alloc (Nat.le_refl _) _
  generalize w.alloc (.cells #[.int .i64 0, .int .i64 0] 29) = w1 at hS0 hb0 ⊢
  have c0 := hS0.cell 0
  have c1 := hS0.cell 1
  have f0 := hS0.frozen 0
  have f1 := hS0.frozen 1
  go_wp2_with fail
  refine (C0.out _).mono ?_
  rintro e w2 ⟨rfl, rfl⟩
  go_wp2_with fail
  have hS2 : Blk ((w1.setCell ⟨w.heap.size, 0, none⟩ (.int .i64 0)).setCell ⟨w.heap.size, 1, none⟩ (.int .i64 0)) w.heap.size 29 #[.int .i64 0, .int .i64 0] := (hS0.set_ 0 _).set_ 1 _
  have hb2 := (hb0.setCell (p := ⟨w.heap.size, 0, none⟩) (Nat.le_refl _) (.int .i64 0)).setCell (p := ⟨w.heap.size, 1, none⟩) (Nat.le_refl _) (.int .i64 0)
  generalize (w1.setCell ⟨w.heap.size, 0, none⟩ (.int .i64 0)).setCell ⟨w.heap.size, 1, none⟩ (.int .i64 0) = w2 at hS2 hb2 ⊢
  refine bodyPost_ret (v := .tuple #[.agg #[.int .i64 0, .int .i64 0], .int .i64 40]) ?_ rfl ⟨rfl, hb2⟩
  exact results_sig60 hS2 rfl rfl
set_option maxRecDepth 100000 in
theorem rsign_yes (x : Int) (A : Option Addr) (n c : Nat) (l : List UInt8) (w : World) (hx : keyB x = true) (h : BS w A n c l) (hn : n ≤ 1000) :
    Calls Tryd.prog 60 #[.int .i64 x, .slice A n c] w fun e w' => e = .returned (.tuple #[.agg #[.int .i64 (sigR x l), .int .i64 (sigS x l)], .int .i64 0]) ∧ Below w.heap.size w w' := by
  have C0 := Lib.hid fun W => rpublic_yes x W hx
  have CB8 := Lib.hid fun W => rbytes_any x W
  obtain ⟨hk, hp, hR, hc, hS⟩ := sig_ok hx l
  have cN := fun (W : World) (A4 : Option Addr) (c4 : Nat) (hs : BS W A4 (8 + n) c4 (numB x ++ l)) => rscalar_any nonceS A4 (8 + n) c4 (numB x ++ l) W (by decide) hs (by omega)
  have hN2 : ((scalN (tagB nonceS (numB x ++ l)) : Nat) : Int) = nonceV x l := rfl
  simp only [hN2] at cN
  have cR := fun W => rbase_yes hk W
  have hR2 : expV 4 (nonceV x l) = sigR x l := by unfold sigR; exact rfl
  simp only [hR2] at cR
  have cC := fun (W : World) (hb : Below w.heap.size w W) => rchallenge_any (expV 4 x) (sigR x l) A n c l W (h.below hb) hn
  have cm := fun W => r03prod_any (chV (expV 4 x) (sigR x l) l) x W
  have hm := prod_scal hc (key_scal hx)
  have cs := fun W => r03sum_any (nonceV x l) (prodV (chV (expV 4 x) (sigR x l) l) x) W
  have hs := sum_scal hk hm.1
  have hS2 : sumV (nonceV x l) (prodV (chV (expV 4 x) (sigR x l) l) x) = sigS x l := by unfold sigS; exact rfl
  simp only [hm.2.2] at cm
  simp only [hs.2.2] at cs
  simp only [hS2] at cs
  obtain ⟨p, hpe⟩ : ∃ p, expV 4 x = p := ⟨_, rfl⟩
  obtain ⟨R, hRe⟩ : ∃ R, sigR x l = R := ⟨_, rfl⟩
  obtain ⟨S, hSe⟩ : ∃ S, sigS x l = S := ⟨_, rfl⟩
  obtain ⟨k, hke⟩ : ∃ k, nonceV x l = k := ⟨_, rfl⟩
  rw [hRe, hSe]
  rw [hpe] at C0
  simp only [hke] at cN
  simp only [hke, hRe] at cR
  simp only [hpe, hRe] at cC cm
  simp only [hpe, hRe, hSe, hke] at cs
  obtain ⟨ch, hche⟩ : ∃ ch, chV p R l = ch := ⟨_, rfl⟩
  simp only [hche] at cC cm cs
  obtain ⟨m, hme⟩ : ∃ m, prodV ch x = m := ⟨_, rfl⟩
  simp only [hme] at cm cs
  have CN := Lib.hid cN; have CR := Lib.hid cR; have CC := Lib.hid cC; have CM := Lib.hid cm; have CS := Lib.hid cs
  have HM := Lib.hid h
  clear cN cR cC cm cs hN2 hR2 hm hs hS2 hpe hRe hSe hke hche hme hk hp hR hc hS hx h
  go_enter Tryd.func60, Tryd.ntmps60
  go_upto_region 1 with fail
  have hA : Blk (w.alloc (.cells #[.int .i64 0, .int .i64 0] 29)) w.heap.size 29 #[.int .i64 0, .int .i64 0] := Blk.new _ _ _
  have b1 : Below w.heap.size w (w.alloc (.cells #[.int .i64 0, .int .i64 0] 29)) := (Below.refl _ w).alloc (Nat.le_refl _) _
  generalize w.alloc (.cells #[.int .i64 0, .int .i64 0] 29) = w1 at hA b1 ⊢
  go_wp2_with fail
  refine (C0.out _).mono ?_
  rintro e w2 ⟨rfl, rfl⟩
  go_wp2_with fail
  refine (CB8.out _).mono ?_
  rintro e w3 ⟨A3, c3, rfl, ho3, k3⟩
  have b3 := bl b1 k3
  have s3 := (HM.out).below b3
  clear b3
  have z3 : w1.heap.size ≤ w3.heap.size := k3.size
  go_wp2_with (at_builtin; refine wpList_append_bs rfl (.tmp 25) (.tmp 26) rfl w1.heap.size 8 n c _ _ _ _ rfl rfl ho3 s3 (by omega) z3 ?_)
  intro v4 w4 ho4 hb4
  have k4 := hb4 _ k3
  obtain ⟨A4, c4, rfl, hs4⟩ := ownsRow_bs ho4 (by omega)
  have hA := hA.below k4 hA.lt
  have b4 := bl b1 k4
  have cN := CN.out w4 _ _ hs4
  have CNN := Lib.hid cN
  clear cN hs4 ho4 hb4 ho3 k3 s3 z3 k4 b1
  go_wp2_with fail
  refine CNN.out.mono ?_
  rintro e w5 ⟨rfl, c5⟩
  have hA := hA.below c5 hA.lt
  have b5 := bl b4 c5
  clear b4 c5 CNN
  go_wp2_with fail
  refine (CR.out _).mono ?_
  rintro e w6 ⟨rfl, rfl⟩
  go_wp2_with fail
  refine (CC.out _ b5).mono ?_
  rintro e w6 ⟨rfl, c6⟩
  have hA := hA.below c6 hA.lt
  have b6 := bl b5 c6
  clear b5 c6
  go_wp2_with fail
  refine (CM.out _).mono ?_
  rintro e w7 ⟨rfl, rfl⟩
  go_wp2_with fail
  refine (CS.out _).mono ?_
  rintro e w7 ⟨rfl, rfl⟩
  have a0 := hA.cell 0
  have a1 := hA.cell 1
  have f0 := hA.frozen 0
  have f1 := hA.frozen 1
  go_wp2_with fail
  have hA9 : Blk ((w6.setCell ⟨w.heap.size, 0, none⟩ (.int .i64 R)).setCell ⟨w.heap.size, 1, none⟩ (.int .i64 S)) w.heap.size 29 #[.int .i64 R, .int .i64 S] := (hA.set_ 0 _).set_ 1 _
  have hb9 := (b6.setCell (p := ⟨w.heap.size, 0, none⟩) (Nat.le_refl _) (.int .i64 R)).setCell (p := ⟨w.heap.size, 1, none⟩) (Nat.le_refl _) (.int .i64 S)
  generalize (w6.setCell ⟨w.heap.size, 0, none⟩ (.int .i64 R)).setCell ⟨w.heap.size, 1, none⟩ (.int .i64 S) = w9 at hA9 hb9 ⊢
  refine bodyPost_ret (v := .tuple #[.agg #[.int .i64 R, .int .i64 S], .int .i64 0]) ?_ rfl ⟨rfl, hb9⟩
  exact results_sig60 hA9 rfl rfl
set_option maxRecDepth 100000 in
/-- sizarref04.Private. -/
theorem rprivate_any (d lab : List UInt8) (z : Int) (w : World) (hd : d.length = 32) (hlab : lab.length ≤ 1000) :
    Calls Tryd.prog 62 #[.agg (u8s d).toArray, .string ⟨lab.toArray⟩, .int .i64 z] w fun e w' => e = .returned (.int .i64 (privV d lab z)) ∧ Below w.heap.size w w' := by
  have CB8 := Lib.hid fun W => rbytes_any z W
  have hcv := conv_str lab (by omega)
  have HCV := Lib.hid hcv
  obtain ⟨ar, har⟩ : ∃ ar, (u8s d).toArray = ar := ⟨_, rfl⟩
  have HAR := Lib.hid har
  rw [har]
  clear har hcv
  go_enter Tryd.func62, Tryd.ntmps62
  go_upto_region 1 with fail
  have hD : Blk (w.alloc (.cells ar 41)) w.heap.size 41 (u8s d).toArray := by rw [HAR.out]; exact Blk.new _ _ _
  have hb : Below w.heap.size w (w.alloc (.cells ar 41)) := (Below.refl _ w).alloc (Nat.le_refl _) _
  generalize w.alloc (.cells ar 41) = w1 at hD hb ⊢
  have hD2 := hD.alloc (.cells #[] 5)
  have hb2 := hb.alloc hb.size (.cells #[] 5)
  have hown : (w1.alloc (.cells #[] 5)).ownsRow w.heap.size 5 1 (.slice (some ⟨w1.heap.size, 0, none⟩) 0 0) 0 (u8s []) := World.ownsRow_made w1 #[] 0 hb.size (by unfold maxLen; omega) rfl
  have hbs : BS (w1.alloc (.cells #[] 5)) (some ⟨w.heap.size, 0, none⟩) 32 32 d := z32_blk_bytes hD2 hd
  clear hD hD2
  go_wp2_with (at_builtin; refine wpList_append_bs rfl (.tmp 8) (.tmp 9) rfl w.heap.size 0 32 32 _ _ _ _ rfl rfl hown hbs (by omega) hb2.size ?_)
  intro v3 w3 ho3 hb3
  have hb3 := hb3 _ hb2
  clear hown hbs hb2 hb
  go_wp2_with fail
  refine (CB8.out _).mono ?_
  rintro e w4 ⟨A4, c4, rfl, ho4, k4⟩
  have b4 := bl hb3 k4
  have ho3 := own_below ho3 k4
  obtain ⟨_, hs4⟩ := ownsRow_bs' ho4 (by omega)
  have z4 := b4.size
  clear ho4 hb3 k4
  go_wp2_with (at_builtin; refine wpList_append_bs rfl (.tmp 11) (.tmp 13) rfl w.heap.size 32 8 c4 _ _ _ _ rfl rfl ho3 hs4 (by omega) z4 ?_)
  intro v5 w5 ho5 hb5
  have b5 := hb5 _ b4
  clear ho3 hs4 hb5 b4 z4
  obtain ⟨G, w6, hc6, hs6, k6⟩ := HCV.out w5
  have b6 := bl b5 k6
  have ho6 := own_below ho5 k6
  have z6 := b6.size
  clear ho5 HCV b5 k6
  go_wp2_with (at_builtin; refine wpList_append_bs rfl (.tmp 15) (.tmp 17) rfl w.heap.size 40 lab.length G _ _ _ _ rfl rfl ho6 hs6 (by omega) z6 ?_)
  intro v7 w7 ho7 hb7
  have b7 := hb7 _ b6
  obtain ⟨A8, c8, rfl, hs8⟩ := ownsRow_bs ho7 (by omega)
  rw [← List.append_assoc] at hs8
  have cs := rscalar_any privS A8 (40 + lab.length) c8 (d ++ numB z ++ lab) w7 (by decide) hs8 (by omega)
  rw [show ((scalN (tagB privS (d ++ numB z ++ lab)) : Nat) : Int) = privV d lab z from rfl] at cs
  have CS := Lib.hid cs
  clear cs hs8 ho7 hb7 hs6 ho6
  go_wp2_with fail
  refine CS.out.mono ?_
  rintro e w9 ⟨rfl, hb9⟩
  go_wp2_with fail
  go_ret
  exact ⟨rfl, bl b7 hb9⟩
theorem verV_no {p R S : Int} {l : List UInt8} (h : (elemB p && elemB R && scalB S) = false) : verV p R S l = false := by unfold verV; rw [h, Bool.false_and]
set_option maxRecDepth 100000 in
set_option maxHeartbeats 1000000 in
/-- sizarref04.Verify. -/
theorem rverify_any (p R S : Int) (A : Option Addr) (n c : Nat) (l : List UInt8) (w : World) (h : BS w A n c l) (hn : n ≤ 1000) :
    Calls Tryd.prog 64 #[.int .i64 p, .slice A n c, .agg #[.int .i64 R, .int .i64 S]] w fun e w' => e = .returned (.bool (verV p R S l)) ∧ Below w.heap.size w w' := by
  have cp := fun W => rcheck_any p W
  have cR := fun W => rcheck_any R W
  have hA : Blk (w.alloc (.cells #[.int .i64 R, .int .i64 S] 29)) w.heap.size 29 #[.int .i64 R, .int .i64 S] := Blk.new _ _ _
  have b1 : Below w.heap.size w (w.alloc (.cells #[.int .i64 R, .int .i64 S] 29)) := (Below.refl _ w).alloc (Nat.le_refl _) _
  cases hp : elemB p
  · rw [verV_no (by rw [hp]; rfl)]
    simp only [errG_false hp] at cp
    have CP := Lib.hid cp
    clear cp cR hp h
    go_enter Tryd.func64, Tryd.ntmps64
    go_wp2_with fail
    refine (CP.out _).mono ?_
    rintro e w1 ⟨rfl, rfl⟩
    go_wp2_with fail
    go_ret
    exact ⟨rfl, b1⟩
  · cases hR : elemB R
    · rw [verV_no (by rw [hR, Bool.and_false, Bool.false_and])]
      simp only [errG_true hp] at cp
      simp only [errG_false hR] at cR
      have CP := Lib.hid cp
      have CR := Lib.hid cR
      clear cp cR hp hR h
      go_enter Tryd.func64, Tryd.ntmps64
      go_upto_region 1 with fail
      generalize w.alloc (.cells #[.int .i64 R, .int .i64 S] 29) = w1 at hA b1 ⊢
      have a0 := hA.cell 0
      go_wp2_with fail
      refine (CP.out _).mono ?_
      rintro e w2 ⟨rfl, rfl⟩
      go_wp2_with fail
      refine (CR.out _).mono ?_
      rintro e w2 ⟨rfl, rfl⟩
      go_wp2_with fail
      go_ret
      exact ⟨rfl, b1⟩
    · cases hS : scalB S
      · rw [verV_no (by rw [hS, Bool.and_false])]
        simp only [errG_true hp] at cp
        simp only [errG_true hR] at cR
        have CP := Lib.hid cp
        have CR := Lib.hid cR
        have hs : S < 0 ∨ (0 ≤ S ∧ 2305843009213688669 ≤ S) := by
          have := of_decide_eq_false hS
          omega
        clear cp cR hp hR h hS
        rcases hs with hs | ⟨hs0, hs⟩
        all_goals
          go_enter Tryd.func64, Tryd.ntmps64
          go_upto_region 1 with fail
          generalize w.alloc (.cells #[.int .i64 R, .int .i64 S] 29) = w1 at hA b1 ⊢
          have a0 := hA.cell 0
          have a1 := hA.cell 1
          go_wp2_with fail
          refine (CP.out _).mono ?_
          rintro e w2 ⟨rfl, rfl⟩
          go_wp2_with fail
          refine (CR.out _).mono ?_
          rintro e w2 ⟨rfl, rfl⟩
          go_wp2_with fail
          go_ret
          exact ⟨rfl, b1⟩
      · have hv : verV p R S l = decide (expV 4 S = mulV R (expV p (chV p R l))) := by unfold verV; exact and3 hp hR hS
        rw [hv]
        simp only [errG_true hp] at cp
        simp only [errG_true hR] at cR
        have hsb := scalB_true hS
        have s0 : 0 ≤ S := hsb.1
        have s1 : S < 2305843009213688669 := hsb.2
        have hch : scalB (chV p R l) = true := scalN_scal _
        have cB := fun W => rbase_yes hS W
        have cC := fun (W : World) (hb : Below w.heap.size w W) => rchallenge_any p R A n c l W (h.below hb) hn
        obtain ⟨ch, hche⟩ : ∃ ch, chV p R l = ch := ⟨_, rfl⟩
        rw [hche] at hch ⊢
        simp only [hche] at cC
        have hx := exp_elem hp hch
        have cE := fun W => rexp_any p ch W
        have e0 : expE p ch = 0 := by unfold expE; rw [hp, hch]; rfl
        simp only [e0] at cE
        obtain ⟨y, hy⟩ : ∃ y, expV p ch = y := ⟨_, rfl⟩
        rw [hy] at hx ⊢
        simp only [hy] at cE
        have cM := fun W => rmul_any R y W
        simp only [(mul_elem' hR hx.1).2.1] at cM
        obtain ⟨m, hm⟩ : ∃ m, mulV R y = m := ⟨_, rfl⟩
        obtain ⟨v, hve⟩ : ∃ v, expV 4 S = v := ⟨_, rfl⟩
        rw [hm, hve]
        simp only [hm] at cM
        simp only [hve] at cB
        have CP := Lib.hid cp; have CR := Lib.hid cR; have CB := Lib.hid cB; have CC := Lib.hid cC; have CE := Lib.hid cE; have CM := Lib.hid cM
        clear cp cR cB cC cE cM hp hR hS hv hsb hch hche hx e0 hy hm hve h
        go_enter Tryd.func64, Tryd.ntmps64
        go_upto_region 1 with fail
        generalize w.alloc (.cells #[.int .i64 R, .int .i64 S] 29) = w1 at hA b1 ⊢
        have a0 := hA.cell 0
        have a1 := hA.cell 1
        go_wp2_with fail
        refine (CP.out _).mono ?_
        rintro e w2 ⟨rfl, rfl⟩
        go_wp2_with fail
        refine (CR.out _).mono ?_
        rintro e w2 ⟨rfl, rfl⟩
        go_wp2_with fail
        refine (CB.out _).mono ?_
        rintro e w2 ⟨rfl, rfl⟩
        go_wp2_with fail
        refine (CC.out _ b1).mono ?_
        rintro e w2 ⟨rfl, c2⟩
        have hA := hA.below c2 hA.lt
        have b2 := bl b1 c2
        clear a0 a1
        have a0 := hA.cell 0
        go_wp2_with fail
        refine (CE.out _).mono ?_
        rintro e w3 ⟨rfl, rfl⟩
        go_wp2_with fail
        refine (CM.out _).mono ?_
        rintro e w3 ⟨rfl, rfl⟩
        go_wp2_with fail
        go_ret
        exact ⟨ret_bool (show (v == m) = decide (v = m) by by_cases h : v = m <;> simp [h]), b2⟩
set_option maxRecDepth 100000 in
set_option maxHeartbeats 1000000 in
theorem privspec_yes (d lab : List UInt8) (z : Int) (w : World) (hd : d.length = 32) (hlab : lab.length ≤ 1000) (hT : Tabs w) :
    Calls Tryd.prog 16 #[.agg (u8s d).toArray, .string ⟨lab.toArray⟩, .int .i64 z] w fun e w' => e = .returned (.bool true) ∧ Below w.heap.size w w' := by
  have t1 : ¬ (1000 : Int) < (lab.length : Int) := by omega
  have hx : keyB (privV d lab z) = true := by
    have := scalN_pos (tagB privS (d ++ numB z ++ lab))
    unfold privV; exact decide_eq_true (by omega)
  have c0 := fun (W : World) (hb : Below w.heap.size w W) => sane04_any W (hT.ext hb)
  have c1 := fun (W : World) (hb : Below w.heap.size w W) => private_any d lab z W hd hlab (hT.ext hb)
  have c2 := fun W => rprivate_any d lab z W hd hlab
  have c3 := fun W => public_yes (privV d lab z) W hx
  obtain ⟨x, hxe⟩ : ∃ x, privV d lab z = x := ⟨_, rfl⟩
  simp only [hxe] at c1 c2 c3
  obtain ⟨p, hpe⟩ : ∃ p, expV 4 x = p := ⟨_, rfl⟩
  simp only [hpe] at c3
  have hsz : (u8s d).toArray.size = 32 := by rw [List.size_toArray, u8s_length, hd]
  obtain ⟨ar, har⟩ : ∃ ar, (u8s d).toArray = ar := ⟨_, rfl⟩
  simp only [har] at c1 c2
  rw [har] at hsz ⊢
  have C0 := Lib.hid c0; have C1 := Lib.hid c1; have C2 := Lib.hid c2; have C3 := Lib.hid c3
  clear c0 c1 c2 c3 har hx hxe hpe hT hlab hd
  go_enter Tryd.func16, Tryd.ntmps16
  go_upto_region 1 with fail
  have hA : Blk (w.alloc (.cells ar 41)) w.heap.size 41 ar := Blk.new _ _ _
  have b1 : Below w.heap.size w (w.alloc (.cells ar 41)) := (Below.refl _ w).alloc (Nat.le_refl _) _
  generalize w.alloc (.cells ar 41) = w1 at hA b1 ⊢
  go_wp2_with fail
  refine (C0.out _ b1).mono ?_
  rintro e w2 ⟨rfl, c2⟩
  have hA := hA.below c2 hA.lt
  have b2 := bl b1 c2
  clear b1 c2
  go_upto_region 5 with fail
  apply wp_region_lit
  refine wpList_load_row rfl 41 (.tmp 3) rfl w.heap.size rfl 41 ar _ _ hA Tryd.underlying41 rfl (by rw [hsz]; kernel_rfl) ?_
  go_wp2_with fail
  refine (C1.out _ b2).mono ?_
  rintro e w3 ⟨rfl, c3⟩
  have hA := hA.below c3 hA.lt
  have b3 := bl b2 c3
  clear b2 c3
  go_wp2_with fail
  refine (C3.out _).mono ?_
  rintro e w4 ⟨rfl, c4⟩
  have hA := hA.below c4 hA.lt
  have b4 := bl b3 c4
  clear b3 c4
  go_upto_region 7 with fail
  apply wp_region_lit
  go_step
  go_step
  go_step
  refine wpList_load_row rfl 41 (.tmp 3) rfl w.heap.size (by rfl) 41 ar _ _ hA Tryd.underlying41 rfl (by rw [hsz]; kernel_rfl) ?_
  go_wp2_with fail
  refine (C2.out _).mono ?_
  rintro e w5 ⟨rfl, c5⟩
  have b5 := bl b4 c5
  go_wp2_with fail
  go_ret
  exact ⟨by simp, b5⟩
theorem privspec_no (ar : Array Value) (lab : List UInt8) (z : Int) (w : World) (hlab : 1000 < lab.length) (hT : Tabs w) :
    Calls Tryd.prog 16 #[.agg ar, .string ⟨lab.toArray⟩, .int .i64 z] w fun e w' => e = .returned (.bool true) ∧ Below w.heap.size w w' := by
  have t1 : (1000 : Int) < (lab.length : Int) := by omega
  have c0 := fun (W : World) (hb : Below w.heap.size w W) => sane04_any W (hT.ext hb)
  have C0 := Lib.hid c0
  clear c0 hT
  go_enter Tryd.func16, Tryd.ntmps16
  go_upto_region 1 with fail
  have b1 : Below w.heap.size w (w.alloc (.cells ar 41)) := (Below.refl _ w).alloc (Nat.le_refl _) _
  generalize w.alloc (.cells ar 41) = w1 at b1 ⊢
  go_wp2_with fail
  refine (C0.out _ b1).mono ?_
  rintro e w2 ⟨rfl, c2⟩
  have b2 := bl b1 c2
  go_wp2_with fail
  go_ret
  exact ⟨rfl, b2⟩
/-- SignPrivateSpec, of whatever comes in. -/
theorem privspec_walk (d lab : List UInt8) (z : Int) (w : World) (hd : d.length = 32) (hT : Tabs w) :
    Calls Tryd.prog 16 #[.agg (u8s d).toArray, .string ⟨lab.toArray⟩, .int .i64 z] w fun e w' => e = .returned (.bool true) ∧ Below w.heap.size w w' := by
  by_cases hlab : lab.length ≤ 1000
  · exact privspec_yes d lab z w hd hlab hT
  · exact privspec_no _ lab z w (by omega) hT
theorem vg_next {w W W' : World} {g : Nat} {R S : Int} (h : W.cell? ⟨g, 0, none⟩ = some (.int .i64 R) ∧ W.cell? ⟨g, 1, none⟩ = some (.int .i64 S) ∧ Below w.heap.size w W ∧ Blk W g 29 #[.int .i64 R, .int .i64 S]) (b : Below W.heap.size W W') :
    W'.cell? ⟨g, 0, none⟩ = some (.int .i64 R) ∧ W'.cell? ⟨g, 1, none⟩ = some (.int .i64 S) ∧ Below w.heap.size w W' ∧ Blk W' g 29 #[.int .i64 R, .int .i64 S] := by
  have h1 := h.2.2.2.below b h.2.2.2.lt
  exact ⟨h1.cell 0, h1.cell 1, bl h.2.2.1 b, h1⟩
theorem vg_mid {w W : World} {g : Nat} {R S : Int} (h : W.cell? ⟨g, 0, none⟩ = some (.int .i64 R) ∧ W.cell? ⟨g, 1, none⟩ = some (.int .i64 S) ∧ Below w.heap.size w W ∧ Blk W g 29 #[.int .i64 R, .int .i64 S]) : Below w.heap.size w W := h.2.2.1
set_option maxRecDepth 100000 in
set_option maxHeartbeats 1000000 in
theorem verspec_yes (p R S : Int) (A : Option Addr) (n c : Nat) (l : List UInt8) (w : World) (h : BS w A n c l) (hn : n ≤ 1000) (hT : Tabs w) :
    Calls Tryd.prog 17 #[.int .i64 p, .slice A n c, .agg #[.int .i64 R, .int .i64 S]] w fun e w' => e = .returned (.bool true) ∧ Below w.heap.size w w' := by
  have t1 : ¬ (1000 : Int) < (n : Int) := by omega
  have t2 : decide ((1000 : Int) < (n : Int)) = false := by simpa using t1
  have c0 := fun (W : World) (hb : Below w.heap.size w W) => sane04_any W (hT.ext hb)
  have c1 := fun (W : World) (hb : Below w.heap.size w W) => verify_any p R S A n c l W (h.below hb) hn (hT.ext hb)
  have c2 := fun (W : World) (hb : Below w.heap.size w W) => rverify_any p R S A n c l W (h.below hb) hn
  obtain ⟨v, hv⟩ : ∃ v, verV p R S l = v := ⟨_, rfl⟩
  simp only [hv] at c1 c2
  have C0 := Lib.hid c0; have C1 := Lib.hid c1; have C2 := Lib.hid c2
  clear c0 c1 c2 hv h hT
  go_enter Tryd.func17, Tryd.ntmps17
  go_upto_region 1 with fail
  have hA : Blk (w.alloc (.cells #[.int .i64 R, .int .i64 S] 29)) w.heap.size 29 #[.int .i64 R, .int .i64 S] := Blk.new _ _ _
  have b1 : Below w.heap.size w (w.alloc (.cells #[.int .i64 R, .int .i64 S] 29)) := (Below.refl _ w).alloc (Nat.le_refl _) _
  generalize w.alloc (.cells #[.int .i64 R, .int .i64 S] 29) = w1 at hA b1 ⊢
  obtain ⟨g, hg⟩ : ∃ g, w.heap.size = g := ⟨_, rfl⟩
  rw [hg] at hA ⊢
  go_wp2_with fail
  refine (C0.out _ b1).mono ?_
  rintro e w2 ⟨rfl, c2⟩
  have hA := hA.below c2 hA.lt
  have b2 := bl b1 c2
  have a0 : w2.cell? ⟨g, 0, none⟩ = some (.int .i64 R) := hA.cell 0
  have a1 : w2.cell? ⟨g, 1, none⟩ = some (.int .i64 S) := hA.cell 1
  clear b1 c2
  go_upto_region 3 with fail
  go_region_held3 (fun W => W.cell? ⟨g, 0, none⟩ = some (.int .i64 R) ∧ W.cell? ⟨g, 1, none⟩ = some (.int .i64 S) ∧ Below w.heap.size w W ∧ Blk W g 29 #[.int .i64 R, .int .i64 S])
    (first | exact ⟨a0, a1, below_dr b2 1, hA⟩ | exact vg_next (by assumption) (by assumption))
    (first | (go_at_call 63; refine (C1.out _ (by exact vg_mid (g := g) (R := R) (S := S) (by assumption))).mono ?_; rintro e w7 ⟨rfl, b7⟩) | (go_at_call 64; refine (C2.out _ (by exact vg_mid (g := g) (R := R) (S := S) (by assumption))).mono ?_; rintro e w8 ⟨rfl, b8⟩))
  obtain ⟨_, _, hB8, _⟩ : _ ∧ _ ∧ Below w.heap.size w w8 ∧ Blk w8 g 29 #[.int .i64 R, .int .i64 S] := by assumption
  go_wp2_with fail
  go_ret
  exact ⟨by simp, hg ▸ hB8⟩
theorem verspec_no (p R S : Int) (A : Option Addr) (n c : Nat) (w : World) (hn : 1000 < n) (hT : Tabs w) :
    Calls Tryd.prog 17 #[.int .i64 p, .slice A n c, .agg #[.int .i64 R, .int .i64 S]] w fun e w' => e = .returned (.bool true) ∧ Below w.heap.size w w' := by
  have t1 : (1000 : Int) < (n : Int) := by omega
  have t2 : decide ((1000 : Int) < (n : Int)) = true := by simpa using t1
  have c0 := fun (W : World) (hb : Below w.heap.size w W) => sane04_any W (hT.ext hb)
  have C0 := Lib.hid c0
  clear c0 hT
  go_enter Tryd.func17, Tryd.ntmps17
  go_upto_region 1 with fail
  have b1 : Below w.heap.size w (w.alloc (.cells #[.int .i64 R, .int .i64 S] 29)) := (Below.refl _ w).alloc (Nat.le_refl _) _
  generalize w.alloc (.cells #[.int .i64 R, .int .i64 S] 29) = w1 at b1 ⊢
  go_wp2_with fail
  refine (C0.out _ b1).mono ?_
  rintro e w2 ⟨rfl, c2⟩
  have b2 := bl b1 c2
  go_upto_region 3 with fail
  go_quiet (fail)
  go_wp2_with fail
  go_ret
  exact ⟨rfl, below_dr b2 nq⟩
/-- SignVerifySpec, of whatever comes in. -/
theorem verspec_walk (p R S : Int) (A : Option Addr) (n c : Nat) (l : List UInt8) (w : World) (h : BS w A n c l) (hT : Tabs w) :
    Calls Tryd.prog 17 #[.int .i64 p, .slice A n c, .agg #[.int .i64 R, .int .i64 S]] w fun e w' => e = .returned (.bool true) ∧ Below w.heap.size w w' := by
  by_cases hn : n ≤ 1000
  · exact verspec_yes p R S A n c l w h hn hT
  · exact verspec_no p R S A n c w (by omega) hT
theorem two_at (a b : Int) (i : Nat) (h : i < 2) : ∃ v : Int, (#[Value.int .i64 a, .int .i64 b] : Array Value)[i]? = some (.int .i64 v) := by
  match i, h with
  | 0, _ => exact ⟨a, rfl⟩
  | 1, _ => exact ⟨b, rfl⟩
set_option maxRecDepth 100000 in
set_option maxHeartbeats 4000000 in
theorem pubspec_yes (z : Int) (A : Option Addr) (n c : Nat) (l : List UInt8) (w : World) (h : BS w A n c l) (hn : n ≤ 1000) (hT : Tabs w) :
    Calls Tryd.prog 15 #[.int .i64 z, .slice A n c] w fun e w' => e = .returned (.bool true) ∧ Below w.heap.size w w' := by
  have t1 : ¬ (1000 : Int) < (n : Int) := by omega
  have C0 := Lib.hid (sane04_any w hT)
  obtain ⟨q, hqe⟩ : ∃ x, keyV z = x := ⟨_, rfl⟩
  have CK := Lib.hid fun W => key_yes z q hqe W
  have HM := Lib.hid h
  have HT := Lib.hid hT
  clear hqe h hT
  go_enter Tryd.func15, Tryd.ntmps15
  go_wp2_with fail
  refine C0.out.mono ?_
  rintro e w1 ⟨rfl, b1⟩
  go_wp2_with fail
  refine (CK.out _).mono ?_
  rintro e w2 ⟨rfl, rfl⟩
  go_wp2_with fail
  have hL : Blk (w1.alloc (.cells #[.int .i64 z, .int .i64 q] 3)) w1.heap.size 3 #[.int .i64 z, .int .i64 q] := Blk.new w1 _ _
  have b5 : Below w.heap.size w (w1.alloc (.cells #[.int .i64 z, .int .i64 q] 3)) := b1.alloc b1.size _
  generalize w1.alloc (.cells #[.int .i64 z, .int .i64 q] 3) = w5 at hL b5 ⊢
  obtain ⟨gl, hgl⟩ : ∃ g, w1.heap.size = g := ⟨_, rfl⟩
  rw [hgl] at hL ⊢
  clear hgl b1
  go_loopw [25] (fun k wr => ∃ i : Nat, i ≤ 2 ∧ k = .int .i64 i ∧ Below w.heap.size w wr ∧ Blk wr gl 3 #[.int .i64 z, .int .i64 q]) (fun k _ => 2 - (intOf k).toNat)
  case atStart => exact ⟨0, by omega, rfl, b5, hL⟩
  case round =>
    obtain ⟨i, hi, rfl, hB, hL⟩ := hrel
    clear b5
    by_cases hlt : i < 2
    · have hlt' : (i : Int) < 2 := by omega
      obtain ⟨x, hv⟩ := two_at z q i hlt
      have cl : wr.cell? ⟨gl, i, none⟩ = some (.int .i64 x) := (hL.cell i).trans hv
      clear hv
      cases hx : keyB x
      · have c1 := fun W => public_no x W hx
        have c2 := fun W => rpublic_no x W hx
        have c3 := fun W => sign_no x A n c W hx
        have c4 := fun W => rsign_no x A n c W hx
        have C1 := Lib.hid c1; have C2 := Lib.hid c2; have C3 := Lib.hid c3; have C4 := Lib.hid c4
        clear c1 c2 c3 c4 hx
        go_wp2_with fail
        refine (C1.out _).mono ?_
        rintro e w6 ⟨rfl, k6⟩
        have hL := hL.below k6 hL.lt
        have hB := bl hB k6
        clear k6 cl
        go_wp2_with fail
        refine (C2.out _).mono ?_
        rintro e w7 ⟨rfl, rfl⟩
        go_wp2_with fail
        refine (C3.out _).mono ?_
        rintro e w7 ⟨rfl, k7⟩
        have hL := hL.below k7 hL.lt
        have hB := bl hB k7
        clear k7
        go_upto_region 11 with fail
        have hS : Blk (w7.alloc (.cells #[.int .i64 0, .int .i64 0] 29)) w7.heap.size 29 #[.int .i64 0, .int .i64 0] := Blk.new _ _ _
        have hL := hL.alloc (.cells #[.int .i64 0, .int .i64 0] 29)
        have hB := hB.alloc hB.size (.cells #[.int .i64 0, .int .i64 0] 29)
        generalize w7.alloc (.cells #[.int .i64 0, .int .i64 0] 29) = w8 at hS hL hB ⊢
        obtain ⟨g1, hg1⟩ : ∃ g, w7.heap.size = g := ⟨_, rfl⟩
        rw [hg1] at hS ⊢
        clear hg1
        go_wp2_with fail
        refine (C4.out _).mono ?_
        rintro e w9 ⟨rfl, k9⟩
        have hL := hL.below k9 hL.lt
        have hS := hS.below k9 hS.lt
        have hB := bl hB k9
        clear k9
        go_upto_region 12 with fail
        have hS2 : Blk (w9.alloc (.cells #[.int .i64 0, .int .i64 0] 29)) w9.heap.size 29 #[.int .i64 0, .int .i64 0] := Blk.new _ _ _
        have hL := hL.alloc (.cells #[.int .i64 0, .int .i64 0] 29)
        have hS := hS.alloc (.cells #[.int .i64 0, .int .i64 0] 29)
        have hB := hB.alloc hB.size (.cells #[.int .i64 0, .int .i64 0] 29)
        generalize w9.alloc (.cells #[.int .i64 0, .int .i64 0] 29) = w10 at hS hS2 hL hB ⊢
        obtain ⟨g2, hg2⟩ : ∃ g, w9.heap.size = g := ⟨_, rfl⟩
        rw [hg2] at hS2 ⊢
        clear hg2
        have a0 := hS.cell 0
        have a1 := hS.cell 1
        have d0 := hS2.cell 0
        have d1 := hS2.cell 1
        go_wp2_with fail
        go_roundw
        case rel => exact ⟨i + 1, by omega, by go_num, hB, hL⟩
        case measure => simp [intOf]; omega
      · have c1 := fun W => public_yes x W hx
        have c2 := fun W => rpublic_yes x W hx
        have c3 := fun (W : World) (hb : Below w.heap.size w W) => sign_yes x A n c l W hx ((HM.out).below hb) hn ((HT.out).ext hb)
        have c4 := fun (W : World) (hb : Below w.heap.size w W) => rsign_yes x A n c l W hx ((HM.out).below hb) hn
        obtain ⟨p, hpe⟩ : ∃ p, expV 4 x = p := ⟨_, rfl⟩
        obtain ⟨R, hRe⟩ : ∃ R, sigR x l = R := ⟨_, rfl⟩
        obtain ⟨S, hSe⟩ : ∃ S, sigS x l = S := ⟨_, rfl⟩
        simp only [hpe] at c1 c2
        simp only [hRe, hSe] at c3 c4
        have C1 := Lib.hid c1; have C2 := Lib.hid c2; have C3 := Lib.hid c3; have C4 := Lib.hid c4
        clear c1 c2 c3 c4 hx hpe hRe hSe
        go_wp2_with fail
        refine (C1.out _).mono ?_
        rintro e w6 ⟨rfl, k6⟩
        have hL := hL.below k6 hL.lt
        have hB := bl hB k6
        clear k6 cl
        go_wp2_with fail
        refine (C2.out _).mono ?_
        rintro e w7 ⟨rfl, rfl⟩
        go_wp2_with fail
        refine (C3.out _ hB).mono ?_
        rintro e w7 ⟨rfl, k7⟩
        have hL := hL.below k7 hL.lt
        have hB := bl hB k7
        clear k7
        go_upto_region 11 with fail
        have hS : Blk (w7.alloc (.cells #[.int .i64 R, .int .i64 S] 29)) w7.heap.size 29 #[.int .i64 R, .int .i64 S] := Blk.new _ _ _
        have hL := hL.alloc (.cells #[.int .i64 R, .int .i64 S] 29)
        have hB := hB.alloc hB.size (.cells #[.int .i64 R, .int .i64 S] 29)
        generalize w7.alloc (.cells #[.int .i64 R, .int .i64 S] 29) = w8 at hS hL hB ⊢
        obtain ⟨g1, hg1⟩ : ∃ g, w7.heap.size = g := ⟨_, rfl⟩
        rw [hg1] at hS ⊢
        clear hg1
        go_wp2_with fail
        refine (C4.out _ hB).mono ?_
        rintro e w9 ⟨rfl, k9⟩
        have hL := hL.below k9 hL.lt
        have hS := hS.below k9 hS.lt
        have hB := bl hB k9
        clear k9
        go_upto_region 12 with fail
        have hS2 : Blk (w9.alloc (.cells #[.int .i64 R, .int .i64 S] 29)) w9.heap.size 29 #[.int .i64 R, .int .i64 S] := Blk.new _ _ _
        have hL := hL.alloc (.cells #[.int .i64 R, .int .i64 S] 29)
        have hS := hS.alloc (.cells #[.int .i64 R, .int .i64 S] 29)
        have hB := hB.alloc hB.size (.cells #[.int .i64 R, .int .i64 S] 29)
        generalize w9.alloc (.cells #[.int .i64 R, .int .i64 S] 29) = w10 at hS hS2 hL hB ⊢
        obtain ⟨g2, hg2⟩ : ∃ g, w9.heap.size = g := ⟨_, rfl⟩
        rw [hg2] at hS2 ⊢
        clear hg2
        have a0 := hS.cell 0
        have a1 := hS.cell 1
        have d0 := hS2.cell 0
        have d1 := hS2.cell 1
        go_wp2_with fail
        go_roundw
        case rel => exact ⟨i + 1, by omega, by go_num, hB, hL⟩
        case measure => simp [intOf]; omega
    · obtain rfl : i = 2 := by omega
      rw [show ((2 : Nat) : Int) = 2 from rfl]
      go_wp2_with fail
      go_ret
      exact ⟨rfl, hB⟩
theorem pubspec_no (z : Int) (A : Option Addr) (n c : Nat) (w : World) (hn : 1000 < n) (hT : Tabs w) :
    Calls Tryd.prog 15 #[.int .i64 z, .slice A n c] w fun e w' => e = .returned (.bool true) ∧ Below w.heap.size w w' := by
  have t1 : (1000 : Int) < (n : Int) := by omega
  have C0 := Lib.hid (sane04_any w hT)
  clear hT
  go_enter Tryd.func15, Tryd.ntmps15
  go_wp2_with fail
  refine C0.out.mono ?_
  rintro e w1 ⟨rfl, b1⟩
  go_wp2_with fail
  go_ret
  exact ⟨rfl, b1⟩
/-- SignPublicSpec, of whatever comes in. -/
theorem pubspec_walk (z : Int) (A : Option Addr) (n c : Nat) (l : List UInt8) (w : World) (h : BS w A n c l) (hT : Tabs w) :
    Calls Tryd.prog 15 #[.int .i64 z, .slice A n c] w fun e w' => e = .returned (.bool true) ∧ Below w.heap.size w w' := by
  by_cases hn : n ≤ 1000
  · exact pubspec_yes z A n c l w h hn hT
  · exact pubspec_no z A n c w (by omega) hT
end Go.Proofs.YtedokiemlkccaaaDoor
