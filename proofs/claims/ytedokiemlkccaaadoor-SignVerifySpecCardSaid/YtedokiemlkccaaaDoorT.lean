/- The examples of chapter 4. -/
import Derived.Test.YtedokiemlkccaaaDoorO
import Derived.Outline
namespace Go.Proofs.YtedokiemlkccaaaDoor
open Go.RowKit
theorem bs_nil (w : World) : BS w none 0 0 [] := ⟨rfl, Nat.le_refl _, by omega, fun _ => rfl, fun h => absurd h (by omega)⟩
theorem bs_seven (W : World) : BS (W.alloc (.cells #[.int .u8 7] 5)) (some ⟨W.heap.size, 0, none⟩) 1 1 [7] :=
  ⟨rfl, by omega, by omega, fun e => (by cases e), fun _ => ⟨_, 0, rfl, ⟨fun i hi => by
    have : i = 0 := by simp at hi; omega
    subst this
    exact cell_of_row _ _ 0 _ 5 (0, 0) (heap_new W _), fun _ => by simp⟩⟩⟩
theorem key1 : keyB 1 = true := decide_eq_true ⟨by omega, by omega⟩
theorem key0 : keyB 0 = false := decide_eq_false (fun h => by omega)
theorem keyQ : keyB 2305843009213688669 = false := decide_eq_false (fun h => by omega)
theorem pub1 (W : World) : Calls Tryd.prog 23 #[.int .i64 1] W fun e w' => e = .returned (.tuple #[.int .i64 4, .int .i64 0]) ∧ Below W.heap.size W w' := by
  have := public_yes 1 W key1
  rwa [exp_one e4] at this
theorem elem0 : elemB 0 = false := decide_eq_false (fun h => by omega)
theorem ver0 (W : World) (hT : Tabs W) : Calls Tryd.prog 63 #[.int .i64 0, .slice none 0 0, .agg #[.int .i64 0, .int .i64 0]] W fun e w' => e = .returned (.bool false) ∧ Below W.heap.size W w' := by
  have := verify_any 0 0 0 none 0 0 [] W (bs_nil W) (by omega) hT
  rwa [show verV 0 0 0 [] = false by unfold verV; rw [elem0]; rfl] at this
theorem ver4 (W : World) (hT : Tabs W) : Calls Tryd.prog 63 #[.int .i64 4, .slice none 0 0, .agg #[.int .i64 4, .int .i64 2305843009213688669]] W fun e w' => e = .returned (.bool false) ∧ Below W.heap.size W w' := by
  have := verify_any 4 4 2305843009213688669 none 0 0 [] W (bs_nil W) (by omega) hT
  rwa [show verV 4 4 2305843009213688669 [] = false by unfold verV; rw [scalB_false (by omega), Bool.and_false, Bool.false_and]] at this
set_option maxRecDepth 100000 in
set_option maxHeartbeats 4000000 in
theorem sane04_any (w : World) (hT : Tabs w) : Calls Tryd.prog 21 #[] w fun e w' => e = .returned (.bool true) ∧ Below w.heap.size w w' := by
  obtain ⟨hk1, hp1, hR1, hc1, hS1⟩ := sig_ok key1 [7]
  clear hk1 hc1
  have hv1 := ver_sign key1 [7]
  rw [exp_one e4] at hv1
  have cs := fun (W : World) (A : Option Addr) (hb : Below w.heap.size w W) (h : BS W A 1 1 [7]) => sign_yes 1 A 1 1 [7] W key1 h (by omega) (hT.ext hb)
  obtain ⟨R, hR⟩ : ∃ R, sigR 1 [7] = R := ⟨_, rfl⟩
  obtain ⟨S, hS⟩ : ∃ S, sigS 1 [7] = S := ⟨_, rfl⟩
  rw [hR] at hv1 hR1
  rw [hS] at hv1
  simp only [hR, hS] at cs
  have hR0 : (0 : Int) < R := by have := elemB_true hR1; omega
  have cv := fun (W : World) (A : Option Addr) (hb : Below w.heap.size w W) (h : BS W A 1 1 [7]) => verify_any 4 R S A 1 1 [7] W h (by omega) (hT.ext hb)
  simp only [hv1] at cv
  have cp := fun (W : World) (hb : Below w.heap.size w W) => private_any (List.replicate 32 0) [] 0 W rfl (by simp) (hT.ext hb)
  have hpb : 1 ≤ privV (List.replicate 32 0) [] 0 ∧ privV (List.replicate 32 0) [] 0 < 2305843009213688669 := by
    have := scalN_pos (tagB privS (List.replicate 32 0 ++ numB 0 ++ []))
    unfold privV
    omega
  obtain ⟨pv, hpv⟩ : ∃ pv, privV (List.replicate 32 0) [] 0 = pv := ⟨_, rfl⟩
  rw [hpv] at hpb
  simp only [hpv] at cp
  have p1 : ¬ pv < 1 := by omega
  have p2 : ¬ (2305843009213688669 : Int) ≤ pv := by omega
  have CS := Lib.hid cs
  have CV := Lib.hid cv
  have CP := Lib.hid cp
  have HT := Lib.hid hT
  clear cs cv cp hT hpb hpv hv1 hR1 hR hS hp1 hS1
  go_enter Tryd.func21, Tryd.ntmps21
  go_wp2_with fail
  refine (pub1 _).mono ?_
  rintro e w1 ⟨rfl, b1⟩
  go_wp2_with fail
  refine (public_no 0 _ key0).mono ?_
  rintro e w2 ⟨rfl, b2⟩
  have b2 := bl b1 b2
  go_wp2_with fail
  refine (public_no _ _ keyQ).mono ?_
  rintro e w3 ⟨rfl, b3⟩
  have b3 := bl b2 b3
  go_wp2_with fail
  refine (sign_no 0 none 0 0 _ key0).mono ?_
  rintro e w4 ⟨rfl, b4⟩
  have b4 := bl b3 b4
  go_wp2_with fail
  have b5 : Below w.heap.size w (w4.alloc (.cells #[.int .i64 0, .int .i64 0] 29)) := b4.alloc b4.size _
  have z5 : (w4.alloc (.cells #[.int .i64 0, .int .i64 0] 29)).heap.size = w4.heap.size + 1 := by simp
  generalize w4.alloc (.cells #[.int .i64 0, .int .i64 0] 29) = w5 at b5 z5 ⊢
  have s5 := bs_seven w5
  rw [z5] at s5
  have b6 := b5.alloc b5.size (.cells #[.int .u8 7] 5)
  refine (CS.out _ _ b6 s5).mono ?_
  rintro e w6 ⟨rfl, c6⟩
  have b6 := bl b6 c6
  clear s5 b5 c6
  go_upto_region 6 with fail
  have hA : Blk (w6.alloc (.cells #[.int .i64 R, .int .i64 S] 29)) w6.heap.size 29 #[.int .i64 R, .int .i64 S] := Blk.new _ _ _
  have b7 := b6.alloc b6.size (.cells #[.int .i64 R, .int .i64 S] 29)
  have z7 : (w6.alloc (.cells #[.int .i64 R, .int .i64 S] 29)).heap.size = w6.heap.size + 1 := by simp
  generalize w6.alloc (.cells #[.int .i64 R, .int .i64 S] 29) = w7 at hA b7 z7 ⊢
  go_wp2_with fail
  have s7 := bs_seven w7
  rw [z7] at s7
  have b8 := b7.alloc b7.size (.cells #[.int .u8 7] 5)
  have hA8 := hA.alloc (.cells #[.int .u8 7] 5)
  refine (CS.out _ _ b8 s7).mono ?_
  rintro e w8 ⟨rfl, c8⟩
  have hA9 := hA8.below c8 hA8.lt
  have b9 := bl b8 c8
  clear s7 b7 c8 hA8 hA b8
  go_upto_region 7 with fail
  have hB : Blk (w8.alloc (.cells #[.int .i64 R, .int .i64 S] 29)) w8.heap.size 29 #[.int .i64 R, .int .i64 S] := Blk.new _ _ _
  have hA10 := hA9.alloc (.cells #[.int .i64 R, .int .i64 S] 29)
  have b10 := b9.alloc b9.size (.cells #[.int .i64 R, .int .i64 S] 29)
  generalize w8.alloc (.cells #[.int .i64 R, .int .i64 S] 29) = w10 at hA10 hB b10 ⊢
  obtain ⟨g1, hg1⟩ : ∃ g, w6.heap.size = g := ⟨_, rfl⟩
  obtain ⟨g2, hg2⟩ : ∃ g, w8.heap.size = g := ⟨_, rfl⟩
  rw [hg1] at hA10 ⊢
  rw [hg2] at hB ⊢
  clear hA9 b9 hg1 hg2
  go_wp2_with fail
  refine (CP.out _ b10).mono ?_
  rintro e w11 ⟨rfl, c11⟩
  have hA11 := hA10.below c11 hA10.lt
  have hB11 := hB.below c11 hB.lt
  have b11 := bl b10 c11
  have a0 := hA11.cell 0
  have a1 := hA11.cell 1
  have d0 := hB11.cell 0
  have d1 := hB11.cell 1
  clear hA10 hB b10
  go_wp2_with fail
  refine (ver0 _ ((HT.out).ext b11)).mono ?_
  rintro e w12 ⟨rfl, c12⟩
  have b12 := bl b11 c12
  have hB12 := hB11.below c12 hB11.lt
  have d0 := hB12.cell 0
  have d1 := hB12.cell 1
  have hA12 := hA11.below c12 hA11.lt
  have a0 := hA12.cell 0
  have a1 := hA12.cell 1
  clear hB11 hA11 b11
  go_wp2_with fail
  refine (ver4 _ ((HT.out).ext b12)).mono ?_
  rintro e w13 ⟨rfl, c13⟩
  have b13 := bl b12 c13
  have hB13 := hB12.below c13 hB12.lt
  have d0 := hB13.cell 0
  have d1 := hB13.cell 1
  have hA13 := hA12.below c13 hA12.lt
  have a0 := hA13.cell 0
  have a1 := hA13.cell 1
  have hA14 := hA13.alloc (.cells #[.int .u8 7] 5)
  have a0 := hA14.cell 0
  have a1 := hA14.cell 1
  clear hB12 hA12 b12
  go_wp2_with fail
  have s14 := bs_seven w13
  have b14 := b13.alloc b13.size (.cells #[.int .u8 7] 5)
  refine (CV.out _ _ b14 s14).mono ?_
  rintro e w15 ⟨rfl, c15⟩
  go_wp2_with fail
  go_ret
  exact ⟨by simp, bl b14 c15⟩
end Go.Proofs.YtedokiemlkccaaaDoor
