/- The walk of the reference's Rest and Scalar, and of GroupScalarsSpec. -/
import Derived.Test.YtedokiemlkccaaaDoorRT
import Derived.Test.YtedokiemlkccaaaDoorH
namespace Go.Proofs.YtedokiemlkccaaaDoor
open Go.RowKit
theorem r03sum_any (a b : Int) (w : World) : Calls Tryd.prog 33 #[.int .i64 a, .int .i64 b] w fun e w' => e = .returned (.tuple #[.int .i64 (sumV a b), .int .i64 (scalE a b)]) ∧ w = w' := by
  have c1 := fun W => rscal_any a W
  have c2 := fun W => rscal_any b W
  cases ha : scalB a
  · rw [ha] at c1
    have e1 : sumV a b = 0 := by unfold sumV; rw [ha]; rfl
    have e2 : scalE a b = 1 := by unfold scalE; rw [ha]; rfl
    rw [e1, e2]
    have C1 := Lib.hid c1
    clear c1 c2 e1 e2 ha
    go_enter Tryd.func33, Tryd.ntmps33
    go_wp2_with fail
    refine (C1.out _).mono ?_
    rintro e w1 ⟨rfl, rfl⟩
    go_wp2_with fail
    go_ret2
    exact ⟨rfl, rfl⟩
  · cases hb : scalB b
    · rw [ha] at c1
      rw [hb] at c2
      have e1 : sumV a b = 0 := by unfold sumV; rw [hb, Bool.and_false]; rfl
      have e2 : scalE a b = 1 := by unfold scalE; rw [hb, Bool.and_false]; rfl
      rw [e1, e2]
      have C1 := Lib.hid c1
      have C2 := Lib.hid c2
      clear c1 c2 e1 e2 ha hb
      go_enter Tryd.func33, Tryd.ntmps33
      go_wp2_with fail
      refine (C1.out _).mono ?_
      rintro e w1 ⟨rfl, rfl⟩
      go_wp2_with fail
      refine (C2.out _).mono ?_
      rintro e w1 ⟨rfl, rfl⟩
      go_wp2_with fail
      go_ret2
      exact ⟨rfl, rfl⟩
    · rw [ha] at c1
      rw [hb] at c2
      have e1 := (sum_scal ha hb).2
      have a1 := scalB_true ha
      have b1 := scalB_true hb
      have c3 := fun W => sum_any a b 2305843009213688669 W a1.1 a1.2 b1.1 b1.2 (by omega)
      rw [e1.1, e1.2]
      have C1 := Lib.hid c1
      have C2 := Lib.hid c2
      have C3 := Lib.hid c3
      clear c1 c2 c3 e1 ha hb a1 b1
      go_enter Tryd.func33, Tryd.ntmps33
      go_wp2_with fail
      refine (C1.out _).mono ?_
      rintro e w1 ⟨rfl, rfl⟩
      go_wp2_with fail
      refine (C2.out _).mono ?_
      rintro e w1 ⟨rfl, rfl⟩
      go_wp2_with fail
      refine (C3.out _).mono ?_
      rintro e w1 ⟨rfl, rfl⟩
      go_wp2_with fail
      go_ret2
      exact ⟨rfl, rfl⟩
theorem r03prod_any (a b : Int) (w : World) : Calls Tryd.prog 34 #[.int .i64 a, .int .i64 b] w fun e w' => e = .returned (.tuple #[.int .i64 (prodV a b), .int .i64 (scalE a b)]) ∧ w = w' := by
  have c1 := fun W => rscal_any a W
  have c2 := fun W => rscal_any b W
  cases ha : scalB a
  · rw [ha] at c1
    have e1 : prodV a b = 0 := by unfold prodV; rw [ha]; rfl
    have e2 : scalE a b = 1 := by unfold scalE; rw [ha]; rfl
    rw [e1, e2]
    have C1 := Lib.hid c1
    clear c1 c2 e1 e2 ha
    go_enter Tryd.func34, Tryd.ntmps34
    go_wp2_with fail
    refine (C1.out _).mono ?_
    rintro e w1 ⟨rfl, rfl⟩
    go_wp2_with fail
    go_ret2
    exact ⟨rfl, rfl⟩
  · cases hb : scalB b
    · rw [ha] at c1
      rw [hb] at c2
      have e1 : prodV a b = 0 := by unfold prodV; rw [hb, Bool.and_false]; rfl
      have e2 : scalE a b = 1 := by unfold scalE; rw [hb, Bool.and_false]; rfl
      rw [e1, e2]
      have C1 := Lib.hid c1
      have C2 := Lib.hid c2
      clear c1 c2 e1 e2 ha hb
      go_enter Tryd.func34, Tryd.ntmps34
      go_wp2_with fail
      refine (C1.out _).mono ?_
      rintro e w1 ⟨rfl, rfl⟩
      go_wp2_with fail
      refine (C2.out _).mono ?_
      rintro e w1 ⟨rfl, rfl⟩
      go_wp2_with fail
      go_ret2
      exact ⟨rfl, rfl⟩
    · rw [ha] at c1
      rw [hb] at c2
      have e1 := (prod_scal ha hb).2
      have a1 := scalB_true ha
      have b1 := scalB_true hb
      have c3 := fun W => modular_any a b 2305843009213688669 W a1.1 a1.2 b1.1 (by omega) (by omega)
      rw [e1.1, e1.2]
      have C1 := Lib.hid c1
      have C2 := Lib.hid c2
      have C3 := Lib.hid c3
      clear c1 c2 c3 e1 ha hb a1 b1
      go_enter Tryd.func34, Tryd.ntmps34
      go_wp2_with fail
      refine (C1.out _).mono ?_
      rintro e w1 ⟨rfl, rfl⟩
      go_wp2_with fail
      refine (C2.out _).mono ?_
      rintro e w1 ⟨rfl, rfl⟩
      go_wp2_with fail
      refine (C3.out _).mono ?_
      rintro e w1 ⟨rfl, rfl⟩
      go_wp2_with fail
      go_ret2
      exact ⟨rfl, rfl⟩
set_option maxRecDepth 100000 in
/-- sizarref03.Rest. -/
theorem rrest_any (l : List UInt8) (w : World) (hl : l.length = 32) :
    Calls Tryd.prog 76 #[.agg (u8s l).toArray, .int .i64 2305843009213688668] w fun e w' => e = .returned (.int .i64 (restN 2305843009213688668 l 0 : Nat)) ∧ Below w.heap.size w w' := by
  obtain ⟨ar, har⟩ : ∃ ar, (u8s l).toArray = ar := ⟨_, rfl⟩
  have HAR := Lib.hid har
  rw [har]
  clear har
  go_enter Tryd.func76, Tryd.ntmps76
  go_upto_region 1 with fail
  have ha : Blk (w.alloc (.cells ar 41)) w.heap.size 41 (u8s l).toArray := by rw [HAR.out]; exact Blk.new _ _ _
  have hb1 : Below w.heap.size w (w.alloc (.cells ar 41)) := (Below.refl _ w).alloc (Nat.le_refl _) _
  generalize w.alloc (.cells ar 41) = w1 at ha hb1 ⊢
  go_wp2_with fail
  go_loopw [5, 6] (fun y x wr => ∃ i : Nat, i ≤ 32 ∧ x = .int .i64 i ∧ y = .int .i64 (restN 2305843009213688668 (l.take i) 0 : Nat) ∧ Below w.heap.size w wr ∧ Blk wr w.heap.size 41 (u8s l).toArray) (fun _ x _ => 32 - (intOf x).toNat)
  case atStart => exact ⟨0, by omega, rfl, rfl, hb1, ha⟩
  case round =>
    obtain ⟨i, hi, rfl, rfl, hB, hA⟩ := hrel
    by_cases hlt : i < 32
    · have i0 : (0 : Int) ≤ (i : Int) := by omega
      have i1 : (i : Int) < 32 := by omega
      have cl : wr.cell? ⟨w.heap.size, i, none⟩ = some (.int .u8 (bI l i)) := (hA.cell i).trans ((List.getElem?_toArray).trans (u8s_get l i (by omega)))
      have b0 := bI_lo l i
      have b1 := bI_hi l i
      have hstep := restN_take 2305843009213688668 l i (by omega)
      have hbi : ((l[i]'(by omega)).toNat : Int) = bI l i := by
        unfold bI
        rw [List.getD_eq_getElem?_getD, List.getElem?_eq_getElem (by omega)]; rfl
      have hxm := restN_lt 2305843009213688668 (by omega) (l.take i) 0 (by omega)
      obtain ⟨x, hx⟩ : ∃ x, restN 2305843009213688668 (l.take i) 0 = x := ⟨_, rfl⟩
      rw [hx] at hstep hxm ⊢
      obtain ⟨b, hb⟩ : ∃ b, bI l i = b := ⟨_, rfl⟩
      rw [hb] at cl b0 b1 hbi
      have cm := fun W => modular_any 256 (x : Int) 2305843009213688668 W (by omega) (by omega) (by omega) (by omega) (by omega)
      have hy0 : 0 ≤ (256 * (x : Int)) % 2305843009213688668 := Int.emod_nonneg _ (by omega)
      have hy1 : (256 * (x : Int)) % 2305843009213688668 < 2305843009213688668 := Int.emod_lt_of_pos _ (by omega)
      have hfin : ((restN 2305843009213688668 (l.take (i + 1)) 0 : Nat) : Int) = ((256 * (x : Int)) % 2305843009213688668 + b) % 2305843009213688668 := by
        rw [hstep, Int.natCast_emod, Int.natCast_add, hbi, Int.natCast_mul, Int.emod_add_emod, Int.mul_comm]; rfl
      obtain ⟨y, hy⟩ : ∃ y, (256 * (x : Int)) % 2305843009213688668 = y := ⟨_, rfl⟩
      rw [hy] at hy0 hy1 hfin
      simp only [hy] at cm
      have hw : IntKind.i64.wrap (y + b) = y + b := by rw [IntWalk.i64_in _ (by omega)]
      have ht : (y + b).tmod 2305843009213688668 = (y + b) % 2305843009213688668 := Int.tmod_eq_emod_of_nonneg (by omega)
      have hr0 : 0 ≤ (y + b) % 2305843009213688668 := Int.emod_nonneg _ (by omega)
      have hr1 : (y + b) % 2305843009213688668 < 2305843009213688668 := Int.emod_lt_of_pos _ (by omega)
      have CM := Lib.hid cm
      have HF := Lib.hid hfin
      clear cm hfin hy hx hb hbi hstep hxm
      go_upto_region 5 with fail
      go_quiet ((go_at_call 75; exact Calls.quiet_of_same (quietly (CM.out _))))
      have hB2 := below_dr hB nq
      have hA2 := hA.drewN nq
      clear hA hB cl
      go_wp2_with fail
      go_roundw
      case rel => exact ⟨i + 1, by omega, by go_num, by rw [HF.out], hB2, hA2⟩
      case measure => simp [intOf]; omega
    · obtain rfl : i = 32 := by omega
      rw [show ((32 : Nat) : Int) = 32 from rfl, List.take_of_length_le (by omega)]
      go_wp2_with fail
      go_ret
      exact ⟨rfl, hB⟩
/-- sizarref03.Scalar. -/
theorem rscalar_any (tag : List UInt8) (A : Option Addr) (n c : Nat) (l : List UInt8) (w : World) (ht : tag.length ≤ 100000) (h : BS w A n c l) (hn : n ≤ 100000) :
    Calls Tryd.prog 35 #[.string ⟨tag.toArray⟩, .slice A n c] w fun e w' => e = .returned (.int .i64 (scalN (tagB tag l))) ∧ Below w.heap.size w w' := by
  have ct := rtagged_any tag A n c l w ht h hn
  have cr := fun W => rrest_any (tagB tag l) W (tagB_length _ _)
  have hp := scalN_pos (tagB tag l)
  have hq : ((scalN (tagB tag l) : Nat) : Int) = 1 + (restN 2305843009213688668 (tagB tag l) 0 : Nat) := by unfold scalN; omega
  obtain ⟨r, hr⟩ : ∃ r, restN 2305843009213688668 (tagB tag l) 0 = r := ⟨_, rfl⟩
  simp only [hr] at cr
  rw [hr] at hq
  have hr0 : (0 : Int) ≤ r := by omega
  have hr1 : (r : Int) < 2305843009213688668 := by omega
  rw [hq]
  have CT := Lib.hid ct; have CR := Lib.hid cr
  clear ct cr hp hq hr
  go_enter Tryd.func35, Tryd.ntmps35
  go_wp2_with fail
  refine CT.out.mono ?_
  rintro e w1 ⟨rfl, hb1⟩
  go_wp2_with fail
  refine (CR.out _).mono ?_
  rintro e w2 ⟨rfl, hb2⟩
  go_wp2_with fail
  go_ret
  exact ⟨rfl, bl hb1 hb2⟩
set_option maxRecDepth 100000 in
theorem gscal_yes (a b : Int) (tag : List UInt8) (A : Option Addr) (n c : Nat) (l : List UInt8) (w : World) (ht : tag.length ≤ 300) (h : BS w A n c l) (hn : n ≤ 1000) (hT : Tabs w) :
    Calls Tryd.prog 4 #[.int .i64 a, .int .i64 b, .string ⟨tag.toArray⟩, .slice A n c] w fun e w' => e = .returned (.bool true) ∧ Below w.heap.size w w' := by
  have t1 : ¬ (300 : Int) < (tag.length : Int) := by omega
  have t2 : ¬ (1000 : Int) < (n : Int) := by omega
  have C0 := Lib.hid (sane_any w)
  have c1 := fun W => gsum_any a b W
  have c2 := fun W => r03sum_any a b W
  have c3 := fun W => gprod_any a b W
  have c4 := fun W => r03prod_any a b W
  have c5 := fun (W : World) (hb : Below w.heap.size w W) => scalar_any tag A n c l W (by omega) (h.below hb) (by omega) (hT.ext hb)
  have c6 := fun (W : World) (hb : Below w.heap.size w W) => rscalar_any tag A n c l W (by omega) (h.below hb) (by omega)
  obtain ⟨S, hS⟩ : ∃ x, sumV a b = x := ⟨_, rfl⟩
  obtain ⟨P, hP⟩ : ∃ x, prodV a b = x := ⟨_, rfl⟩
  obtain ⟨E, hE⟩ : ∃ x, scalE a b = x := ⟨_, rfl⟩
  obtain ⟨K, hK⟩ : ∃ x : Int, ((scalN (tagB tag l) : Nat) : Int) = x := ⟨_, rfl⟩
  simp only [hS, hE] at c1 c2
  simp only [hP, hE] at c3 c4
  simp only [hK] at c5 c6
  have C1 := Lib.hid c1; have C2 := Lib.hid c2; have C3 := Lib.hid c3; have C4 := Lib.hid c4; have C5 := Lib.hid c5; have C6 := Lib.hid c6
  clear c1 c2 c3 c4 c5 c6 hS hP hE hK h hT ht
  go_enter Tryd.func4, Tryd.ntmps4
  go_wp2_with fail
  refine C0.out.mono ?_
  rintro e w1 ⟨rfl, b1⟩
  go_wp2_with fail
  refine (C1.out _).mono ?_
  rintro e w2 ⟨rfl, b2⟩
  have b2 := bl b1 b2
  go_wp2_with fail
  refine (C2.out _).mono ?_
  rintro e w3 ⟨rfl, rfl⟩
  go_wp2_with fail
  refine (C3.out _).mono ?_
  rintro e w3 ⟨rfl, b3⟩
  have b3 := bl b2 b3
  go_wp2_with fail
  refine (C4.out _).mono ?_
  rintro e w4 ⟨rfl, rfl⟩
  go_wp2_with fail
  refine (C5.out _ b3).mono ?_
  rintro e w5 ⟨rfl, b5⟩
  have b5 := bl b3 b5
  go_wp2_with fail
  refine (C6.out _ b5).mono ?_
  rintro e w6 ⟨rfl, b6⟩
  have b6 := bl b5 b6
  go_wp2_with fail
  go_ret
  exact ⟨by simp, b6⟩
theorem gscal_no1 (a b : Int) (tag : List UInt8) (A : Option Addr) (n c : Nat) (w : World) (ht : 300 < tag.length) :
    Calls Tryd.prog 4 #[.int .i64 a, .int .i64 b, .string ⟨tag.toArray⟩, .slice A n c] w fun e w' => e = .returned (.bool true) ∧ Below w.heap.size w w' := by
  have t1 : (300 : Int) < (tag.length : Int) := by omega
  have C0 := Lib.hid (sane_any w)
  clear ht
  go_enter Tryd.func4, Tryd.ntmps4
  go_wp2_with fail
  refine C0.out.mono ?_
  rintro e w1 ⟨rfl, b1⟩
  go_wp2_with fail
  go_ret
  exact ⟨rfl, b1⟩
theorem gscal_no2 (a b : Int) (tag : List UInt8) (A : Option Addr) (n c : Nat) (w : World) (ht : tag.length ≤ 300) (hn : 1000 < n) :
    Calls Tryd.prog 4 #[.int .i64 a, .int .i64 b, .string ⟨tag.toArray⟩, .slice A n c] w fun e w' => e = .returned (.bool true) ∧ Below w.heap.size w w' := by
  have t1 : ¬ (300 : Int) < (tag.length : Int) := by omega
  have t2 : (1000 : Int) < (n : Int) := by omega
  have C0 := Lib.hid (sane_any w)
  clear ht hn
  go_enter Tryd.func4, Tryd.ntmps4
  go_wp2_with fail
  refine C0.out.mono ?_
  rintro e w1 ⟨rfl, b1⟩
  go_wp2_with fail
  go_ret
  exact ⟨rfl, b1⟩
/-- GroupScalarsSpec, of whatever comes in. -/
theorem gscal_walk (a b : Int) (tag : List UInt8) (A : Option Addr) (n c : Nat) (l : List UInt8) (w : World) (h : BS w A n c l) (hT : Tabs w) :
    Calls Tryd.prog 4 #[.int .i64 a, .int .i64 b, .string ⟨tag.toArray⟩, .slice A n c] w fun e w' => e = .returned (.bool true) ∧ Below w.heap.size w w' := by
  by_cases ht : tag.length ≤ 300
  · by_cases hn : n ≤ 1000
    · exact gscal_yes a b tag A n c l w ht h hn hT
    · exact gscal_no2 a b tag A n c w ht (by omega)
  · exact gscal_no1 a b tag A n c w (by omega)
end Go.Proofs.YtedokiemlkccaaaDoor
