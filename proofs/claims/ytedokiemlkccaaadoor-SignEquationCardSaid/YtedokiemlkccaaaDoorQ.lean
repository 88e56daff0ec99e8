/- The walks of SignDifference and SignEquation. -/
import Derived.Test.YtedokiemlkccaaaDoorY
import Derived.Outline
import Derived.Deep.RegionHeld3
namespace Go.Proofs.YtedokiemlkccaaaDoor
open Go.RowKit
theorem poly_eq (k1 k2 c1 c2 x q : Int) : k1 + c1 * x + q * (k2 + c2 * x) = k1 + k2 * q + x * (c1 + q * c2) := by grind
theorem diff_scal {k1 k2 c1 c2 x : Int} (h1 : scalB k1 = true) (h2 : scalB k2 = true) (h3 : scalB c1 = true) (h4 : scalB c2 = true) (h5 : scalB x = true) :
    sumV (sumV k1 (prodV c1 x)) (prodV 2305843009213688668 (sumV k2 (prodV c2 x))) = sumV (sumV k1 (prodV k2 2305843009213688668)) (prodV x (sumV c1 (prodV 2305843009213688668 c2))) := by
  have hq : scalB 2305843009213688668 = true := scalB_mk (by omega)
  have p1 := prod_scal h3 h5
  have p2 := prod_scal h4 h5
  have s1 := sum_scal h1 p1.1
  have s2 := sum_scal h2 p2.1
  have p3 := prod_scal hq s2.1
  have p4 := prod_scal h2 hq
  have s3 := sum_scal h1 p4.1
  have p5 := prod_scal hq h4
  have s4 := sum_scal h3 p5.1
  have p6 := prod_scal h5 s4.1
  rw [(sum_scal s1.1 p3.1).2.1, (sum_scal s3.1 p6.1).2.1, s1.2.1, p3.2.1, s2.2.1, s3.2.1, p6.2.1, s4.2.1, p1.2.1, p2.2.1, p4.2.1, p5.2.1]
  simp only [modq_r, Int.emod_add_emod, Int.add_emod_emod]
  exact congrArg (· % 2305843009213688669) (poly_eq k1 k2 c1 c2 x 2305843009213688668)
/-- the power with a difference of second parts. -/
theorem diff_eq {k1 k2 c1 c2 x : Int} (h1 : scalB k1 = true) (h2 : scalB k2 = true) (h3 : scalB c1 = true) (h4 : scalB c2 = true) (h5 : scalB x = true) :
    expV 4 (sumV (sumV k1 (prodV c1 x)) (prodV 2305843009213688668 (sumV k2 (prodV c2 x)))) =
      mulV (mulV (expV 4 k1) (expV (expV 4 k2) 2305843009213688668)) (expV (expV 4 x) (sumV c1 (prodV 2305843009213688668 c2))) := by
  have hq : scalB 2305843009213688668 = true := scalB_mk (by omega)
  have p4 := prod_scal h2 hq
  have s3 := sum_scal h1 p4.1
  have s4 := sum_scal h3 (prod_scal hq h4).1
  have p6 := prod_scal h5 s4.1
  rw [diff_scal h1 h2 h3 h4 h5, ← exp_sum e4 s3.1 p6.1, ← exp_sum e4 h1 p4.1, exp_prod e4 h2 hq, exp_prod e4 h5 s4.1]
/-- what is held of two signatures' blocks while a region runs. -/
def Two (w W : World) (g g2 : Nat) (R1 S1 R2 S2 : Int) : Prop := W.cell? ⟨g, 0, none⟩ = some (.int .i64 R1) ∧ W.cell? ⟨g2, 0, none⟩ = some (.int .i64 R2) ∧ Below w.heap.size w W ∧ Blk W g 29 #[.int .i64 R1, .int .i64 S1] ∧ Blk W g2 29 #[.int .i64 R2, .int .i64 S2]
theorem two_next {w W W' : World} {g g2 : Nat} {R1 S1 R2 S2 : Int} (h : W.cell? ⟨g, 0, none⟩ = some (.int .i64 R1) ∧ W.cell? ⟨g2, 0, none⟩ = some (.int .i64 R2) ∧ Below w.heap.size w W ∧ Blk W g 29 #[.int .i64 R1, .int .i64 S1] ∧ Blk W g2 29 #[.int .i64 R2, .int .i64 S2]) (b : Below W.heap.size W W') :
    W'.cell? ⟨g, 0, none⟩ = some (.int .i64 R1) ∧ W'.cell? ⟨g2, 0, none⟩ = some (.int .i64 R2) ∧ Below w.heap.size w W' ∧ Blk W' g 29 #[.int .i64 R1, .int .i64 S1] ∧ Blk W' g2 29 #[.int .i64 R2, .int .i64 S2] := by
  have h1 := h.2.2.2.1.below b h.2.2.2.1.lt
  have h2 := h.2.2.2.2.below b h.2.2.2.2.lt
  exact ⟨h1.cell 0, h2.cell 0, bl h.2.2.1 b, h1, h2⟩
theorem two_mid {w W : World} {g g2 : Nat} {R1 S1 R2 S2 : Int} (h : W.cell? ⟨g, 0, none⟩ = some (.int .i64 R1) ∧ W.cell? ⟨g2, 0, none⟩ = some (.int .i64 R2) ∧ Below w.heap.size w W ∧ Blk W g 29 #[.int .i64 R1, .int .i64 S1] ∧ Blk W g2 29 #[.int .i64 R2, .int .i64 S2]) : Below w.heap.size w W := h.2.2.1
set_option maxRecDepth 100000 in
set_option maxHeartbeats 4000000 in
theorem diff_yes (z : Int) (A1 A2 : Option Addr) (n1 c1 n2 c2 : Nat) (l1 l2 : List UInt8) (w : World) (hn1 : n1 ≤ 1000) (hn2 : n2 ≤ 1000) (h1 : BS w A1 n1 c1 l1) (h2 : BS w A2 n2 c2 l2) (hT : Tabs w) :
    Calls Tryd.prog 5 #[.int .i64 z, .slice A1 n1 c1, .slice A2 n2 c2] w fun e w' => e = .returned (.bool true) ∧ Below w.heap.size w w' := by
  have t1 : ¬ (1000 : Int) < (n1 : Int) := by omega
  have t2 : ¬ (1000 : Int) < (n2 : Int) := by omega
  have hx := keyV_key z
  obtain ⟨x, hxe⟩ : ∃ x, keyV z = x := ⟨_, rfl⟩
  have C0 := Lib.hid (sane04_any w hT)
  have CK := Lib.hid fun W => key_yes z x hxe W
  rw [hxe] at hx
  obtain ⟨hk1, hp, hR1, hc1, hS1⟩ := sig_ok hx l1
  obtain ⟨hk2, hp2, hR2, hc2, hS2⟩ := sig_ok hx l2
  have cs1 := fun (W : World) (hb : Below w.heap.size w W) => sign_yes x A1 n1 c1 l1 W hx (h1.below hb) hn1 (hT.ext hb)
  have cs2 := fun (W : World) (hb : Below w.heap.size w W) => sign_yes x A2 n2 c2 l2 W hx (h2.below hb) hn2 (hT.ext hb)
  have cP := fun W => public_yes x W hx
  have cC1 := fun (W : World) (hb : Below w.heap.size w W) => challenge_any (expV 4 x) (sigR x l1) A1 n1 c1 l1 W (h1.below hb) hn1 (hT.ext hb)
  have cC2 := fun (W : World) (hb : Below w.heap.size w W) => challenge_any (expV 4 x) (sigR x l2) A2 n2 c2 l2 W (h2.below hb) hn2 (hT.ext hb)
  have e1 : sigS x l1 = sumV (nonceV x l1) (prodV (chV (expV 4 x) (sigR x l1) l1) x) := by unfold sigS; exact rfl
  have e2 : sigS x l2 = sumV (nonceV x l2) (prodV (chV (expV 4 x) (sigR x l2) l2) x) := by unfold sigS; exact rfl
  have r1 : sigR x l1 = expV 4 (nonceV x l1) := by unfold sigR; exact rfl
  have r2 : sigR x l2 = expV 4 (nonceV x l2) := by unfold sigR; exact rfl
  have de := diff_eq hk1 hk2 hc1 hc2 (key_scal hx)
  rw [← e1, ← e2, ← r1, ← r2] at de
  obtain ⟨p, hpe⟩ : ∃ p, expV 4 x = p := ⟨_, rfl⟩
  obtain ⟨R1, hR1e⟩ : ∃ R, sigR x l1 = R := ⟨_, rfl⟩
  obtain ⟨S1, hS1e⟩ : ∃ S, sigS x l1 = S := ⟨_, rfl⟩
  obtain ⟨R2, hR2e⟩ : ∃ R, sigR x l2 = R := ⟨_, rfl⟩
  obtain ⟨S2, hS2e⟩ : ∃ S, sigS x l2 = S := ⟨_, rfl⟩
  rw [hpe, hR1e] at hc1
  rw [hpe, hR2e] at hc2
  rw [hpe, hR1e, hR2e, hS1e, hS2e] at de
  rw [hpe] at hp
  rw [hR1e] at hR1
  rw [hR2e] at hR2
  rw [hS1e] at hS1
  rw [hS2e] at hS2
  simp only [hpe, hR1e] at cC1
  simp only [hpe, hR2e] at cC2
  simp only [hR1e, hS1e] at cs1
  simp only [hR2e, hS2e] at cs2
  simp only [hpe] at cP
  obtain ⟨ch1, hch1⟩ : ∃ ch, chV p R1 l1 = ch := ⟨_, rfl⟩
  obtain ⟨ch2, hch2⟩ : ∃ ch, chV p R2 l2 = ch := ⟨_, rfl⟩
  rw [hch1] at hc1 de
  rw [hch2] at hc2 de
  simp only [hch1] at cC1
  simp only [hch2] at cC2
  have hq : scalB 2305843009213688668 = true := scalB_mk (by omega)
  have hd := sum_scal hS1 (prod_scal hq hS2).1
  have hc := sum_scal hc1 (prod_scal hq hc2).1
  have hi := inv_elem hR2
  have hr := mul_elem' hR1 hi.1
  have cM1 := fun W => minus_any S1 S2 W hS1 hS2
  have cM2 := fun W => minus_any ch1 ch2 W hc1 hc2
  have cI := fun W => inv_el hR2 W
  have cU1 := fun W => mul_el hR1 hi.1 W
  obtain ⟨d, hde⟩ : ∃ d, sumV S1 (prodV 2305843009213688668 S2) = d := ⟨_, rfl⟩
  obtain ⟨c, hce⟩ : ∃ d, sumV ch1 (prodV 2305843009213688668 ch2) = d := ⟨_, rfl⟩
  obtain ⟨iv, hie⟩ : ∃ d, expV R2 2305843009213688668 = d := ⟨_, rfl⟩
  rw [hie] at hr de
  simp only [hie] at cI cU1
  obtain ⟨r, hre⟩ : ∃ d, mulV R1 iv = d := ⟨_, rfl⟩
  simp only [hre] at cU1
  rw [hre] at hr de
  rw [hde] at hd de
  rw [hce] at hc de
  simp only [hde] at cM1
  simp only [hce] at cM2
  have hP := exp_elem hp hc.1
  have cE := fun W => exp_el hp hc.1 W
  have cB := fun W => base_yes hd.1 W
  obtain ⟨P, hPe⟩ : ∃ d, expV p c = d := ⟨_, rfl⟩
  rw [hPe] at hP de
  simp only [hPe] at cE
  have cU2 := fun W => mul_el hr.1 hP.1 W
  simp only [← de] at cU2
  obtain ⟨L, hLe⟩ : ∃ L, expV 4 d = L := ⟨_, rfl⟩
  simp only [hLe] at cU2 cB
  have CS1 := Lib.hid cs1; have CS2 := Lib.hid cs2; have CP := Lib.hid cP; have CC1 := Lib.hid cC1; have CC2 := Lib.hid cC2
  have CM1 := Lib.hid cM1; have CM2 := Lib.hid cM2; have CI := Lib.hid cI; have CU1 := Lib.hid cU1; have CU2 := Lib.hid cU2; have CE := Lib.hid cE; have CB := Lib.hid cB
  clear cs1 cs2 cP cC1 cC2 cM1 cM2 cI cU1 cU2 cE cB hk1 hp hp2 hR1 hc1 hS1 hk2 hR2 hc2 hS2 e1 e2 r1 r2 de hpe hR1e hS1e hR2e hS2e hch1 hch2 hq hd hc hi hr hde hce hie hre hP hPe hLe hx hxe h1 h2 hT
  go_enter Tryd.func5, Tryd.ntmps5
  go_wp2_with fail
  refine C0.out.mono ?_
  rintro e w1 ⟨rfl, b1⟩
  go_wp2_with fail
  refine (CK.out _).mono ?_
  rintro e w2 ⟨rfl, rfl⟩
  go_wp2_with fail
  refine (CP.out _).mono ?_
  rintro e w2 ⟨rfl, b2⟩
  have b2 := bl b1 b2
  go_wp2_with fail
  refine (CS1.out _ b2).mono ?_
  rintro e w3 ⟨rfl, b3⟩
  have b3 := bl b2 b3
  go_upto_region 8 with fail
  have hA : Blk (w3.alloc (.cells #[.int .i64 R1, .int .i64 S1] 29)) w3.heap.size 29 #[.int .i64 R1, .int .i64 S1] := Blk.new _ _ _
  have b4 := b3.alloc b3.size (.cells #[.int .i64 R1, .int .i64 S1] 29)
  generalize w3.alloc (.cells #[.int .i64 R1, .int .i64 S1] 29) = w4 at hA b4 ⊢
  obtain ⟨g, hg⟩ : ∃ g, w3.heap.size = g := ⟨_, rfl⟩
  rw [hg] at hA ⊢
  clear hg b3
  go_wp2_with fail
  refine (CS2.out _ b4).mono ?_
  rintro e w5 ⟨rfl, c5⟩
  have hA := hA.below c5 hA.lt
  have b5 := bl b4 c5
  clear b4 c5
  go_upto_region 9 with fail
  have hB : Blk (w5.alloc (.cells #[.int .i64 R2, .int .i64 S2] 29)) w5.heap.size 29 #[.int .i64 R2, .int .i64 S2] := Blk.new _ _ _
  have hA := hA.alloc (.cells #[.int .i64 R2, .int .i64 S2] 29)
  have b6 := b5.alloc b5.size (.cells #[.int .i64 R2, .int .i64 S2] 29)
  generalize w5.alloc (.cells #[.int .i64 R2, .int .i64 S2] 29) = w6 at hA hB b6 ⊢
  obtain ⟨g2, hg⟩ : ∃ g, w5.heap.size = g := ⟨_, rfl⟩
  rw [hg] at hB ⊢
  clear hg b5
  have a1 := hA.cell 1
  have d1 := hB.cell 1
  go_wp2_with fail
  refine (CM1.out _).mono ?_
  rintro e w7 ⟨rfl, c7⟩
  have hA := hA.below c7 hA.lt
  have hB := hB.below c7 hB.lt
  have b7 := bl b6 c7
  clear a1 d1 b6 c7
  go_upto_region 12 with fail
  have a0 : w7.cell? ⟨g, 0, none⟩ = some (.int .i64 R1) := hA.cell 0
  have d0 : w7.cell? ⟨g2, 0, none⟩ = some (.int .i64 R2) := hB.cell 0
  go_region_held3 (fun W => W.cell? ⟨g, 0, none⟩ = some (.int .i64 R1) ∧ W.cell? ⟨g2, 0, none⟩ = some (.int .i64 R2) ∧ Below w.heap.size w W ∧ Blk W g 29 #[.int .i64 R1, .int .i64 S1] ∧ Blk W g2 29 #[.int .i64 R2, .int .i64 S2])
    (first | exact ⟨a0, d0, below_drewN b7 1, hA, hB⟩ | exact two_next (by assumption) (by assumption))
    (first
      | (go_at_call 27; refine (CM2.out _).mono ?_; rintro e w9 ⟨rfl, b9⟩)
      | ((with_reducible refine (CC1.out _ (by exact two_mid (g := g) (g2 := g2) (R1 := R1) (S1 := S1) (R2 := R2) (S2 := S2) (by assumption))).mono ?_); rintro e wx ⟨rfl, bx⟩)
      | ((with_reducible refine (CC2.out _ (by exact two_mid (g := g) (g2 := g2) (R1 := R1) (S1 := S1) (R2 := R2) (S2 := S2) (by assumption))).mono ?_); rintro e wy ⟨rfl, by_⟩))
  obtain ⟨_, _, b9, hA, hB⟩ : _ ∧ _ ∧ Below w.heap.size w w9 ∧ Blk w9 g 29 #[.int .i64 R1, .int .i64 S1] ∧ Blk w9 g2 29 #[.int .i64 R2, .int .i64 S2] := by assumption
  clear a0 d0 b7 bx by_
  have d0 : w9.cell? ⟨g2, 0, none⟩ = some (.int .i64 R2) := hB.cell 0
  go_wp2_with fail
  refine (CI.out _).mono ?_
  rintro e w10 ⟨rfl, c10⟩
  have hA := hA.below c10 hA.lt
  have b10 := bl b9 c10
  have a0 : w10.cell? ⟨g, 0, none⟩ = some (.int .i64 R1) := hA.cell 0
  clear d0 b9 c10
  go_wp2_with fail
  refine (CU1.out _).mono ?_
  rintro e w11 ⟨rfl, c11⟩
  have b11 := bl b10 c11
  clear a0 b10 c11
  go_wp2_with fail
  refine (CE.out _).mono ?_
  rintro e w12 ⟨rfl, c12⟩
  have b12 := bl b11 c12
  go_wp2_with fail
  refine (CB.out _).mono ?_
  rintro e w13 ⟨rfl, c13⟩
  have b13 := bl b12 c13
  go_wp2_with fail
  refine (CU2.out _).mono ?_
  rintro e w14 ⟨rfl, c14⟩
  have b14 := bl b13 c14
  go_wp2_with fail
  go_ret
  exact ⟨by simp, b14⟩
theorem diff_no1 (z : Int) (A1 A2 : Option Addr) (n1 c1 n2 c2 : Nat) (w : World) (hn : 1000 < n1) (hT : Tabs w) :
    Calls Tryd.prog 5 #[.int .i64 z, .slice A1 n1 c1, .slice A2 n2 c2] w fun e w' => e = .returned (.bool true) ∧ Below w.heap.size w w' := by
  have t1 : (1000 : Int) < (n1 : Int) := by omega
  have C0 := Lib.hid (sane04_any w hT)
  clear hT
  go_enter Tryd.func5, Tryd.ntmps5
  go_wp2_with fail
  refine C0.out.mono ?_
  rintro e w1 ⟨rfl, b1⟩
  go_wp2_with fail
  go_ret
  exact ⟨rfl, b1⟩
theorem diff_no2 (z : Int) (A1 A2 : Option Addr) (n1 c1 n2 c2 : Nat) (w : World) (hn1 : n1 ≤ 1000) (hn : 1000 < n2) (hT : Tabs w) :
    Calls Tryd.prog 5 #[.int .i64 z, .slice A1 n1 c1, .slice A2 n2 c2] w fun e w' => e = .returned (.bool true) ∧ Below w.heap.size w w' := by
  have t1 : ¬ (1000 : Int) < (n1 : Int) := by omega
  have t2 : (1000 : Int) < (n2 : Int) := by omega
  have C0 := Lib.hid (sane04_any w hT)
  clear hT
  go_enter Tryd.func5, Tryd.ntmps5
  go_wp2_with fail
  refine C0.out.mono ?_
  rintro e w1 ⟨rfl, b1⟩
  go_wp2_with fail
  go_ret
  exact ⟨rfl, b1⟩
/-- SignDifference, of whatever comes in. -/
theorem diff_walk (z : Int) (A1 A2 : Option Addr) (n1 c1 n2 c2 : Nat) (l1 l2 : List UInt8) (w : World) (h1 : BS w A1 n1 c1 l1) (h2 : BS w A2 n2 c2 l2) (hT : Tabs w) :
    Calls Tryd.prog 5 #[.int .i64 z, .slice A1 n1 c1, .slice A2 n2 c2] w fun e w' => e = .returned (.bool true) ∧ Below w.heap.size w w' := by
  by_cases hn1 : n1 ≤ 1000
  · by_cases hn2 : n2 ≤ 1000
    · exact diff_yes z A1 A2 n1 c1 n2 c2 l1 l2 w hn1 hn2 h1 h2 hT
    · exact diff_no2 z A1 A2 n1 c1 n2 c2 w hn1 (by omega) hT
  · exact diff_no1 z A1 A2 n1 c1 n2 c2 w (by omega) hT
theorem bool4 (a b c : Bool) : (true && a && b && c) = (b && (true && (a && c))) := by cases a <;> cases b <;> rfl
theorem ver_eqn (p R S : Int) (l : List UInt8) : verV p R S l = (expE 4 S == 0 && (expE p (chV p R l) == 0 && (mulE R (expV p (chV p R l)) == 0 && expV 4 S == mulV R (expV p (chV p R l))))) := by
  have hch : scalB (chV p R l) = true := scalN_scal _
  obtain ⟨ch, hche⟩ : ∃ ch, chV p R l = ch := ⟨_, rfl⟩
  unfold verV
  rw [hche] at hch ⊢
  have h1 : (expE 4 S == 0) = scalB S := by unfold expE; rw [e4]; cases scalB S <;> rfl
  have h2 : (expE p ch == 0) = elemB p := by unfold expE; rw [hch]; cases elemB p <;> rfl
  rw [h1, h2]
  cases hp : elemB p
  · rw [Bool.false_and, Bool.false_and, Bool.false_and, Bool.false_and, Bool.and_false]
  · have hx := (exp_elem hp hch).1
    have h3 : (mulE R (expV p ch) == 0) = elemB R := by unfold mulE; rw [errG_true hx]; cases elemB R <;> rfl
    rw [h3]
    have h4 : (expV 4 S == mulV R (expV p ch)) = decide (expV 4 S = mulV R (expV p ch)) := by
      by_cases e : expV 4 S = mulV R (expV p ch)
      · rw [decide_eq_true e, e]; simp
      · rw [decide_eq_false e]; simpa using e
    rw [h4]
    exact bool4 _ _ _
set_option maxRecDepth 100000 in
set_option maxHeartbeats 4000000 in
theorem eqn_yes (p R S : Int) (A1 : Option Addr) (n1 c1 : Nat) (l : List UInt8) (w : World) (hn : n1 ≤ 1000) (h : BS w A1 n1 c1 l) (hT : Tabs w) :
    Calls Tryd.prog 19 #[.int .i64 p, .slice A1 n1 c1, .agg #[.int .i64 R, .int .i64 S]] w fun e w' => e = .returned (.bool true) ∧ Below w.heap.size w w' := by
  have t1 : ¬ (1000 : Int) < (n1 : Int) := by omega
  have hT1 : ∀ W, Below w.heap.size w W → Tabs W := fun W hb => hT.ext hb
  have C0 := Lib.hid fun (W : World) (hb : Below w.heap.size w W) => sane04_any W (hT.ext hb)
  have cC := fun (W : World) (hb : Below w.heap.size w W) => challenge_any p R A1 n1 c1 l W (h.below hb) hn (hT.ext hb)
  have cV := fun (W : World) (hb : Below w.heap.size w W) => verify_any p R S A1 n1 c1 l W (h.below hb) hn (hT.ext hb)
  have cB := fun W => base_any S W
  have cE := fun W => exp_any p (chV p R l) W
  have cM := fun W => mul_any R (expV p (chV p R l)) W
  have hv := ver_eqn p R S l
  obtain ⟨V, hVe⟩ : ∃ V, verV p R S l = V := ⟨_, rfl⟩
  rw [hVe] at hv
  simp only [hVe] at cV
  obtain ⟨ch, hche⟩ : ∃ ch, chV p R l = ch := ⟨_, rfl⟩
  rw [hche] at hv
  simp only [hche] at cC cE cM
  obtain ⟨x, hxe⟩ : ∃ x, expV p ch = x := ⟨_, rfl⟩
  rw [hxe] at hv
  simp only [hxe] at cE cM
  obtain ⟨E, hEe⟩ : ∃ x, expE 4 S = x := ⟨_, rfl⟩
  obtain ⟨F, hFe⟩ : ∃ x, expE p ch = x := ⟨_, rfl⟩
  obtain ⟨G, hGe⟩ : ∃ y, mulE R x = y := ⟨_, rfl⟩
  obtain ⟨L, hLe⟩ : ∃ x, expV 4 S = x := ⟨_, rfl⟩
  obtain ⟨M, hMe⟩ : ∃ y, mulV R x = y := ⟨_, rfl⟩
  rw [hEe, hFe, hGe, hLe, hMe] at hv
  simp only [hEe, hLe] at cB
  simp only [hFe] at cE
  simp only [hGe, hMe] at cM
  have CC := Lib.hid cC; have CV := Lib.hid cV; have CB := Lib.hid cB; have CE := Lib.hid cE; have CM := Lib.hid cM; have HV := Lib.hid hv
  clear hT1 cC cV cB cE cM hv hVe hche hxe hEe hFe hGe hLe hMe h hT
  go_enter Tryd.func19, Tryd.ntmps19
  go_upto_region 1 with fail
  have hA : Blk (w.alloc (.cells #[.int .i64 R, .int .i64 S] 29)) w.heap.size 29 #[.int .i64 R, .int .i64 S] := Blk.new _ _ _
  have b1 : Below w.heap.size w (w.alloc (.cells #[.int .i64 R, .int .i64 S] 29)) := (Below.refl _ w).alloc (Nat.le_refl _) _
  generalize w.alloc (.cells #[.int .i64 R, .int .i64 S] 29) = w1 at hA b1 ⊢
  obtain ⟨g, hg⟩ : ∃ g, w.heap.size = g := ⟨_, rfl⟩
  rw [hg] at hA ⊢
  go_wp2_with fail
  refine (C0.out _ b1).mono ?_
  rintro e w2 ⟨rfl, c2⟩
  have hA := hA.below c2 hA.lt
  have b2 := bl b1 c2
  have a1 : w2.cell? ⟨g, 1, none⟩ = some (.int .i64 S) := hA.cell 1
  clear b1 c2
  go_wp2_with fail
  refine (CB.out _).mono ?_
  rintro e w3 ⟨rfl, c3⟩
  have hA := hA.below c3 hA.lt
  have b3 := bl b2 c3
  have a0 : w3.cell? ⟨g, 0, none⟩ = some (.int .i64 R) := hA.cell 0
  clear b2 c3 a1
  go_wp2_with fail
  refine (CC.out _ b3).mono ?_
  rintro e w4 ⟨rfl, c4⟩
  have hA := hA.below c4 hA.lt
  have b4 := bl b3 c4
  clear b3 c4 a0
  go_wp2_with fail
  refine (CE.out _).mono ?_
  rintro e w5 ⟨rfl, c5⟩
  have hA := hA.below c5 hA.lt
  have b5 := bl b4 c5
  have a0 : w5.cell? ⟨g, 0, none⟩ = some (.int .i64 R) := hA.cell 0
  clear b4 c5
  go_wp2_with fail
  refine (CM.out _).mono ?_
  rintro e w6 ⟨rfl, c6⟩
  have hA := hA.below c6 hA.lt
  have b6 := bl b5 c6
  clear b5 c6 a0
  have a0 : w6.cell? ⟨g, 0, none⟩ = some (.int .i64 R) := hA.cell 0
  have a1 : w6.cell? ⟨g, 1, none⟩ = some (.int .i64 S) := hA.cell 1
  go_wp2_with fail
  refine (CV.out _ b6).mono ?_
  rintro e w7 ⟨rfl, c7⟩
  have b7 := bl b6 c7
  go_wp2_with fail
  all_goals
    go_ret
    refine ⟨?_, b7⟩
    have hv := HV.out
    clear HV CC CV CB CE CM C0
    first
      | (subst hv; simp; done)
      | (subst hv; simp_all; done)
theorem eqn_no (p R S : Int) (A1 : Option Addr) (n1 c1 : Nat) (w : World) (hn : 1000 < n1) (hT : Tabs w) :
    Calls Tryd.prog 19 #[.int .i64 p, .slice A1 n1 c1, .agg #[.int .i64 R, .int .i64 S]] w fun e w' => e = .returned (.bool true) ∧ Below w.heap.size w w' := by
  have t1 : (1000 : Int) < (n1 : Int) := by omega
  have C0 := Lib.hid fun (W : World) (hb : Below w.heap.size w W) => sane04_any W (hT.ext hb)
  clear hT
  go_enter Tryd.func19, Tryd.ntmps19
  go_upto_region 1 with fail
  have b1 : Below w.heap.size w (w.alloc (.cells #[.int .i64 R, .int .i64 S] 29)) := (Below.refl _ w).alloc (Nat.le_refl _) _
  generalize w.alloc (.cells #[.int .i64 R, .int .i64 S] 29) = w1 at b1 ⊢
  go_wp2_with fail
  refine (C0.out _ b1).mono ?_
  rintro e w2 ⟨rfl, c2⟩
  have b2 := bl b1 c2
  go_wp2_with fail
  go_ret
  exact ⟨rfl, b2⟩
/-- SignEquation, of whatever comes in. -/
theorem eqn_walk (p R S : Int) (A1 : Option Addr) (n1 c1 : Nat) (l : List UInt8) (w : World) (h : BS w A1 n1 c1 l) (hT : Tabs w) :
    Calls Tryd.prog 19 #[.int .i64 p, .slice A1 n1 c1, .agg #[.int .i64 R, .int .i64 S]] w fun e w' => e = .returned (.bool true) ∧ Below w.heap.size w w' := by
  by_cases hn : n1 ≤ 1000
  · exact eqn_yes p R S A1 n1 c1 l w hn h hT
  · exact eqn_no p R S A1 n1 c1 w (by omega) hT
end Go.Proofs.YtedokiemlkccaaaDoor
