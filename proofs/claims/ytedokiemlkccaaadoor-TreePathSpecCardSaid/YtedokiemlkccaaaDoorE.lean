/- Elements and scalars: what products, powers, sums do. -/
import Derived.Test.YtedokiemlkccaaaDoorJ
set_option linter.all false
namespace Go.Proofs.YtedokiemlkccaaaDoor
open Go.RowKit
theorem mul_elem' {a b : Int} (ha : elemB a = true) (hb : elemB b = true) : elemB (mulV a b) = true ∧ mulE a b = 0 ∧ mulV a b = a * b % 4611686018427377339 := by
  obtain ⟨a1, a2, a3⟩ := elemB_true ha
  obtain ⟨b1, b2, b3⟩ := elemB_true hb
  obtain ⟨a, rfl⟩ := Int.eq_ofNat_of_zero_le (show 0 ≤ a by omega)
  obtain ⟨b, rfl⟩ := Int.eq_ofNat_of_zero_le (show 0 ≤ b by omega)
  rw [Int.toNat_natCast] at a3 b3
  have h : mulV a b = (a : Int) * b % 4611686018427377339 := by unfold mulV; rw [ha, hb]; rfl
  have h2 : (a : Int) * b % 4611686018427377339 = ((a * b % Grp.P : Nat) : Int) := by rw [Int.natCast_emod, Int.natCast_mul]; rfl
  have h3 := Grp.mul_elem a3 b3
  refine ⟨?_, by unfold mulE; rw [ha, errG_true hb]; rfl, h⟩
  rw [h, h2]
  have := Nat.mod_lt (a * b) (show 0 < Grp.P by decide)
  rw [Grp.P_eq] at this ⊢
  refine elemB_mk ⟨?_, by omega, by rw [Int.toNat_natCast]; exact h3⟩
  have := Grp.pw_pos h3
  rw [Grp.P_eq] at this
  omega

theorem inv_elem {a : Int} (ha : elemB a = true) : elemB (expV a 2305843009213688668) = true ∧ expE a 2305843009213688668 = 0 ∧ mulV a (expV a 2305843009213688668) = 1 := by
  obtain ⟨a1, a2, a3⟩ := elemB_true ha
  obtain ⟨n, rfl⟩ := Int.eq_ofNat_of_zero_le (show 0 ≤ a by omega)
  rw [Int.toNat_natCast] at a3
  have hk : scalB 2305843009213688668 = true := scalB_mk (by omega)
  have e1 : expV (n : Int) 2305843009213688668 = ((Grp.pw n (Grp.Q - 1) : Nat) : Int) := by unfold expV; rw [ha, hk]; rfl
  have e2 : expE (n : Int) 2305843009213688668 = 0 := by unfold expE; rw [ha, hk]; rfl
  have h1 := Grp.pw_elem a3 (Grp.Q - 1)
  have h2 := Grp.pw_lt n (Grp.Q - 1)
  have h3 := Grp.pw_pos h1
  have h4 := Grp.mul_inv a3
  have h5 : elemB (expV (n : Int) 2305843009213688668) = true := by
    rw [e1]
    generalize Grp.pw n (Grp.Q - 1) = p at *
    rw [Grp.P_eq] at h2
    exact elemB_mk ⟨by omega, by omega, by rw [Int.toNat_natCast]; exact h1⟩
  refine ⟨h5, e2, ?_⟩
  rw [(mul_elem' ha h5).2.2, e1]
  generalize Grp.pw n (Grp.Q - 1) = p at *
  rw [← Int.natCast_mul, show (4611686018427377339 : Int) = ((Grp.P : Nat) : Int) from rfl, ← Int.natCast_emod, h4]; rfl
theorem mul_one' {a : Int} (ha : elemB a = true) : mulV a 1 = a ∧ mulE a 1 = 0 := by
  obtain ⟨a1, a2, _⟩ := elemB_true ha
  have h := mul_elem' ha e1
  exact ⟨by rw [h.2.2, Int.mul_one]; exact Int.emod_eq_of_lt (by omega) a2, h.2.1⟩
theorem mul_comm' {a b : Int} (ha : elemB a = true) (hb : elemB b = true) : mulV a b = mulV b a := by
  rw [(mul_elem' ha hb).2.2, (mul_elem' hb ha).2.2, Int.mul_comm]
theorem mod_l (x y : Int) : (x % 4611686018427377339) * y % 4611686018427377339 = x * y % 4611686018427377339 := by rw [Int.mul_emod, Int.emod_emod, ← Int.mul_emod]
theorem mod_r (x y : Int) : x * (y % 4611686018427377339) % 4611686018427377339 = x * y % 4611686018427377339 := by rw [Int.mul_emod, Int.emod_emod, ← Int.mul_emod]
theorem mul_assoc' {a b c : Int} (ha : elemB a = true) (hb : elemB b = true) (hc : elemB c = true) : mulV (mulV a b) c = mulV a (mulV b c) := by
  have h1 := mul_elem' ha hb
  have h2 := mul_elem' hb hc
  rw [(mul_elem' h1.1 hc).2.2, (mul_elem' ha h2.1).2.2, h1.2.2, h2.2.2, mod_l, mod_r, Int.mul_assoc]

theorem mul_el {a b : Int} (ha : elemB a = true) (hb : elemB b = true) (w : World) : Calls Tryd.prog 37 #[.int .i64 a, .int .i64 b] w fun e w' => e = .returned (.tuple #[.int .i64 (mulV a b), .int .i64 0]) ∧ Below w.heap.size w w' :=
  (mul_any a b w).mono fun _ _ ⟨he, hb'⟩ => ⟨by rw [he, (mul_elem' ha hb).2.1], hb'⟩
theorem inv_el {a : Int} (ha : elemB a = true) (w : World) : Calls Tryd.prog 36 #[.int .i64 a] w fun e w' => e = .returned (.tuple #[.int .i64 (expV a 2305843009213688668), .int .i64 0]) ∧ Below w.heap.size w w' :=
  (inv_any a w).mono fun _ _ ⟨he, hb'⟩ => ⟨by rw [he, (inv_elem ha).2.1], hb'⟩
theorem exp_el {a k : Int} (ha : elemB a = true) (hk : scalB k = true) (w : World) : Calls Tryd.prog 38 #[.int .i64 a, .int .i64 k] w fun e w' => e = .returned (.tuple #[.int .i64 (expV a k), .int .i64 0]) ∧ Below w.heap.size w w' :=
  (exp_any a k w).mono fun _ _ ⟨he, hb'⟩ => ⟨by rw [he]; unfold expE; rw [ha, hk]; rfl, hb'⟩
theorem check_el {a : Int} (ha : elemB a = true) (w : World) : Calls Tryd.prog 39 #[.int .i64 a] w fun e w' => e = .returned (.int .i64 0) ∧ Below w.heap.size w w' :=
  (check_any a w).mono fun _ _ ⟨he, hb'⟩ => ⟨by rw [he, errG_true ha], hb'⟩
theorem sum_scal {a b : Int} (ha : scalB a = true) (hb : scalB b = true) : scalB (sumV a b) = true ∧ sumV a b = (a + b) % 2305843009213688669 ∧ scalE a b = 0 := by
  have h : sumV a b = (a + b) % 2305843009213688669 := by unfold sumV; rw [ha, hb]; rfl
  exact ⟨by rw [h]; exact scalB_mk (by omega), h, by unfold scalE; rw [ha, hb]; rfl⟩
theorem prod_scal {a b : Int} (ha : scalB a = true) (hb : scalB b = true) : scalB (prodV a b) = true ∧ prodV a b = (a * b) % 2305843009213688669 ∧ scalE a b = 0 := by
  have h : prodV a b = (a * b) % 2305843009213688669 := by unfold prodV; rw [ha, hb]; rfl
  exact ⟨by rw [h]; exact scalB_mk (by omega), h, by unfold scalE; rw [ha, hb]; rfl⟩
theorem sum_el {a b : Int} (ha : scalB a = true) (hb : scalB b = true) (w : World) : Calls Tryd.prog 32 #[.int .i64 a, .int .i64 b] w fun e w' => e = .returned (.tuple #[.int .i64 (sumV a b), .int .i64 0]) ∧ Below w.heap.size w w' :=
  (gsum_any a b w).mono fun _ _ ⟨he, hb'⟩ => ⟨by rw [he, (sum_scal ha hb).2.2], hb'⟩
theorem prod_el {a b : Int} (ha : scalB a = true) (hb : scalB b = true) (w : World) : Calls Tryd.prog 25 #[.int .i64 a, .int .i64 b] w fun e w' => e = .returned (.tuple #[.int .i64 (prodV a b), .int .i64 0]) ∧ Below w.heap.size w w' :=
  (gprod_any a b w).mono fun _ _ ⟨he, hb'⟩ => ⟨by rw [he, (prod_scal ha hb).2.2], hb'⟩

theorem exp_elem {a k : Int} (ha : elemB a = true) (hk : scalB k = true) : elemB (expV a k) = true ∧ expV a k = ((Grp.pw a.toNat k.toNat : Nat) : Int) := by
  have h : expV a k = ((Grp.pw a.toNat k.toNat : Nat) : Int) := by unfold expV; rw [ha, hk]; rfl
  have h3 := Grp.pw_elem (elemB_true ha).2.2 k.toNat
  have h4 := Grp.pw_lt a.toNat k.toNat
  have h5 := Grp.pw_pos h3
  refine ⟨?_, h⟩
  rw [h]
  generalize Grp.pw a.toNat k.toNat = p at *
  rw [Grp.P_eq] at h4
  exact elemB_mk ⟨by omega, by omega, by rw [Int.toNat_natCast]; exact h3⟩
theorem exp_sum {a j k : Int} (ha : elemB a = true) (hj : scalB j = true) (hk : scalB k = true) : mulV (expV a j) (expV a k) = expV a (sumV j k) := by
  obtain ⟨h1, e1⟩ := exp_elem ha hj
  obtain ⟨h2, e2⟩ := exp_elem ha hk
  obtain ⟨s1, s2, _⟩ := sum_scal hj hk
  obtain ⟨h3, e3⟩ := exp_elem ha s1
  obtain ⟨j0, j1⟩ := scalB_true hj
  obtain ⟨k0, k1⟩ := scalB_true hk
  rw [(mul_elem' h1 h2).2.2, e1, e2, e3, s2]
  have e4 : ((j + k) % 2305843009213688669).toNat = (j.toNat + k.toNat) % Grp.Q := by rw [Grp.Q_eq]; omega
  rw [e4, Grp.pw_red (elemB_true ha).2.2, Grp.pw_add, Int.natCast_emod, Int.natCast_mul]; rfl
theorem exp_prod {a j k : Int} (ha : elemB a = true) (hj : scalB j = true) (hk : scalB k = true) : expV a (prodV j k) = expV (expV a j) k := by
  obtain ⟨h1, e1⟩ := exp_elem ha hj
  obtain ⟨s1, s2, _⟩ := prod_scal hj hk
  obtain ⟨h3, e3⟩ := exp_elem ha s1
  obtain ⟨j0, j1⟩ := scalB_true hj
  obtain ⟨k0, k1⟩ := scalB_true hk
  rw [(exp_elem h1 hk).2, e1, e3, s2, Int.toNat_natCast, ← Grp.pw_mul]
  have e4 : (j * k % 2305843009213688669).toNat = (j.toNat * k.toNat) % Grp.Q := by
    obtain ⟨j, rfl⟩ := Int.eq_ofNat_of_zero_le j0
    obtain ⟨k, rfl⟩ := Int.eq_ofNat_of_zero_le k0
    rw [← Int.natCast_mul, show (2305843009213688669 : Int) = ((Grp.Q : Nat) : Int) from rfl, ← Int.natCast_emod, Int.toNat_natCast]; rfl
  rw [e4, Grp.pw_red (elemB_true ha).2.2]
theorem exp_zero {a : Int} (ha : elemB a = true) : expV a 0 = 1 := by
  rw [(exp_elem ha (scalB_mk (by omega))).2, Int.toNat_zero, Grp.pw_zero]; rfl
theorem exp_one {a : Int} (ha : elemB a = true) : expV a 1 = a := by
  obtain ⟨a1, a2, _⟩ := elemB_true ha
  rw [(exp_elem ha (scalB_mk (by omega))).2, show (1 : Int).toNat = 1 from rfl, Grp.pw_one (by rw [Grp.P_eq]; omega)]; omega

theorem elemB_false {a : Int} (h : ¬ (1 ≤ a ∧ a < 4611686018427377339 ∧ Grp.pw a.toNat Grp.Q = 1)) : elemB a = false := decide_eq_false h
theorem modq_l (x y : Int) : (x % 2305843009213688669) * y % 2305843009213688669 = x * y % 2305843009213688669 := by rw [Int.mul_emod, Int.emod_emod, ← Int.mul_emod]
theorem modq_r (x y : Int) : x * (y % 2305843009213688669) % 2305843009213688669 = x * y % 2305843009213688669 := by rw [Int.mul_emod, Int.emod_emod, ← Int.mul_emod]
theorem ring_laws {a b c : Int} (ha : scalB a = true) (hb : scalB b = true) (hc : scalB c = true) :
    sumV a b = sumV b a ∧ sumV (sumV a b) c = sumV a (sumV b c) ∧ prodV a b = prodV b a ∧ prodV (prodV a b) c = prodV a (prodV b c) ∧
    prodV a (sumV b c) = sumV (prodV a b) (prodV a c) ∧ sumV a 0 = a ∧ prodV a 1 = a ∧ prodV a 0 = 0 := by
  have h0 : scalB 0 = true := scalB_mk (by omega)
  have h1 : scalB 1 = true := scalB_mk (by omega)
  have ab := sum_scal ha hb; have bc := sum_scal hb hc; have pab := prod_scal ha hb; have pbc := prod_scal hb hc; have pac := prod_scal ha hc
  obtain ⟨a0, a1⟩ := scalB_true ha
  refine ⟨?_, ?_, ?_, ?_, ?_, ?_, ?_, ?_⟩
  · rw [ab.2.1, (sum_scal hb ha).2.1, Int.add_comm]
  · rw [(sum_scal ab.1 hc).2.1, (sum_scal ha bc.1).2.1, ab.2.1, bc.2.1]; omega
  · rw [pab.2.1, (prod_scal hb ha).2.1, Int.mul_comm]
  · rw [(prod_scal pab.1 hc).2.1, (prod_scal ha pbc.1).2.1, pab.2.1, pbc.2.1, modq_l, modq_r, Int.mul_assoc]
  · rw [(prod_scal ha bc.1).2.1, (sum_scal pab.1 pac.1).2.1, bc.2.1, pab.2.1, pac.2.1, modq_r, Int.mul_add, ← Int.add_emod]
  · rw [(sum_scal ha h0).2.1, Int.add_zero]; exact Int.emod_eq_of_lt a0 a1
  · rw [(prod_scal ha h1).2.1, Int.mul_one]; exact Int.emod_eq_of_lt a0 a1
  · rw [(prod_scal ha h0).2.1, Int.mul_zero]; rfl
end Go.Proofs.YtedokiemlkccaaaDoor
