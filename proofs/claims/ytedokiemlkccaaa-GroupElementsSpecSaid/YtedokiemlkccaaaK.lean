/- The walks of the five statements on the group alone: each returns true, and nothing that lay in memory has changed. -/
import Derived.Test.YtedokiemlkccaaaI
namespace Go.Proofs.Ytedokiemlkccaaa
open Go.RowKit

set_option maxRecDepth 100000 in
theorem spec_walk (a b k : Int) (w : World) : Calls Try.prog 3 #[.int .i64 a, .int .i64 b, .int .i64 k] w fun e w' => e = .returned (.bool true) ∧ Below w.heap.size w w' := by
  go_enter Try.func3, Try.ntmps3
  go_wp2_with fail
  refine (sane_any _).mono ?_
  rintro e w1 ⟨rfl, b1⟩
  go_wp2_with fail
  refine (mul_any _ _ _).mono ?_
  rintro e w2 ⟨rfl, b2⟩
  go_wp2_with fail
  refine (rmul_any _ _ _).mono ?_
  rintro e w3 ⟨rfl, rfl⟩
  go_wp2_with fail
  refine (inv_any _ _).mono ?_
  rintro e w3 ⟨rfl, b3⟩
  go_wp2_with fail
  refine (rinv_any _ _).mono ?_
  rintro e w4 ⟨rfl, rfl⟩
  go_wp2_with fail
  refine (exp_any _ _ _).mono ?_
  rintro e w4 ⟨rfl, b4⟩
  go_wp2_with fail
  refine (rexp_any _ _ _).mono ?_
  rintro e w5 ⟨rfl, rfl⟩
  go_wp2_with fail
  refine (base_any _ _).mono ?_
  rintro e w5 ⟨rfl, b5⟩
  go_wp2_with fail
  refine (rbase_any _ _).mono ?_
  rintro e w6 ⟨rfl, rfl⟩
  go_wp2_with fail
  refine (check_any _ _).mono ?_
  rintro e w6 ⟨rfl, b6⟩
  go_wp2_with fail
  refine (rcheck_any _ _).mono ?_
  rintro e w7 ⟨rfl, rfl⟩
  go_wp2_with fail
  go_ret
  exact ⟨rfl, bl b1 (bl b2 (bl b3 (bl b4 (bl b5 b6))))⟩

theorem mul_elem' {a b : Int} (ha : elemB a = true) (hb : elemB b = true) : elemB (mulV a b) = true ∧ mulE a b = 0 ∧ mulV a b = a * b % 4611686018427377339 := by
  obtain ⟨a1, a2, a3⟩ := elemB_true ha
  obtain ⟨b1, b2, b3⟩ := elemB_true hb
  obtain ⟨a, rfl⟩ := Int.eq_ofNat_of_zero_le (show 0 ≤ a by omega)
  obtain ⟨b, rfl⟩ := Int.eq_ofNat_of_zero_le (show 0 ≤ b by omega)
  rw [Int.toNat_natCast] at a3 b3
  have h : mulV a b = (a : Int) * b % 4611686018427377339 := by unfold mulV; rw [ha, hb]; rfl
  have h2 : (a : Int) * b % 4611686018427377339 = ((a * b % Grp.P : Nat) : Int) := by rw [Int.natCast_emod, Int.natCast_mul]; rfl
  have h3 := Grp.mul_elem a3 b3
  refine ⟨?_, by unfold mulE; rw [ha, errG_true hb]; rfl, h⟩
  rw [h, h2]
  have := Nat.mod_lt (a * b) (show 0 < Grp.P by decide)
  rw [Grp.P_eq] at this ⊢
  refine elemB_mk ⟨?_, by omega, by rw [Int.toNat_natCast]; exact h3⟩
  have := Grp.pw_pos h3
  rw [Grp.P_eq] at this
  omega
end Go.Proofs.Ytedokiemlkccaaa
