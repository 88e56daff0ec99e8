/- The walks of the five statements on the group alone: each returns true, and nothing that lay in memory has changed. -/
import Derived.Test.YtedokiemlkccaaaI
import Derived.OpenShut
namespace Go.Proofs.Ytedokiemlkccaaa
open Go.RowKit

set_option maxRecDepth 100000 in
theorem spec_walk (a b k : Int) (w : World) : Calls Try.prog 3 #[.int .i64 a, .int .i64 b, .int .i64 k] w fun e w' => e = .returned (.bool true) ∧ Below w.heap.size w w' := by
  go_enter Try.func3, Try.ntmps3
  go_wp2_with fail
  refine (sane_any _).mono ?_
  rintro e w1 ⟨rfl, b1⟩
  go_wp2_with fail
  refine (mul_any _ _ _).mono ?_
  rintro e w2 ⟨rfl, b2⟩
  go_wp2_with fail
  refine (rmul_any _ _ _).mono ?_
  rintro e w3 ⟨rfl, rfl⟩
  go_wp2_with fail
  refine (inv_any _ _).mono ?_
  rintro e w3 ⟨rfl, b3⟩
  go_wp2_with fail
  refine (rinv_any _ _).mono ?_
  rintro e w4 ⟨rfl, rfl⟩
  go_wp2_with fail
  refine (exp_any _ _ _).mono ?_
  rintro e w4 ⟨rfl, b4⟩
  go_wp2_with fail
  refine (rexp_any _ _ _).mono ?_
  rintro e w5 ⟨rfl, rfl⟩
  go_wp2_with fail
  refine (base_any _ _).mono ?_
  rintro e w5 ⟨rfl, b5⟩
  go_wp2_with fail
  refine (rbase_any _ _).mono ?_
  rintro e w6 ⟨rfl, rfl⟩
  go_wp2_with fail
  refine (check_any _ _).mono ?_
  rintro e w6 ⟨rfl, b6⟩
  go_wp2_with fail
  refine (rcheck_any _ _).mono ?_
  rintro e w7 ⟨rfl, rfl⟩
  go_wp2_with fail
  go_ret
  exact ⟨rfl, bl b1 (bl b2 (bl b3 (bl b4 (bl b5 b6))))⟩

theorem mul_elem' {a b : Int} (ha : elemB a = true) (hb : elemB b = true) : elemB (mulV a b) = true ∧ mulE a b = 0 ∧ mulV a b = a * b % 4611686018427377339 := by
  obtain ⟨a1, a2, a3⟩ := elemB_true ha
  obtain ⟨b1, b2, b3⟩ := elemB_true hb
  obtain ⟨a, rfl⟩ := Int.eq_ofNat_of_zero_le (show 0 ≤ a by omega)
  obtain ⟨b, rfl⟩ := Int.eq_ofNat_of_zero_le (show 0 ≤ b by omega)
  rw [Int.toNat_natCast] at a3 b3
  have h : mulV a b = (a : Int) * b % 4611686018427377339 := by unfold mulV; rw [ha, hb]; rfl
  have h2 : (a : Int) * b % 4611686018427377339 = ((a * b % Grp.P : Nat) : Int) := by rw [Int.natCast_emod, Int.natCast_mul]; rfl
  have h3 := Grp.mul_elem a3 b3
  refine ⟨?_, by unfold mulE; rw [ha, errG_true hb]; rfl, h⟩
  rw [h, h2]
  have := Nat.mod_lt (a * b) (show 0 < Grp.P by decide)
  rw [Grp.P_eq] at this ⊢
  refine elemB_mk ⟨?_, by omega, by rw [Int.toNat_natCast]; exact h3⟩
  have := Grp.pw_pos h3
  rw [Grp.P_eq] at this
  omega

theorem sq_cases (n : Int) (h0 : 0 ≤ n) : squareV n = 0 ∨ elemB (squareV n) = true := by
  obtain ⟨n, rfl⟩ := Int.eq_ofNat_of_zero_le h0
  have e : squareV n = (((n % Grp.P) * (n % Grp.P) % Grp.P : Nat) : Int) := by
    unfold squareV; rw [Int.natCast_emod, Int.natCast_mul, Int.natCast_emod]; rfl
  by_cases h : (n % Grp.P) * (n % Grp.P) % Grp.P = 0
  · left; rw [e, h]; rfl
  · right
    have h1 := Grp.square_elem h
    have h2 := Nat.mod_lt ((n % Grp.P) * (n % Grp.P)) (show 0 < Grp.P by decide)
    rw [e]
    generalize (n % Grp.P) * (n % Grp.P) % Grp.P = s at *
    rw [Grp.P_eq] at h2
    exact elemB_mk ⟨by omega, by omega, by rw [Int.toNat_natCast]; exact h1⟩

theorem inv_elem {a : Int} (ha : elemB a = true) : elemB (expV a 2305843009213688668) = true ∧ expE a 2305843009213688668 = 0 ∧ mulV a (expV a 2305843009213688668) = 1 := by
  obtain ⟨a1, a2, a3⟩ := elemB_true ha
  obtain ⟨n, rfl⟩ := Int.eq_ofNat_of_zero_le (show 0 ≤ a by omega)
  rw [Int.toNat_natCast] at a3
  have hk : scalB 2305843009213688668 = true := scalB_mk (by omega)
  have e1 : expV (n : Int) 2305843009213688668 = ((Grp.pw n (Grp.Q - 1) : Nat) : Int) := by unfold expV; rw [ha, hk]; rfl
  have e2 : expE (n : Int) 2305843009213688668 = 0 := by unfold expE; rw [ha, hk]; rfl
  have h1 := Grp.pw_elem a3 (Grp.Q - 1)
  have h2 := Grp.pw_lt n (Grp.Q - 1)
  have h3 := Grp.pw_pos h1
  have h4 := Grp.mul_inv a3
  have h5 : elemB (expV (n : Int) 2305843009213688668) = true := by
    rw [e1]
    generalize Grp.pw n (Grp.Q - 1) = p at *
    rw [Grp.P_eq] at h2
    exact elemB_mk ⟨by omega, by omega, by rw [Int.toNat_natCast]; exact h1⟩
  refine ⟨h5, e2, ?_⟩
  rw [(mul_elem' ha h5).2.2, e1]
  generalize Grp.pw n (Grp.Q - 1) = p at *
  rw [← Int.natCast_mul, show (4611686018427377339 : Int) = ((Grp.P : Nat) : Int) from rfl, ← Int.natCast_emod, h4]; rfl
theorem mul_one' {a : Int} (ha : elemB a = true) : mulV a 1 = a ∧ mulE a 1 = 0 := by
  obtain ⟨a1, a2, _⟩ := elemB_true ha
  have h := mul_elem' ha e1
  exact ⟨by rw [h.2.2, Int.mul_one]; exact Int.emod_eq_of_lt (by omega) a2, h.2.1⟩
theorem mul_comm' {a b : Int} (ha : elemB a = true) (hb : elemB b = true) : mulV a b = mulV b a := by
  rw [(mul_elem' ha hb).2.2, (mul_elem' hb ha).2.2, Int.mul_comm]
theorem mod_l (x y : Int) : (x % 4611686018427377339) * y % 4611686018427377339 = x * y % 4611686018427377339 := by rw [Int.mul_emod, Int.emod_emod, ← Int.mul_emod]
theorem mod_r (x y : Int) : x * (y % 4611686018427377339) % 4611686018427377339 = x * y % 4611686018427377339 := by rw [Int.mul_emod, Int.emod_emod, ← Int.mul_emod]
theorem mul_assoc' {a b c : Int} (ha : elemB a = true) (hb : elemB b = true) (hc : elemB c = true) : mulV (mulV a b) c = mulV a (mulV b c) := by
  have h1 := mul_elem' ha hb
  have h2 := mul_elem' hb hc
  rw [(mul_elem' h1.1 hc).2.2, (mul_elem' ha h2.1).2.2, h1.2.2, h2.2.2, mod_l, mod_r, Int.mul_assoc]

theorem mul_el {a b : Int} (ha : elemB a = true) (hb : elemB b = true) (w : World) : Calls Try.prog 9 #[.int .i64 a, .int .i64 b] w fun e w' => e = .returned (.tuple #[.int .i64 (mulV a b), .int .i64 0]) ∧ Below w.heap.size w w' :=
  (mul_any a b w).mono fun _ _ ⟨he, hb'⟩ => ⟨by rw [he, (mul_elem' ha hb).2.1], hb'⟩
theorem inv_el {a : Int} (ha : elemB a = true) (w : World) : Calls Try.prog 11 #[.int .i64 a] w fun e w' => e = .returned (.tuple #[.int .i64 (expV a 2305843009213688668), .int .i64 0]) ∧ Below w.heap.size w w' :=
  (inv_any a w).mono fun _ _ ⟨he, hb'⟩ => ⟨by rw [he, (inv_elem ha).2.1], hb'⟩
theorem exp_el {a k : Int} (ha : elemB a = true) (hk : scalB k = true) (w : World) : Calls Try.prog 13 #[.int .i64 a, .int .i64 k] w fun e w' => e = .returned (.tuple #[.int .i64 (expV a k), .int .i64 0]) ∧ Below w.heap.size w w' :=
  (exp_any a k w).mono fun _ _ ⟨he, hb'⟩ => ⟨by rw [he]; unfold expE; rw [ha, hk]; rfl, hb'⟩
theorem check_el {a : Int} (ha : elemB a = true) (w : World) : Calls Try.prog 17 #[.int .i64 a] w fun e w' => e = .returned (.int .i64 0) ∧ Below w.heap.size w w' :=
  (check_any a w).mono fun _ _ ⟨he, hb'⟩ => ⟨by rw [he, errG_true ha], hb'⟩
theorem element_yes {n s : Int} (hs : squareV n = s) (h : elemB s = true) (h0 : 0 ≤ n) (h1 : n < 18446744073709551616) (w : World) :
    Calls Try.prog 19 #[.int .u64 n] w fun e w' => e = .returned (.tuple #[.int .i64 s, .bool true]) ∧ w = w' :=
  (element_any n w h0 h1).mono fun _ _ ⟨he, hw⟩ => ⟨by
    have := (elemB_true h).1
    rw [he, hs, show (s != 0) = true by rw [bne_iff_ne]; omega], hw⟩
theorem element_no {n : Int} (hs : squareV n = 0) (h0 : 0 ≤ n) (h1 : n < 18446744073709551616) (w : World) :
    Calls Try.prog 19 #[.int .u64 n] w fun e w' => e = .returned (.tuple #[.int .i64 0, .bool false]) ∧ w = w' :=
  (element_any n w h0 h1).mono fun _ _ ⟨he, hw⟩ => ⟨by rw [he, hs]; rfl, hw⟩

set_option maxRecDepth 100000 in
theorem axioms_el (m n o a b c : Int) (w : World) (m0 : 0 ≤ m) (m1 : m < 18446744073709551616) (n0 : 0 ≤ n) (n1 : n < 18446744073709551616) (o0 : 0 ≤ o) (o1 : o < 18446744073709551616)
    (sm : squareV m = a) (sn : squareV n = b) (so : squareV o = c) (ha : elemB a = true) (hb : elemB b = true) (hc : elemB c = true) :
    Calls Try.prog 4 #[.int .u64 m, .int .u64 n, .int .u64 o] w fun e w' => e = .returned (.bool true) ∧ Below w.heap.size w w' := by
  have hab := mul_elem' ha hb
  have hbc := mul_elem' hb hc
  have hi := inv_elem ha
  have c1 := fun W => element_yes sm ha m0 m1 W
  have c2 := fun W => element_yes sn hb n0 n1 W
  have c3 := fun W => element_yes so hc o0 o1 W
  have c4 := fun W => mul_el ha hb W
  have c5 := fun W => mul_el hb ha W
  have c6 := fun W => mul_el hb hc W
  have c7 := fun W => mul_el hab.1 hc W
  have c8 := fun W => mul_el ha hbc.1 W
  have c9 := fun W => mul_el ha e1 W
  have c10 := fun W => inv_el ha W
  have c11 := fun W => mul_el ha hi.1 W
  have c12 := fun W => check_el hab.1 W
  have c13 := fun W => check_el hi.1 W
  rw [hi.2.2] at c11
  rw [(mul_one' ha).1] at c9
  rw [mul_assoc' ha hb hc] at c7
  rw [mul_comm' hb ha] at c5
  obtain ⟨ab, hab'⟩ : ∃ x, mulV a b = x := ⟨_, rfl⟩
  obtain ⟨bc, hbc'⟩ : ∃ x, mulV b c = x := ⟨_, rfl⟩
  obtain ⟨iv, hiv⟩ : ∃ x, expV a 2305843009213688668 = x := ⟨_, rfl⟩
  rw [hbc'] at c6 c7 c8
  rw [hab'] at c4 c5 c7 c12
  rw [hiv] at c10 c11 c13
  obtain ⟨abc, habc⟩ : ∃ x, mulV a bc = x := ⟨_, rfl⟩
  rw [habc] at c7 c8
  have C1 := Lib.hid c1; have C2 := Lib.hid c2; have C3 := Lib.hid c3; have C4 := Lib.hid c4; have C5 := Lib.hid c5; have C6 := Lib.hid c6; have C7 := Lib.hid c7
  have C8 := Lib.hid c8; have C9 := Lib.hid c9; have C10 := Lib.hid c10; have C11 := Lib.hid c11; have C12 := Lib.hid c12; have C13 := Lib.hid c13
  clear c1 c2 c3 c4 c5 c6 c7 c8 c9 c10 c11 c12 c13 hab hbc hi hab' hbc' hiv habc sm sn so ha hb hc
  go_enter Try.func4, Try.ntmps4
  go_wp2_with fail
  refine (sane_any _).mono ?_
  rintro e w1 ⟨rfl, b1⟩
  go_wp2_with fail
  refine (C1.out _).mono ?_
  rintro e w2 ⟨rfl, rfl⟩
  go_wp2_with fail
  refine (C2.out _).mono ?_
  rintro e w2 ⟨rfl, rfl⟩
  go_wp2_with fail
  refine (C3.out _).mono ?_
  rintro e w2 ⟨rfl, rfl⟩
  go_wp2_with fail
  refine (C4.out _).mono ?_
  rintro e w2 ⟨rfl, b2⟩
  go_wp2_with fail
  refine (C5.out _).mono ?_
  rintro e w3 ⟨rfl, b3⟩
  go_wp2_with fail
  refine (C6.out _).mono ?_
  rintro e w4 ⟨rfl, b4⟩
  go_wp2_with fail
  refine (C7.out _).mono ?_
  rintro e w5 ⟨rfl, b5⟩
  go_wp2_with fail
  refine (C8.out _).mono ?_
  rintro e w6 ⟨rfl, b6⟩
  go_wp2_with fail
  refine (C9.out _).mono ?_
  rintro e w7 ⟨rfl, b7⟩
  go_wp2_with fail
  refine (C10.out _).mono ?_
  rintro e w8 ⟨rfl, b8⟩
  go_wp2_with fail
  refine (C11.out _).mono ?_
  rintro e w9 ⟨rfl, b9⟩
  go_wp2_with fail
  refine (C12.out _).mono ?_
  rintro e w10 ⟨rfl, b10⟩
  go_wp2_with fail
  refine (C13.out _).mono ?_
  rintro e w11 ⟨rfl, b11⟩
  go_wp2_with fail
  go_ret
  exact ⟨rfl, bl b1 (bl b2 (bl b3 (bl b4 (bl b5 (bl b6 (bl b7 (bl b8 (bl b9 (bl b10 b11)))))))))⟩
set_option maxRecDepth 100000 in
theorem axioms_no1 (m n o : Int) (w : World) (m0 : 0 ≤ m) (m1 : m < 18446744073709551616) (n0 : 0 ≤ n) (n1 : n < 18446744073709551616) (o0 : 0 ≤ o) (o1 : o < 18446744073709551616) (sm : squareV m = 0) :
    Calls Try.prog 4 #[.int .u64 m, .int .u64 n, .int .u64 o] w fun e w' => e = .returned (.bool true) ∧ Below w.heap.size w w' := by
  have c1 := fun W => element_no sm m0 m1 W
  have c2 := fun W => element_any n W n0 n1
  have c3 := fun W => element_any o W o0 o1
  have C1 := Lib.hid c1; have C2 := Lib.hid c2; have C3 := Lib.hid c3
  clear c1 c2 c3 sm
  go_enter Try.func4, Try.ntmps4
  go_wp2_with fail
  refine (sane_any _).mono ?_
  rintro e w1 ⟨rfl, b1⟩
  go_wp2_with fail
  refine (C1.out _).mono ?_
  rintro e w2 ⟨rfl, rfl⟩
  go_wp2_with fail
  refine (C2.out _).mono ?_
  rintro e w2 ⟨rfl, rfl⟩
  go_wp2_with fail
  refine (C3.out _).mono ?_
  rintro e w2 ⟨rfl, rfl⟩
  go_wp2_with fail
  go_ret
  exact ⟨rfl, b1⟩
set_option maxRecDepth 100000 in
theorem axioms_no2 (m n o a : Int) (w : World) (m0 : 0 ≤ m) (m1 : m < 18446744073709551616) (n0 : 0 ≤ n) (n1 : n < 18446744073709551616) (o0 : 0 ≤ o) (o1 : o < 18446744073709551616) (sm : squareV m = a) (ha : elemB a = true) (sn : squareV n = 0) :
    Calls Try.prog 4 #[.int .u64 m, .int .u64 n, .int .u64 o] w fun e w' => e = .returned (.bool true) ∧ Below w.heap.size w w' := by
  have c1 := fun W => element_yes sm ha m0 m1 W
  have c2 := fun W => element_no sn n0 n1 W
  have c3 := fun W => element_any o W o0 o1
  have C1 := Lib.hid c1; have C2 := Lib.hid c2; have C3 := Lib.hid c3
  clear c1 c2 c3 sm sn ha
  go_enter Try.func4, Try.ntmps4
  go_wp2_with fail
  refine (sane_any _).mono ?_
  rintro e w1 ⟨rfl, b1⟩
  go_wp2_with fail
  refine (C1.out _).mono ?_
  rintro e w2 ⟨rfl, rfl⟩
  go_wp2_with fail
  refine (C2.out _).mono ?_
  rintro e w2 ⟨rfl, rfl⟩
  go_wp2_with fail
  refine (C3.out _).mono ?_
  rintro e w2 ⟨rfl, rfl⟩
  go_wp2_with fail
  go_ret
  exact ⟨rfl, b1⟩
set_option maxRecDepth 100000 in
theorem axioms_no3 (m n o a b : Int) (w : World) (m0 : 0 ≤ m) (m1 : m < 18446744073709551616) (n0 : 0 ≤ n) (n1 : n < 18446744073709551616) (o0 : 0 ≤ o) (o1 : o < 18446744073709551616) (sm : squareV m = a) (ha : elemB a = true) (sn : squareV n = b) (hb : elemB b = true) (so : squareV o = 0) :
    Calls Try.prog 4 #[.int .u64 m, .int .u64 n, .int .u64 o] w fun e w' => e = .returned (.bool true) ∧ Below w.heap.size w w' := by
  have c1 := fun W => element_yes sm ha m0 m1 W
  have c2 := fun W => element_yes sn hb n0 n1 W
  have c3 := fun W => element_no so o0 o1 W
  have C1 := Lib.hid c1; have C2 := Lib.hid c2; have C3 := Lib.hid c3
  clear c1 c2 c3 sm sn ha hb so
  go_enter Try.func4, Try.ntmps4
  go_wp2_with fail
  refine (sane_any _).mono ?_
  rintro e w1 ⟨rfl, b1⟩
  go_wp2_with fail
  refine (C1.out _).mono ?_
  rintro e w2 ⟨rfl, rfl⟩
  go_wp2_with fail
  refine (C2.out _).mono ?_
  rintro e w2 ⟨rfl, rfl⟩
  go_wp2_with fail
  refine (C3.out _).mono ?_
  rintro e w2 ⟨rfl, rfl⟩
  go_wp2_with fail
  go_ret
  exact ⟨rfl, b1⟩
theorem wf_u64 {a : Int} (h : (Lit.int .u64 a).wf = true) : 0 ≤ a ∧ a < 18446744073709551616 := by
  have := bounds_u64 h; omega
theorem axioms_walk (m n o : Int) (w : World) (hm : (Lit.int .u64 m).wf = true) (hn : (Lit.int .u64 n).wf = true) (ho : (Lit.int .u64 o).wf = true) :
    Calls Try.prog 4 #[.int .u64 m, .int .u64 n, .int .u64 o] w fun e w' => e = .returned (.bool true) ∧ Below w.heap.size w w' := by
  obtain ⟨m0, m1⟩ := wf_u64 hm
  obtain ⟨n0, n1⟩ := wf_u64 hn
  obtain ⟨o0, o1⟩ := wf_u64 ho
  rcases sq_cases m m0 with hm | hm
  · exact axioms_no1 m n o w m0 m1 n0 n1 o0 o1 hm
  · rcases sq_cases n n0 with hn | hn
    · exact axioms_no2 m n o _ w m0 m1 n0 n1 o0 o1 rfl hm hn
    · rcases sq_cases o o0 with ho | ho
      · exact axioms_no3 m n o _ _ w m0 m1 n0 n1 o0 o1 rfl hm rfl hn ho
      · exact axioms_el m n o _ _ _ w m0 m1 n0 n1 o0 o1 rfl rfl rfl hm hn ho

/-! ### scalars -/
theorem sum_scal {a b : Int} (ha : scalB a = true) (hb : scalB b = true) : scalB (sumV a b) = true ∧ sumV a b = (a + b) % 2305843009213688669 ∧ scalE a b = 0 := by
  have h : sumV a b = (a + b) % 2305843009213688669 := by unfold sumV; rw [ha, hb]; rfl
  exact ⟨by rw [h]; exact scalB_mk (by omega), h, by unfold scalE; rw [ha, hb]; rfl⟩
theorem prod_scal {a b : Int} (ha : scalB a = true) (hb : scalB b = true) : scalB (prodV a b) = true ∧ prodV a b = (a * b) % 2305843009213688669 ∧ scalE a b = 0 := by
  have h : prodV a b = (a * b) % 2305843009213688669 := by unfold prodV; rw [ha, hb]; rfl
  exact ⟨by rw [h]; exact scalB_mk (by omega), h, by unfold scalE; rw [ha, hb]; rfl⟩
theorem sum_el {a b : Int} (ha : scalB a = true) (hb : scalB b = true) (w : World) : Calls Try.prog 21 #[.int .i64 a, .int .i64 b] w fun e w' => e = .returned (.tuple #[.int .i64 (sumV a b), .int .i64 0]) ∧ Below w.heap.size w w' :=
  (gsum_any a b w).mono fun _ _ ⟨he, hb'⟩ => ⟨by rw [he, (sum_scal ha hb).2.2], hb'⟩
theorem prod_el {a b : Int} (ha : scalB a = true) (hb : scalB b = true) (w : World) : Calls Try.prog 22 #[.int .i64 a, .int .i64 b] w fun e w' => e = .returned (.tuple #[.int .i64 (prodV a b), .int .i64 0]) ∧ Below w.heap.size w w' :=
  (gprod_any a b w).mono fun _ _ ⟨he, hb'⟩ => ⟨by rw [he, (prod_scal ha hb).2.2], hb'⟩

theorem exp_elem {a k : Int} (ha : elemB a = true) (hk : scalB k = true) : elemB (expV a k) = true ∧ expV a k = ((Grp.pw a.toNat k.toNat : Nat) : Int) := by
  have h : expV a k = ((Grp.pw a.toNat k.toNat : Nat) : Int) := by unfold expV; rw [ha, hk]; rfl
  have h3 := Grp.pw_elem (elemB_true ha).2.2 k.toNat
  have h4 := Grp.pw_lt a.toNat k.toNat
  have h5 := Grp.pw_pos h3
  refine ⟨?_, h⟩
  rw [h]
  generalize Grp.pw a.toNat k.toNat = p at *
  rw [Grp.P_eq] at h4
  exact elemB_mk ⟨by omega, by omega, by rw [Int.toNat_natCast]; exact h3⟩
theorem exp_sum {a j k : Int} (ha : elemB a = true) (hj : scalB j = true) (hk : scalB k = true) : mulV (expV a j) (expV a k) = expV a (sumV j k) := by
  obtain ⟨h1, e1⟩ := exp_elem ha hj
  obtain ⟨h2, e2⟩ := exp_elem ha hk
  obtain ⟨s1, s2, _⟩ := sum_scal hj hk
  obtain ⟨h3, e3⟩ := exp_elem ha s1
  obtain ⟨j0, j1⟩ := scalB_true hj
  obtain ⟨k0, k1⟩ := scalB_true hk
  rw [(mul_elem' h1 h2).2.2, e1, e2, e3, s2]
  have e4 : ((j + k) % 2305843009213688669).toNat = (j.toNat + k.toNat) % Grp.Q := by rw [Grp.Q_eq]; omega
  rw [e4, Grp.pw_red (elemB_true ha).2.2, Grp.pw_add, Int.natCast_emod, Int.natCast_mul]; rfl
theorem exp_prod {a j k : Int} (ha : elemB a = true) (hj : scalB j = true) (hk : scalB k = true) : expV a (prodV j k) = expV (expV a j) k := by
  obtain ⟨h1, e1⟩ := exp_elem ha hj
  obtain ⟨s1, s2, _⟩ := prod_scal hj hk
  obtain ⟨h3, e3⟩ := exp_elem ha s1
  obtain ⟨j0, j1⟩ := scalB_true hj
  obtain ⟨k0, k1⟩ := scalB_true hk
  rw [(exp_elem h1 hk).2, e1, e3, s2, Int.toNat_natCast, ← Grp.pw_mul]
  have e4 : (j * k % 2305843009213688669).toNat = (j.toNat * k.toNat) % Grp.Q := by
    obtain ⟨j, rfl⟩ := Int.eq_ofNat_of_zero_le j0
    obtain ⟨k, rfl⟩ := Int.eq_ofNat_of_zero_le k0
    rw [← Int.natCast_mul, show (2305843009213688669 : Int) = ((Grp.Q : Nat) : Int) from rfl, ← Int.natCast_emod, Int.toNat_natCast]; rfl
  rw [e4, Grp.pw_red (elemB_true ha).2.2]
theorem exp_zero {a : Int} (ha : elemB a = true) : expV a 0 = 1 := by
  rw [(exp_elem ha (scalB_mk (by omega))).2, Int.toNat_zero, Grp.pw_zero]; rfl
theorem exp_one {a : Int} (ha : elemB a = true) : expV a 1 = a := by
  obtain ⟨a1, a2, _⟩ := elemB_true ha
  rw [(exp_elem ha (scalB_mk (by omega))).2, show (1 : Int).toNat = 1 from rfl, Grp.pw_one (by rw [Grp.P_eq]; omega)]; omega

set_option maxRecDepth 100000 in
theorem powers_no (m x y : Int) (w : World) (m0 : 0 ≤ m) (m1 : m < 18446744073709551616) (sm : squareV m = 0) :
    Calls Try.prog 5 #[.int .u64 m, .int .i64 x, .int .i64 y] w fun e w' => e = .returned (.bool true) ∧ Below w.heap.size w w' := by
  have c1 := fun W => element_no sm m0 m1 W
  have C1 := Lib.hid c1
  clear c1 sm
  go_enter Try.func5, Try.ntmps5
  go_wp2_with fail
  refine (sane_any _).mono ?_
  rintro e w1 ⟨rfl, b1⟩
  go_wp2_with fail
  refine (C1.out _).mono ?_
  rintro e w2 ⟨rfl, rfl⟩
  go_wp2_with fail
  go_ret
  exact ⟨rfl, b1⟩
set_option maxRecDepth 100000 in
theorem powers_el (m x y a : Int) (w : World) (m0 : 0 ≤ m) (m1 : m < 18446744073709551616) (sm : squareV m = a) (ha : elemB a = true) :
    Calls Try.prog 5 #[.int .u64 m, .int .i64 x, .int .i64 y] w fun e w' => e = .returned (.bool true) ∧ Below w.heap.size w w' := by
  have hj := ofV_scal x
  have hk := ofV_scal y
  have cx := fun W => of_any x W
  have cy := fun W => of_any y W
  obtain ⟨j, hjj⟩ : ∃ j, ofV x = j := ⟨_, rfl⟩
  obtain ⟨k, hkk⟩ : ∃ j, ofV y = j := ⟨_, rfl⟩
  rw [hjj] at hj cx
  rw [hkk] at hk cy
  have hs := sum_scal hj hk
  have hp := prod_scal hj hk
  have hQ : scalB 2305843009213688668 = true := scalB_mk (by omega)
  have h0 : scalB 0 = true := scalB_mk (by omega)
  have h1 : scalB 1 = true := scalB_mk (by omega)
  have hP := exp_elem ha hj
  have hR := exp_elem ha hk
  have c1 := fun W => element_yes sm ha m0 m1 W
  have c2 := fun W => exp_el ha hj W
  have c3 := fun W => exp_el ha hk W
  have c4 := fun W => sum_el hj hk W
  have c5 := fun W => prod_el hj hk W
  have c6 := fun W => mul_el hP.1 hR.1 W
  have c7 := fun W => exp_el ha hs.1 W
  have c8 := fun W => exp_el ha hp.1 W
  have c9 := fun W => exp_el hP.1 hk W
  have c10 := fun W => exp_el ha h0 W
  have c11 := fun W => exp_el ha h1 W
  have c12 := fun W => exp_el ha hQ W
  have c13 := fun W => inv_el ha W
  rw [exp_sum ha hj hk] at c6
  rw [exp_prod ha hj hk] at c8
  rw [exp_zero ha] at c10
  rw [exp_one ha] at c11
  obtain ⟨p, hp'⟩ : ∃ x, expV a j = x := ⟨_, rfl⟩
  obtain ⟨q, hq'⟩ : ∃ x, expV a k = x := ⟨_, rfl⟩
  obtain ⟨s, hs'⟩ : ∃ x, sumV j k = x := ⟨_, rfl⟩
  obtain ⟨t, ht'⟩ : ∃ x, prodV j k = x := ⟨_, rfl⟩
  rw [hp'] at c2 c6 c8 c9
  rw [hq'] at c3 c6
  rw [hs'] at c4 c6 c7
  rw [ht'] at c5 c8
  obtain ⟨u, hu'⟩ : ∃ x, expV p k = x := ⟨_, rfl⟩
  obtain ⟨v, hv'⟩ : ∃ x, expV a s = x := ⟨_, rfl⟩
  obtain ⟨z, hz'⟩ : ∃ x, expV a 2305843009213688668 = x := ⟨_, rfl⟩
  rw [hu'] at c8 c9
  rw [hv'] at c6 c7
  rw [hz'] at c12 c13
  have CX := Lib.hid cx; have CY := Lib.hid cy
  have C1 := Lib.hid c1; have C2 := Lib.hid c2; have C3 := Lib.hid c3; have C4 := Lib.hid c4; have C5 := Lib.hid c5; have C6 := Lib.hid c6; have C7 := Lib.hid c7
  have C8 := Lib.hid c8; have C9 := Lib.hid c9; have C10 := Lib.hid c10; have C11 := Lib.hid c11; have C12 := Lib.hid c12; have C13 := Lib.hid c13
  clear cx cy c1 c2 c3 c4 c5 c6 c7 c8 c9 c10 c11 c12 c13 hp' hq' hs' ht' hu' hv' hz' hjj hkk hj hk hs hp hQ h0 h1 hP hR sm ha
  go_enter Try.func5, Try.ntmps5
  go_wp2_with fail
  refine (sane_any _).mono ?_
  rintro e w1 ⟨rfl, b1⟩
  go_wp2_with fail
  refine (C1.out _).mono ?_
  rintro e w2 ⟨rfl, rfl⟩
  go_wp2_with fail
  refine (CX.out _).mono ?_
  rintro e w2 ⟨rfl, rfl⟩
  go_wp2_with fail
  refine (CY.out _).mono ?_
  rintro e w2 ⟨rfl, rfl⟩
  go_wp2_with fail
  refine (C2.out _).mono ?_
  rintro e w2 ⟨rfl, b2⟩
  go_wp2_with fail
  refine (C3.out _).mono ?_
  rintro e w3 ⟨rfl, b3⟩
  go_wp2_with fail
  refine (C4.out _).mono ?_
  rintro e w4 ⟨rfl, b4⟩
  go_wp2_with fail
  refine (C5.out _).mono ?_
  rintro e w5 ⟨rfl, b5⟩
  go_wp2_with fail
  refine (C6.out _).mono ?_
  rintro e w6 ⟨rfl, b6⟩
  go_wp2_with fail
  refine (C7.out _).mono ?_
  rintro e w7 ⟨rfl, b7⟩
  go_wp2_with fail
  refine (C8.out _).mono ?_
  rintro e w8 ⟨rfl, b8⟩
  go_wp2_with fail
  refine (C9.out _).mono ?_
  rintro e w9 ⟨rfl, b9⟩
  go_wp2_with fail
  refine (C10.out _).mono ?_
  rintro e w10 ⟨rfl, b10⟩
  go_wp2_with fail
  refine (C11.out _).mono ?_
  rintro e w11 ⟨rfl, b11⟩
  go_wp2_with fail
  refine (C12.out _).mono ?_
  rintro e w12 ⟨rfl, b12⟩
  go_wp2_with fail
  refine (C13.out _).mono ?_
  rintro e w13 ⟨rfl, b13⟩
  go_wp2_with fail
  go_ret
  exact ⟨rfl, bl b1 (bl b2 (bl b3 (bl b4 (bl b5 (bl b6 (bl b7 (bl b8 (bl b9 (bl b10 (bl b11 (bl b12 b13)))))))))))⟩
theorem powers_walk (m x y : Int) (w : World) (hm : (Lit.int .u64 m).wf = true) :
    Calls Try.prog 5 #[.int .u64 m, .int .i64 x, .int .i64 y] w fun e w' => e = .returned (.bool true) ∧ Below w.heap.size w w' := by
  obtain ⟨m0, m1⟩ := wf_u64 hm
  rcases sq_cases m m0 with hm | hm
  · exact powers_no m x y w m0 m1 hm
  · exact powers_el m x y _ w m0 m1 rfl hm

/-! ### the halves -/
theorem elemB_false {a : Int} (h : ¬ (1 ≤ a ∧ a < 4611686018427377339 ∧ Grp.pw a.toNat Grp.Q = 1)) : elemB a = false := decide_eq_false h
theorem halves' {a : Int} (h1 : 1 ≤ a) (h2 : a < 4611686018427377339) : elemB (4611686018427377339 - a) = !elemB a := by
  obtain ⟨n, rfl⟩ := Int.eq_ofNat_of_zero_le (show 0 ≤ a by omega)
  have h := Grp.halves (a := n) (by omega) (by rw [Grp.P_eq]; omega)
  have e : (4611686018427377339 - (n : Int)) = ((Grp.P - n : Nat) : Int) := by rw [Grp.P_eq]; omega
  have b := Grp.P_eq
  by_cases hn : Grp.pw n Grp.Q = 1
  · rw [elemB_mk (a := (n : Int)) ⟨h1, h2, by rw [Int.toNat_natCast]; exact hn⟩, e]
    exact elemB_false (by rintro ⟨_, _, h'⟩; rw [Int.toNat_natCast] at h'; exact h.1 hn h')
  · rw [elemB_false (a := (n : Int)) (by rintro ⟨_, _, h'⟩; rw [Int.toNat_natCast] at h'; exact hn h'), e]
    have h4 : Grp.pw (Grp.P - n) Grp.Q = 1 := Classical.byContradiction fun hc => hn (h.2 hc)
    exact elemB_mk ⟨by omega, by omega, by rw [Int.toNat_natCast]; exact h4⟩
theorem sq_elem {n : Int} (h0 : 0 ≤ n) (h : n % 4611686018427377339 ≠ 0) : elemB (squareV n) = true := by
  rcases sq_cases n h0 with hz | he
  · exfalso
    obtain ⟨n, rfl⟩ := Int.eq_ofNat_of_zero_le h0
    unfold squareV at hz
    rw [show (4611686018427377339 : Int) = ((Grp.P : Nat) : Int) from rfl, ← Int.natCast_emod, ← Int.natCast_mul, ← Int.natCast_emod] at hz
    have hd : Grp.P ∣ (n % Grp.P) * (n % Grp.P) := Nat.dvd_of_mod_eq_zero (by omega)
    have hp : Grp.P ∣ n % Grp.P := by rcases Grp.primeP.dvd_mul hd with h' | h' <;> exact h'
    have h1 := Nat.mod_lt n (show 0 < Grp.P by decide)
    have h2 : n % Grp.P ≠ 0 := by intro h'; apply h; rw [show (4611686018427377339 : Int) = ((Grp.P : Nat) : Int) from rfl, ← Int.natCast_emod, h']; rfl
    have := Nat.le_of_dvd (by omega) hp
    omega
  · exact he

set_option maxRecDepth 100000 in
theorem halves_walk (n : Int) (w : World) (hn : (Lit.int .u64 n).wf = true) :
    Calls Try.prog 7 #[.int .u64 n] w fun e w' => e = .returned (.bool true) ∧ Below w.heap.size w w' := by
  obtain ⟨n0, n1⟩ := wf_u64 hn
  by_cases h : n % 4611686018427377339 = 0
  · have c : ∀ W, Calls Try.prog 17 #[.int .i64 0] W fun e w' => e = .returned (.int .i64 30) ∧ Below W.heap.size W w' := fun W => g0 ▸ check_any 0 W
    have C := Lib.hid c
    clear c
    go_enter Try.func7, Try.ntmps7
    go_wp2_with fail
    refine (sane_any _).mono ?_
    rintro e w1 ⟨rfl, b1⟩
    go_wp2_with fail
    refine (C.out _).mono ?_
    rintro e w2 ⟨rfl, b2⟩
    go_wp2_with fail
    go_ret
    exact ⟨rfl, bl b1 b2⟩
  · have hs := sq_elem n0 h
    obtain ⟨a, ha⟩ : ∃ a, n % 4611686018427377339 = a := ⟨_, rfl⟩
    have a1 : 1 ≤ a := by omega
    have a2 : a < 4611686018427377339 := by omega
    have hh := halves' a1 a2
    have c1 := fun W => element_yes rfl hs n0 n1 W
    have c2 := fun W => check_el hs W
    have c3 := fun W => check_any a W
    have c4 := fun W => check_any (4611686018427377339 - a) W
    obtain ⟨s, hs'⟩ : ∃ s, squareV n = s := ⟨_, rfl⟩
    rw [hs'] at c1 c2
    have hne : (a == 0) = false := by rw [beq_eq_false_iff_ne]; omega
    rw [← ha] at c3 c4 hne
    rw [← ha] at hh
    have C1 := Lib.hid c1; clear c1
    have C2 := Lib.hid c2; clear c2
    clear hs hs' a1 a2 h
    by_cases he : elemB (n % 4611686018427377339) = true
    · rw [he] at hh
      rw [errG_true he] at c3
      rw [errG_false hh] at c4
      have C3 := Lib.hid c3; clear c3
      have C4 := Lib.hid c4; clear c4
      clear he hh ha
      go_enter Try.func7, Try.ntmps7
      go_wp2_with fail
      refine (sane_any _).mono ?_
      rintro e w1 ⟨rfl, b1⟩
      go_wp2_with fail
      refine (C1.out _).mono ?_
      rintro e w2 ⟨rfl, rfl⟩
      go_wp2_with fail
      refine (C2.out _).mono ?_
      rintro e w2 ⟨rfl, b2⟩
      go_wp2_with fail
      refine (C3.out _).mono ?_
      rintro e w3 ⟨rfl, b3⟩
      go_wp2_with fail
      refine (C4.out _).mono ?_
      rintro e w4 ⟨rfl, b4⟩
      go_wp2_with fail
      go_ret
      exact ⟨rfl, bl b1 (bl b2 (bl b3 b4))⟩
    · have he : elemB (n % 4611686018427377339) = false := by simpa using he
      rw [he] at hh
      rw [errG_false he] at c3
      rw [errG_true hh] at c4
      have C3 := Lib.hid c3; clear c3
      have C4 := Lib.hid c4; clear c4
      clear he hh ha
      go_enter Try.func7, Try.ntmps7
      go_wp2_with fail
      refine (sane_any _).mono ?_
      rintro e w1 ⟨rfl, b1⟩
      go_wp2_with fail
      refine (C1.out _).mono ?_
      rintro e w2 ⟨rfl, rfl⟩
      go_wp2_with fail
      refine (C2.out _).mono ?_
      rintro e w2 ⟨rfl, b2⟩
      go_wp2_with fail
      refine (C3.out _).mono ?_
      rintro e w3 ⟨rfl, b3⟩
      go_wp2_with fail
      refine (C4.out _).mono ?_
      rintro e w4 ⟨rfl, b4⟩
      go_wp2_with fail
      go_ret
      exact ⟨rfl, bl b1 (bl b2 (bl b3 b4))⟩

/-! ### the ring of scalars -/
theorem modq_l (x y : Int) : (x % 2305843009213688669) * y % 2305843009213688669 = x * y % 2305843009213688669 := by rw [Int.mul_emod, Int.emod_emod, ← Int.mul_emod]
theorem modq_r (x y : Int) : x * (y % 2305843009213688669) % 2305843009213688669 = x * y % 2305843009213688669 := by rw [Int.mul_emod, Int.emod_emod, ← Int.mul_emod]
theorem ring_laws {a b c : Int} (ha : scalB a = true) (hb : scalB b = true) (hc : scalB c = true) :
    sumV a b = sumV b a ∧ sumV (sumV a b) c = sumV a (sumV b c) ∧ prodV a b = prodV b a ∧ prodV (prodV a b) c = prodV a (prodV b c) ∧
    prodV a (sumV b c) = sumV (prodV a b) (prodV a c) ∧ sumV a 0 = a ∧ prodV a 1 = a ∧ prodV a 0 = 0 := by
  have h0 : scalB 0 = true := scalB_mk (by omega)
  have h1 : scalB 1 = true := scalB_mk (by omega)
  have ab := sum_scal ha hb; have bc := sum_scal hb hc; have pab := prod_scal ha hb; have pbc := prod_scal hb hc; have pac := prod_scal ha hc
  obtain ⟨a0, a1⟩ := scalB_true ha
  refine ⟨?_, ?_, ?_, ?_, ?_, ?_, ?_, ?_⟩
  · rw [ab.2.1, (sum_scal hb ha).2.1, Int.add_comm]
  · rw [(sum_scal ab.1 hc).2.1, (sum_scal ha bc.1).2.1, ab.2.1, bc.2.1]; omega
  · rw [pab.2.1, (prod_scal hb ha).2.1, Int.mul_comm]
  · rw [(prod_scal pab.1 hc).2.1, (prod_scal ha pbc.1).2.1, pab.2.1, pbc.2.1, modq_l, modq_r, Int.mul_assoc]
  · rw [(prod_scal ha bc.1).2.1, (sum_scal pab.1 pac.1).2.1, bc.2.1, pab.2.1, pac.2.1, modq_r, Int.mul_add, ← Int.add_emod]
  · rw [(sum_scal ha h0).2.1, Int.add_zero]; exact Int.emod_eq_of_lt a0 a1
  · rw [(prod_scal ha h1).2.1, Int.mul_one]; exact Int.emod_eq_of_lt a0 a1
  · rw [(prod_scal ha h0).2.1, Int.mul_zero]; rfl

set_option maxRecDepth 100000 in
theorem ring_walk (x y z : Int) (w : World) : Calls Try.prog 6 #[.int .i64 x, .int .i64 y, .int .i64 z] w fun e w' => e = .returned (.bool true) ∧ Below w.heap.size w w' := by
  have ha := ofV_scal x
  have hb := ofV_scal y
  have hc := ofV_scal z
  have cx := fun W => of_any x W
  have cy := fun W => of_any y W
  have cz := fun W => of_any z W
  obtain ⟨a, haa⟩ : ∃ j, ofV x = j := ⟨_, rfl⟩
  obtain ⟨b, hbb⟩ : ∃ j, ofV y = j := ⟨_, rfl⟩
  obtain ⟨c, hcc⟩ : ∃ j, ofV z = j := ⟨_, rfl⟩
  rw [haa] at ha cx
  rw [hbb] at hb cy
  rw [hcc] at hc cz
  obtain ⟨r1, r2, r3, r4, r5, r6, r7, r8⟩ := ring_laws ha hb hc
  have CX := Lib.hid cx; have CY := Lib.hid cy; have CZ := Lib.hid cz
  have R1 := Lib.hid r1; have R2 := Lib.hid r2; have R3 := Lib.hid r3; have R4 := Lib.hid r4; have R5 := Lib.hid r5; have R6 := Lib.hid r6; have R7 := Lib.hid r7; have R8 := Lib.hid r8
  clear cx cy cz r1 r2 r3 r4 r5 r6 r7 r8 haa hbb hcc ha hb hc
  go_enter Try.func6, Try.ntmps6
  go_wp2_with fail
  refine (sane_any _).mono ?_
  rintro e w1 ⟨rfl, b1⟩
  go_wp2_with fail
  refine (CX.out _).mono ?_
  rintro e w2 ⟨rfl, rfl⟩
  go_wp2_with fail
  refine (CY.out _).mono ?_
  rintro e w2 ⟨rfl, rfl⟩
  go_wp2_with fail
  refine (CZ.out _).mono ?_
  rintro e w2 ⟨rfl, rfl⟩
  go_wp2_with fail
  refine (ladd_any _ _ _).mono ?_
  rintro e w2 ⟨rfl, b2⟩
  go_wp2_with fail
  refine (ladd_any _ _ _).mono ?_
  rintro e w3 ⟨rfl, b3⟩
  rw [R1.out]
  go_wp2_with fail
  refine (ladd_any _ _ _).mono ?_
  rintro e w4 ⟨rfl, b4⟩
  go_wp2_with fail
  refine (ladd_any _ _ _).mono ?_
  rintro e w5 ⟨rfl, b5⟩
  go_wp2_with fail
  refine (ladd_any _ _ _).mono ?_
  rintro e w6 ⟨rfl, b6⟩
  go_wp2_with fail
  refine (ladd_any _ _ _).mono ?_
  rintro e w7 ⟨rfl, b7⟩
  rw [R2.out]
  go_wp2_with fail
  refine (ltimes_any _ _ _).mono ?_
  rintro e w8 ⟨rfl, b8⟩
  go_wp2_with fail
  refine (ltimes_any _ _ _).mono ?_
  rintro e w9 ⟨rfl, b9⟩
  rw [R3.out]
  go_wp2_with fail
  refine (ltimes_any _ _ _).mono ?_
  rintro e w10 ⟨rfl, b10⟩
  go_wp2_with fail
  refine (ltimes_any _ _ _).mono ?_
  rintro e w11 ⟨rfl, b11⟩
  go_wp2_with fail
  refine (ltimes_any _ _ _).mono ?_
  rintro e w12 ⟨rfl, b12⟩
  go_wp2_with fail
  refine (ltimes_any _ _ _).mono ?_
  rintro e w13 ⟨rfl, b13⟩
  rw [R4.out]
  go_wp2_with fail
  refine (ladd_any _ _ _).mono ?_
  rintro e w14 ⟨rfl, b14⟩
  go_wp2_with fail
  refine (ltimes_any _ _ _).mono ?_
  rintro e w15 ⟨rfl, b15⟩
  go_wp2_with fail
  refine (ltimes_any _ _ _).mono ?_
  rintro e w16 ⟨rfl, b16⟩
  go_wp2_with fail
  refine (ltimes_any _ _ _).mono ?_
  rintro e w17 ⟨rfl, b17⟩
  go_wp2_with fail
  refine (ladd_any _ _ _).mono ?_
  rintro e w18 ⟨rfl, b18⟩
  rw [R5.out]
  go_wp2_with fail
  refine (ladd_any _ _ _).mono ?_
  rintro e w19 ⟨rfl, b19⟩
  rw [R6.out]
  go_wp2_with fail
  refine (ltimes_any _ _ _).mono ?_
  rintro e w20 ⟨rfl, b20⟩
  rw [R7.out]
  go_wp2_with fail
  refine (ltimes_any _ _ _).mono ?_
  rintro e w21 ⟨rfl, b21⟩
  rw [R8.out]
  go_wp2_with fail
  go_ret
  exact ⟨rfl, bl b1 (bl b2 (bl b3 (bl b4 (bl b5 (bl b6 (bl b7 (bl b8 (bl b9 (bl b10 (bl b11 (bl b12 (bl b13 (bl b14 (bl b15 (bl b16 (bl b17 (bl b18 (bl b19 (bl b20 b21)))))))))))))))))))⟩
end Go.Proofs.Ytedokiemlkccaaa
