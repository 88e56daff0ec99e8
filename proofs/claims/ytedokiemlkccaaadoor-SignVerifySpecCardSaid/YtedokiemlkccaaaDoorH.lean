/- The walks of the reference of package group: they return the same plain functions. -/
import Derived.Test.YtedokiemlkccaaaDoorG
namespace Go.Proofs.YtedokiemlkccaaaDoor
open Go.RowKit

/-! ### the reference -/

/-- Modular, in natural numbers. -/
theorem modular_nat (a b m r : Nat) (hr : a * b % m = r) (ha : a < m) (hm : m ≤ 4611686018427387904) (hb : b ≤ 4611686018427387904) (w : World) :
    Calls Tryd.prog 75 #[.int .i64 a, .int .i64 b, .int .i64 m] w fun e w' => e = .returned (.int .i64 r) ∧ w = w' := by
  have c := modular_any a b m w (by omega) (by omega) (by omega) (by omega) (by omega)
  rw [← Int.natCast_mul, ← Int.natCast_emod, hr] at c
  exact c

theorem pw_even (A K : Nat) (h : K % 2 = 0) : Grp.pw (A * A % Grp.P) (K / 2) = Grp.pw A K := by
  rw [Grp.pw_base, ← Nat.pow_two]; unfold Grp.pw; rw [← Nat.pow_mul]; congr 2; omega
theorem pw_odd (A K : Nat) (h : K % 2 = 1) : A * Grp.pw (A * A % Grp.P) (K / 2) % Grp.P = Grp.pw A K := by
  rw [Grp.pw_base, ← Nat.pow_two]; unfold Grp.pw; rw [← Nat.pow_mul, Nat.mul_mod_mod, Nat.mul_comm, ← Nat.pow_succ]; congr 2; omega

/-- the reference's Power. -/
theorem rpower_any (a k : Nat) (w : World) (ha : a < 4611686018427377339) (hk : k ≤ 4611686018427387904) :
    Calls Tryd.prog 119 #[.int .i64 a, .int .i64 k] w fun e w' => e = .returned (.int .i64 (Grp.pw a k)) ∧ w = w' := by
  go_enter Tryd.func119, Tryd.ntmps119
  go_wp2_with fail
  go_loop [0, 1, 5] (fun x y z => ∃ A K C : Nat, x = .int .i64 A ∧ y = .int .i64 K ∧ z = .int .i64 C ∧ A < 4611686018427377339 ∧ C < 4611686018427377339 ∧ K ≤ 4611686018427387904 ∧ Hid (C * Grp.pw A K % Grp.P = Grp.pw a k)) (fun _ y _ => (intOf y).toNat)
  case atStart => exact ⟨a, k, 1, rfl, rfl, rfl, ha, by omega, hk, Lib.hid (by rw [Nat.one_mul]; exact Nat.mod_eq_of_lt (Grp.pw_lt _ _))⟩
  case round =>
    obtain ⟨A, K, C, rfl, rfl, rfl, hA, hC, hK, hinv⟩ := hrel
    by_cases hlt : 0 < K
    · obtain ⟨A2, hA2⟩ : ∃ r, A * A % 4611686018427377339 = r := ⟨_, rfl⟩
      obtain ⟨C2, hC2⟩ : ∃ r, C * A % 4611686018427377339 = r := ⟨_, rfl⟩
      have c1 := fun W => modular_nat A A 4611686018427377339 A2 hA2 hA (by omega) (by omega) W
      have c2 := fun W => modular_nat C A 4611686018427377339 C2 hC2 hC (by omega) (by omega) W
      have lA := Nat.mod_lt (A * A) (show 0 < 4611686018427377339 by omega)
      have lC := Nat.mod_lt (C * A) (show 0 < 4611686018427377339 by omega)
      rw [show ((4611686018427377339 : Nat) : Int) = 4611686018427377339 from rfl] at c1 c2
      rw [hA2] at lA
      rw [hC2] at lC
      have HA2 := Lib.hid hA2; clear hA2
      have HC2 := Lib.hid hC2; clear hC2
      have C1 := Lib.hid c1; clear c1
      have CC := Lib.hid c2; clear c2
      have hK0 : (0 : Int) < K := by omega
      have hn : ((K / 2 : Nat) : Int) = (K : Int) / 2 := by omega
      have HN := Lib.hid hn; clear hn
      rcases Nat.mod_two_eq_zero_or_one K with h2 | h2
      · have h3 : ((K : Int) % 2 == 1) = false := by rw [beq_eq_false_iff_ne]; omega
        have he := pw_even A K h2
        rw [show A * A % Grp.P = A2 from HA2.out] at he
        have HE := Lib.hid he; clear he h2
        go_wp2_with fail
        refine (C1.out _).mono ?_
        rintro e w1 ⟨rfl, rfl⟩
        go_wp2_with fail
        go_round
        case rel => exact ⟨A2, K / 2, C, rfl, by rw [HN.out], rfl, lA, hC, by omega, Lib.hid (by rw [HE.out]; exact hinv.out)⟩
        case measure => simp [intOf]; omega
      · have h3 : ((K : Int) % 2 == 1) = true := by rw [beq_iff_eq]; omega
        have he := pw_odd A K h2
        rw [show A * A % Grp.P = A2 from HA2.out] at he
        have HE := Lib.hid he; clear he h2
        go_wp2_with fail
        refine (CC.out _).mono ?_
        rintro e w1 ⟨rfl, rfl⟩
        go_wp2_with fail
        refine (C1.out _).mono ?_
        rintro e w1 ⟨rfl, rfl⟩
        go_wp2_with fail
        go_round
        case rel =>
          refine ⟨A2, K / 2, C2, rfl, by rw [HN.out], rfl, lA, lC, by omega, Lib.hid ?_⟩
          rw [← hinv.out, ← HE.out, ← HC2.out]
          show C * A % Grp.P * Grp.pw A2 (K / 2) % Grp.P = _
          rw [Nat.mod_mul_mod, Nat.mul_mod_mod, Nat.mul_assoc]
        case measure => simp [intOf]; omega
    · obtain rfl : K = 0 := by omega
      go_wp2_with fail
      go_ret
      exact ⟨ret_int (by rw [← hinv.out, Grp.pw_zero, Nat.mul_one]; exact congrArg Int.ofNat (Nat.mod_eq_of_lt hC).symm), rfl⟩

/-- the reference's Check. -/
theorem rcheck_any (a : Int) (w : World) :
    Calls Tryd.prog 103 #[.int .i64 a] w fun e w' => e = .returned (.int .i64 (errG a)) ∧ w = w' := by
  by_cases ha : a < 1
  · have hf : errG a = 30 := by unfold errG elemB; rw [decide_eq_false]; rfl; omega
    have hF := Lib.hid hf
    clear hf
    go_enter Tryd.func103, Tryd.ntmps103
    go_wp2_with fail
    go_ret
    exact ⟨ret_int hF.out.symm, rfl⟩
  · by_cases hb : 4611686018427377339 ≤ a
    · have hf : errG a = 30 := by unfold errG elemB; rw [decide_eq_false]; rfl; omega
      have hF := Lib.hid hf
      clear hf
      go_enter Tryd.func103, Tryd.ntmps103
      go_wp2_with fail
      go_ret
      exact ⟨ret_int hF.out.symm, rfl⟩
    · obtain ⟨n, rfl⟩ := Int.eq_ofNat_of_zero_le (show 0 ≤ a by omega)
      have c := rpower_any n Grp.Q w (by omega) (by rw [Grp.Q_eq]; omega)
      rw [Grp.Q_eq, show ((2305843009213688669 : Nat) : Int) = 2305843009213688669 from rfl, ← Grp.Q_eq] at c
      by_cases hp : Grp.pw n Grp.Q = 1
      · have hf : errG n = 0 := errG_true (elemB_mk ⟨by omega, by omega, by rw [Int.toNat_natCast]; exact hp⟩)
        have hF := Lib.hid hf
        rw [hp, show ((1 : Nat) : Int) = 1 from rfl] at c
        have C := Lib.hid c; clear c
        clear hf hp
        go_enter Tryd.func103, Tryd.ntmps103
        go_wp2_with fail
        refine C.out.mono ?_
        rintro e w' ⟨rfl, rfl⟩
        go_wp2_with fail
        go_ret
        exact ⟨ret_int hF.out.symm, rfl⟩
      · have hf : errG n = 30 := by unfold errG elemB; rw [decide_eq_false]; rfl; rintro ⟨_, _, h⟩; rw [Int.toNat_natCast] at h; exact hp h
        have hF := Lib.hid hf
        obtain ⟨x, hx⟩ : ∃ x, Grp.pw n Grp.Q = x := ⟨_, rfl⟩
        rw [hx] at c hp
        have hp1 : ((x : Int) != 1) = true := by rw [bne_iff_ne]; omega
        have C := Lib.hid c; clear c
        clear hf hx
        go_enter Tryd.func103, Tryd.ntmps103
        go_wp2_with fail
        refine C.out.mono ?_
        rintro e w' ⟨rfl, rfl⟩
        go_wp2_with fail
        go_ret
        exact ⟨ret_int hF.out.symm, rfl⟩

/-- the reference's IsScalar. -/
theorem rscal_any (k : Int) (w : World) : Calls Tryd.prog 73 #[.int .i64 k] w fun e w' => e = .returned (.bool (scalB k)) ∧ w = w' := by
  by_cases h0 : 0 ≤ k
  · by_cases h1 : k < 2305843009213688669
    · have hf := scalB_mk ⟨h0, h1⟩
      have HF := Lib.hid hf; clear hf
      go_enter Tryd.func73, Tryd.ntmps73
      go_wp2_with fail
      go_ret
      exact ⟨ret_bool HF.out.symm, rfl⟩
    · have hf : scalB k = false := scalB_false (by omega)
      have HF := Lib.hid hf; clear hf
      go_enter Tryd.func73, Tryd.ntmps73
      go_wp2_with fail
      go_ret
      exact ⟨ret_bool HF.out.symm, rfl⟩
  · have hf : scalB k = false := scalB_false (by omega)
    have HF := Lib.hid hf; clear hf
    go_enter Tryd.func73, Tryd.ntmps73
    go_wp2_with fail
    go_ret
    exact ⟨ret_bool HF.out.symm, rfl⟩

/-- the reference's Exp. -/
theorem rexp_any (a k : Int) (w : World) :
    Calls Tryd.prog 104 #[.int .i64 a, .int .i64 k] w fun e w' => e = .returned (.tuple #[.int .i64 (expV a k), .int .i64 (expE a k)]) ∧ w = w' := by
  have c0 := rcheck_any a w
  by_cases ha : elemB a = true
  · rw [errG_true ha] at c0
    have C0 := Lib.hid c0; clear c0
    have c1 := rscal_any k w
    by_cases hk : scalB k = true
    · have e1 : expV a k = ((Grp.pw a.toNat k.toNat : Nat) : Int) := by unfold expV; rw [ha, hk]; rfl
      have e2 : expE a k = 0 := by unfold expE; rw [ha, hk]; rfl
      rw [e1, e2]
      rw [hk] at c1
      obtain ⟨a1, a2, _⟩ := elemB_true ha
      obtain ⟨k1, k2⟩ := scalB_true hk
      obtain ⟨a, rfl⟩ := Int.eq_ofNat_of_zero_le (show 0 ≤ a by omega)
      obtain ⟨k, rfl⟩ := Int.eq_ofNat_of_zero_le k1
      rw [Int.toNat_natCast, Int.toNat_natCast]
      have c2 := fun W => rpower_any a k W (by omega) (by omega)
      obtain ⟨p, hpe⟩ : ∃ p, Grp.pw a k = p := ⟨_, rfl⟩
      rw [hpe] at c2 ⊢
      have C1 := Lib.hid c1; clear c1
      have C2 := Lib.hid c2; clear c2
      clear hpe e1 e2 ha hk
      go_enter Tryd.func104, Tryd.ntmps104
      go_wp2_with fail
      refine C0.out.mono ?_
      rintro e w1 ⟨rfl, rfl⟩
      go_wp2_with fail
      refine C1.out.mono ?_
      rintro e w2 ⟨rfl, rfl⟩
      go_wp2_with fail
      refine (C2.out _).mono ?_
      rintro e w2 ⟨rfl, rfl⟩
      go_wp2_with fail
      go_ret2
      exact ⟨rfl, rfl⟩
    · have hk : scalB k = false := by simpa using hk
      have e1 : expV a k = 0 := by unfold expV; rw [hk, Bool.and_false]; rfl
      have e2 : expE a k = 1 := by unfold expE; rw [ha, hk]; rfl
      rw [hk] at c1
      rw [e1, e2]
      have C1 := Lib.hid c1; clear c1
      clear e1 e2 ha hk
      go_enter Tryd.func104, Tryd.ntmps104
      go_wp2_with fail
      refine C0.out.mono ?_
      rintro e w1 ⟨rfl, rfl⟩
      go_wp2_with fail
      refine C1.out.mono ?_
      rintro e w2 ⟨rfl, rfl⟩
      go_wp2_with fail
      go_ret2
      exact ⟨rfl, rfl⟩
  · have ha : elemB a = false := by simpa using ha
    have e1 : expV a k = 0 := by unfold expV; rw [ha]; rfl
    have e2 : expE a k = 30 := by unfold expE; rw [ha]; rfl
    rw [errG_false ha] at c0
    have C0 := Lib.hid c0; clear c0
    rw [e1, e2]
    clear e1 e2 ha
    go_enter Tryd.func104, Tryd.ntmps104
    go_wp2_with fail
    refine C0.out.mono ?_
    rintro e w1 ⟨rfl, rfl⟩
    go_wp2_with fail
    go_ret2
    exact ⟨rfl, rfl⟩
/-- the reference's Base. -/
theorem rbase_any (k : Int) (w : World) :
    Calls Tryd.prog 99 #[.int .i64 k] w fun e w' => e = .returned (.tuple #[.int .i64 (expV 4 k), .int .i64 (expE 4 k)]) ∧ w = w' := by
  go_enter Tryd.func99, Tryd.ntmps99
  go_wp2_with fail
  refine (rexp_any _ _ _).mono ?_
  rintro e w1 ⟨rfl, rfl⟩
  go_wp2_with fail
  go_ret2
  exact ⟨rfl, rfl⟩
/-- the reference's Mul. -/
theorem rmul_any (a b : Int) (w : World) :
    Calls Tryd.prog 105 #[.int .i64 a, .int .i64 b] w fun e w' => e = .returned (.tuple #[.int .i64 (mulV a b), .int .i64 (mulE a b)]) ∧ w = w' := by
  have c0 := rcheck_any a w
  have c1 := rcheck_any b w
  by_cases ha : elemB a = true
  · by_cases hb : elemB b = true
    · have e1 : mulV a b = a * b % 4611686018427377339 := by unfold mulV; rw [ha, hb]; rfl
      have e2 : mulE a b = 0 := by unfold mulE; rw [ha, errG_true hb]; rfl
      rw [errG_true ha] at c0
      rw [errG_true hb] at c1
      rw [e1, e2]
      obtain ⟨a1, a2, _⟩ := elemB_true ha
      obtain ⟨b1, b2, _⟩ := elemB_true hb
      have c2 := modular_any a b 4611686018427377339 w (by omega) (by omega) (by omega) (by omega) (by omega)
      obtain ⟨r, hr⟩ : ∃ r, a * b % 4611686018427377339 = r := ⟨_, rfl⟩
      rw [hr] at c2 ⊢
      clear ha hb e1 e2 hr
      have C0 := Lib.hid c0; clear c0
      have C1 := Lib.hid c1; clear c1
      have C2 := Lib.hid c2; clear c2
      go_enter Tryd.func105, Tryd.ntmps105
      go_wp2_with fail
      refine C0.out.mono ?_
      rintro e w1 ⟨rfl, rfl⟩
      go_wp2_with fail
      refine C1.out.mono ?_
      rintro e w1 ⟨rfl, rfl⟩
      go_wp2_with fail
      refine C2.out.mono ?_
      rintro e w1 ⟨rfl, rfl⟩
      go_wp2_with fail
      go_ret2
      exact ⟨rfl, rfl⟩
    · have hb : elemB b = false := by simpa using hb
      have e1 : mulV a b = 0 := by unfold mulV; rw [hb, Bool.and_false]; rfl
      have e2 : mulE a b = 30 := by unfold mulE; rw [ha, errG_false hb]; rfl
      rw [errG_true ha] at c0
      rw [errG_false hb] at c1
      have C0 := Lib.hid c0; clear c0
      have C1 := Lib.hid c1; clear c1
      rw [e1, e2]
      clear e1 e2 ha hb
      go_enter Tryd.func105, Tryd.ntmps105
      go_wp2_with fail
      refine C0.out.mono ?_
      rintro e w1 ⟨rfl, rfl⟩
      go_wp2_with fail
      refine C1.out.mono ?_
      rintro e w1 ⟨rfl, rfl⟩
      go_wp2_with fail
      go_ret2
      exact ⟨rfl, rfl⟩
  · have ha : elemB a = false := by simpa using ha
    have e1 : mulV a b = 0 := by unfold mulV; rw [ha]; rfl
    have e2 : mulE a b = 30 := by unfold mulE; rw [ha]; rfl
    rw [errG_false ha] at c0
    have C0 := Lib.hid c0; clear c0 c1
    rw [e1, e2]
    clear e1 e2 ha
    go_enter Tryd.func105, Tryd.ntmps105
    go_wp2_with fail
    refine C0.out.mono ?_
    rintro e w1 ⟨rfl, rfl⟩
    go_wp2_with fail
    go_ret2
    exact ⟨rfl, rfl⟩
end Go.Proofs.YtedokiemlkccaaaDoor
