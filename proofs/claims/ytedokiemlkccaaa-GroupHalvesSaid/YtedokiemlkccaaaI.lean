/- The walks of what the statements on the group alone use: Inv, Square and Of of the reference, and the statements' own helpers. -/
import Derived.Test.YtedokiemlkccaaaH
import Derived.Test.YtedokiemlkccaaaJ
namespace Go.Proofs.Ytedokiemlkccaaa
open Go.RowKit

/-- the reference's Inv. -/
theorem rinv_any (a : Int) (w : World) :
    Calls Try.prog 12 #[.int .i64 a] w fun e w' => e = .returned (.tuple #[.int .i64 (expV a 2305843009213688668), .int .i64 (expE a 2305843009213688668)]) ∧ w = w' := by
  have c0 := rcheck_any a w
  have hk : scalB 2305843009213688668 = true := scalB_mk (by omega)
  by_cases ha : elemB a = true
  · rw [errG_true ha] at c0
    have C0 := Lib.hid c0; clear c0
    have e1 : expV a 2305843009213688668 = ((Grp.pw a.toNat 2305843009213688668 : Nat) : Int) := by unfold expV; rw [ha, hk]; rfl
    have e2 : expE a 2305843009213688668 = 0 := by unfold expE; rw [ha, hk]; rfl
    rw [e1, e2]
    obtain ⟨a1, a2, _⟩ := elemB_true ha
    obtain ⟨a, rfl⟩ := Int.eq_ofNat_of_zero_le (show 0 ≤ a by omega)
    rw [Int.toNat_natCast]
    have c2 := fun W => rpower_any a 2305843009213688668 W (by omega) (by omega)
    obtain ⟨p, hpe⟩ : ∃ p, Grp.pw a 2305843009213688668 = p := ⟨_, rfl⟩
    rw [hpe, show ((2305843009213688668 : Nat) : Int) = 2305843009213688668 from rfl] at c2
    rw [hpe]
    have C2 := Lib.hid c2; clear c2
    clear hpe e1 e2 ha hk
    go_enter Try.func12, Try.ntmps12
    go_wp2_with fail
    refine C0.out.mono ?_
    rintro e w1 ⟨rfl, rfl⟩
    go_wp2_with fail
    refine (C2.out _).mono ?_
    rintro e w2 ⟨rfl, rfl⟩
    go_wp2_with fail
    go_ret2
    exact ⟨rfl, rfl⟩
  · have ha : elemB a = false := by simpa using ha
    have e1 : expV a 2305843009213688668 = 0 := by unfold expV; rw [ha]; rfl
    have e2 : expE a 2305843009213688668 = 30 := by unfold expE; rw [ha]; rfl
    rw [errG_false ha] at c0
    have C0 := Lib.hid c0; clear c0
    rw [e1, e2]
    clear e1 e2 ha hk
    go_enter Try.func12, Try.ntmps12
    go_wp2_with fail
    refine C0.out.mono ?_
    rintro e w1 ⟨rfl, rfl⟩
    go_wp2_with fail
    go_ret2
    exact ⟨rfl, rfl⟩

/-- the square of a number modulo P. -/
def squareV (n : Int) : Int := (n % 4611686018427377339) * (n % 4611686018427377339) % 4611686018427377339
theorem square_any (n : Int) (w : World) (h0 : 0 ≤ n) (h1 : n < 18446744073709551616) :
    Calls Try.prog 32 #[.int .u64 n] w fun e w' => e = .returned (.int .i64 (squareV n)) ∧ w = w' := by
  have c := fun W => modular_any (n % 4611686018427377339) (n % 4611686018427377339) 4611686018427377339 W (by omega) (by omega) (by omega) (by omega) (by omega)
  have hs : squareV n = (n % 4611686018427377339) * (n % 4611686018427377339) % 4611686018427377339 := rfl
  rw [← hs] at c
  have C := Lib.hid c
  clear c hs
  go_enter Try.func32, Try.ntmps32
  go_wp2_with fail
  refine (C.out _).mono ?_
  rintro e w1 ⟨rfl, rfl⟩
  go_wp2_with fail
  go_ret
  exact ⟨rfl, rfl⟩
theorem element_any (n : Int) (w : World) (h0 : 0 ≤ n) (h1 : n < 18446744073709551616) :
    Calls Try.prog 19 #[.int .u64 n] w fun e w' => e = .returned (.tuple #[.int .i64 (squareV n), .bool (squareV n != 0)]) ∧ w = w' := by
  have c := square_any n w h0 h1
  have C := Lib.hid c
  clear c
  go_enter Try.func19, Try.ntmps19
  go_wp2_with fail
  refine C.out.mono ?_
  rintro e w1 ⟨rfl, rfl⟩
  go_wp2_with fail
  go_ret2
  exact ⟨rfl, rfl⟩

/-- the scalar that a number stands for. -/
def ofV (n : Int) : Int := bits .and .i64 n 4611686018427387903 % 2305843009213688669
theorem and62 (n : Int) : ∃ m : Nat, bits .and .i64 n 4611686018427387903 = m ∧ m ≤ 4611686018427387903 := by
  refine ⟨((BitVec.ofInt 64 n) &&& (BitVec.ofInt 64 4611686018427387903)).toNat, ?_, ?_⟩
  · unfold bits
    have h : ((BitVec.ofInt 64 n) &&& (BitVec.ofInt 64 4611686018427387903)).toNat ≤ 4611686018427387903 := by
      rw [BitVec.toNat_and]; exact Nat.le_trans Nat.and_le_right (by decide)
    show IntKind.i64.wrap ((((BitVec.ofInt 64 n) &&& (BitVec.ofInt 64 4611686018427387903) : BitVec 64).toNat : Nat) : Int) = _
    generalize ((BitVec.ofInt 64 n) &&& (BitVec.ofInt 64 4611686018427387903)).toNat = m at *
    simp only [IntKind.wrap, IntKind.bits, IntKind.signed]
    simp
    omega
  · rw [BitVec.toNat_and]; exact Nat.le_trans Nat.and_le_right (by decide)
theorem ofV_scal (n : Int) : scalB (ofV n) = true := by
  obtain ⟨m, h, _⟩ := and62 n
  unfold ofV; rw [h]; exact scalB_mk (by omega)
theorem of_any (n : Int) (w : World) :
    Calls Try.prog 20 #[.int .i64 n] w fun e w' => e = .returned (.int .i64 (ofV n)) ∧ w = w' := by
  obtain ⟨m, h, hm⟩ := and62 n
  have hv : ofV n = (m : Int) % 2305843009213688669 := by unfold ofV; rw [h]
  rw [hv]
  clear hv
  go_enter Try.func20, Try.ntmps20
  go_wp2_with fail
  go_ret
  exact ⟨rfl, rfl⟩
theorem ladd_any (a b : Int) (w : World) : Calls Try.prog 23 #[.int .i64 a, .int .i64 b] w fun e w' => e = .returned (.int .i64 (sumV a b)) ∧ Below w.heap.size w w' := by
  go_enter Try.func23, Try.ntmps23
  go_wp2_with fail
  refine (gsum_any _ _ _).mono ?_
  rintro e w1 ⟨rfl, hb⟩
  go_wp2_with fail
  go_ret
  exact ⟨rfl, hb⟩
theorem ltimes_any (a b : Int) (w : World) : Calls Try.prog 24 #[.int .i64 a, .int .i64 b] w fun e w' => e = .returned (.int .i64 (prodV a b)) ∧ Below w.heap.size w w' := by
  go_enter Try.func24, Try.ntmps24
  go_wp2_with fail
  refine (gprod_any _ _ _).mono ?_
  rintro e w1 ⟨rfl, hb⟩
  go_wp2_with fail
  go_ret
  exact ⟨rfl, hb⟩
end Go.Proofs.Ytedokiemlkccaaa
