/- The group of squares modulo P and the ring of scalars modulo Q, in plain numbers. -/
import Derived.Test.YtedokiemlkccaaaDoorNum
set_option linter.all false
namespace Go.Proofs.YtedokiemlkccaaaDoor.Grp
open Go.Proofs.YtedokiemlkccaaaDoor.Num

/-- the prime P. -/
def P : Nat := 4611686018427377339
/-- the prime Q. -/
def Q : Nat := 2305843009213688669
theorem P_eq : P = 4611686018427377339 := rfl
theorem Q_eq : Q = 2305843009213688669 := rfl
theorem pq : P - 1 = Q * 2 := by decide
theorem primeP : Prime P := Num.primeP
theorem primeQ : Prime Q := Num.primeQ

/-- a power modulo P. -/
def pw (a k : Nat) : Nat := a ^ k % P

theorem pw_lt (a k : Nat) : pw a k < P := Nat.mod_lt _ (by decide)
theorem pw_zero (a : Nat) : pw a 0 = 1 := by unfold pw; rw [Nat.pow_zero]; rfl
theorem pw_one {a : Nat} (h : a < P) : pw a 1 = a := by unfold pw; rw [Nat.pow_one]; exact Nat.mod_eq_of_lt h
theorem one_pw (k : Nat) : pw 1 k = 1 := by unfold pw; rw [Nat.one_pow]; rfl
theorem pw_add (a j k : Nat) : pw a (j + k) = pw a j * pw a k % P := by unfold pw; rw [Nat.pow_add, Nat.mul_mod]
theorem pw_base (a k : Nat) : pw (a % P) k = pw a k := by unfold pw; rw [← Nat.pow_mod]
theorem pw_mul (a j k : Nat) : pw a (j * k) = pw (pw a j) k := by
  show _ = pw (a ^ j % P) k
  rw [pw_base]; unfold pw; rw [Nat.pow_mul]
theorem mul_pw (a b k : Nat) : pw (a * b % P) k = pw a k * pw b k % P := by rw [pw_base]; unfold pw; rw [Nat.mul_pow, Nat.mul_mod]
theorem pw_succ (a k : Nat) : pw a (k + 1) = pw a k * a % P := by
  rw [pw_add]; unfold pw; rw [Nat.pow_one, Nat.mul_mod_mod]

theorem pw_red {a : Nat} (h : pw a Q = 1) (k : Nat) : pw a (k % Q) = pw a k := by
  conv => rhs; rw [← Nat.div_add_mod k Q, pw_add, pw_mul, h, one_pw, Nat.one_mul]
  exact (Nat.mod_eq_of_lt (pw_lt _ _)).symm

theorem pw_pos {a : Nat} (h : pw a Q = 1) : 1 ≤ a := by
  rcases Nat.eq_zero_or_pos a with rfl | h0
  · have e := pw_succ 0 (Q - 1)
    rw [show Q - 1 + 1 = Q by decide, h, Nat.mul_zero] at e; exact absurd e (by decide)
  · exact h0

/-- a square that is not 0 is an element. -/
theorem square_elem {m : Nat} (h : m * m % P ≠ 0) : pw (m * m % P) Q = 1 := by
  have hm : ¬ P ∣ m := fun hd => h (Nat.mod_eq_zero_of_dvd (Nat.dvd_trans hd (Nat.dvd_mul_left m m)))
  have := fermat primeP hm
  rw [pq, Nat.mul_comm, Nat.pow_mul, Nat.pow_two] at this
  rw [pw_base]; exact this

/-- products of elements are elements. -/
theorem mul_elem {a b : Nat} (ha : pw a Q = 1) (hb : pw b Q = 1) : pw (a * b % P) Q = 1 := by rw [mul_pw, ha, hb]; rfl
/-- powers of elements are elements. -/
theorem pw_elem {a : Nat} (ha : pw a Q = 1) (k : Nat) : pw (pw a k) Q = 1 := by rw [← pw_mul, Nat.mul_comm, pw_mul, ha, one_pw]
/-- the product with the inverse. -/
theorem mul_inv {a : Nat} (ha : pw a Q = 1) : a * pw a (Q - 1) % P = 1 := by
  have := pw_succ a (Q - 1)
  rw [show Q - 1 + 1 = Q by decide, ha, Nat.mul_comm] at this
  exact this.symm

theorem sq_one {x : Nat} (hx : x < P) (h : x * x % P = 1) : x = 1 ∨ x = P - 1 := by
  have h0 : 1 ≤ x := by rcases Nat.eq_zero_or_pos x with rfl | h0; · exact absurd h (by decide)
                        · exact h0
  have h1 : P ∣ x * x - 1 := dvd_of_mod (by rw [h]; rfl)
  have h2 : x * x - 1 = (x - 1) * (x + 1) := by
    obtain ⟨y, rfl⟩ : ∃ y, x = y + 1 := ⟨x - 1, by omega⟩
    rw [Nat.add_sub_cancel, Nat.mul_add y (y + 1) 1, Nat.add_mul, Nat.mul_add y y 1]; omega
  rw [h2] at h1
  rcases primeP.dvd_mul h1 with h3 | h3
  · left
    rcases Nat.eq_zero_or_pos (x - 1) with h4 | h4
    · omega
    · have := Nat.le_of_dvd h4 h3; omega
  · right
    have := Nat.le_of_dvd (by omega) h3; omega

/-- a to the power Q is 1 or P - 1. -/
theorem euler {a : Nat} (h1 : 1 ≤ a) (h2 : a < P) : pw a Q = 1 ∨ pw a Q = P - 1 := by
  refine sq_one (pw_lt _ _) ?_
  have hd : ¬ P ∣ a := fun hd => by have := Nat.le_of_dvd h1 hd; omega
  have := fermat primeP hd
  rw [pq, Nat.pow_mul, Nat.pow_two] at this
  rw [show pw a Q = a ^ Q % P from rfl, ← Nat.mul_mod]; exact this

theorem neg_odd {a : Nat} (h2 : a < P) (k : Nat) : pw (P - a) (2 * k + 1) = (P - pw a (2 * k + 1)) % P := by
  have hsq : (P - a) * (P - a) % P = a * a % P := by
    obtain ⟨b, hb⟩ : ∃ b, P = a + b := ⟨P - a, by omega⟩
    have e : P - a = b := by omega
    rw [e]
    -- b * b + 2ab + a*a = P*P
    have h3 : b * b + P * a = a * a + P * b := by
      rw [hb, Nat.add_mul, Nat.add_mul, Nat.mul_comm b a]; omega
    have h4 : (b * b + P * a) % P = (a * a + P * b) % P := by rw [h3]
    rwa [Nat.add_mul_mod_self_left, Nat.add_mul_mod_self_left] at h4
  have e1 : pw (P - a) (2 * k) = pw a (2 * k) := by
    rw [pw_mul, pw_mul]
    congr 1
    unfold pw; rw [Nat.pow_two, Nat.pow_two]; exact hsq
  rw [pw_succ, pw_succ, e1]
  -- c * (P - a) ≡ P - (c * a % P)
  generalize pw a (2 * k) = c
  have h5 : c * (P - a) + c * a = P * c := by rw [← Nat.mul_add, Nat.sub_add_cancel (Nat.le_of_lt h2), Nat.mul_comm]
  have h6 : (c * (P - a) + c * a) % P = 0 := by rw [h5]; exact Nat.mul_mod_right P c
  rw [Nat.add_mod] at h6
  have h7 := Nat.mod_lt (c * (P - a)) (show 0 < P by decide)
  have h8 := Nat.mod_lt (c * a) (show 0 < P by decide)
  generalize c * (P - a) % P = x at *
  generalize c * a % P = y at *
  rcases Nat.eq_zero_or_pos y with hy | hy
  · subst hy
    rw [Nat.add_zero, Nat.mod_eq_of_lt h7] at h6
    subst h6
    rw [Nat.sub_zero, Nat.mod_self]
  · rw [Nat.mod_eq_of_lt (a := P - y) (by omega)]
    have h9 : x + y = P := by
      rcases Nat.lt_or_ge (x + y) P with hlt | hge
      · rw [Nat.mod_eq_of_lt hlt] at h6; omega
      · rw [Nat.mod_eq_sub_mod hge, Nat.mod_eq_of_lt (by omega)] at h6; omega
    omega

/-- of a and P - a exactly one is an element. -/
theorem halves {a : Nat} (h1 : 1 ≤ a) (h2 : a < P) : pw a Q = 1 ↔ pw (P - a) Q ≠ 1 := by
  have hn := neg_odd h2 1152921504606844334
  rw [show 2 * 1152921504606844334 + 1 = Q from rfl] at hn
  rw [hn]
  rcases euler h1 h2 with h | h
  · rw [h]; decide
  · rw [h]; decide

/-- 4 has the order Q. -/
theorem base_elem : pw 4 Q = 1 := by
  have := powMod_eq P 64 4 Q (by decide)
  rw [pw, ← this]; decide +kernel

theorem base_ne_one {k : Nat} (h1 : 1 ≤ k) (h2 : k < Q) : pw 4 k ≠ 1 := by
  intro h
  have hd : ¬ Q ∣ k := fun hd => by have := Nat.le_of_dvd h1 hd; omega
  have hf := fermat primeQ hd
  have e1 : pw 4 (k ^ (Q - 1)) = 1 := by
    rw [show k ^ (Q - 1) = k * k ^ (Q - 2) from by rw [show Q - 1 = Q - 2 + 1 by decide, Nat.pow_succ, Nat.mul_comm], pw_mul, h, one_pw]
  rw [← pw_red base_elem, hf] at e1
  exact absurd e1 (by decide)

end Go.Proofs.YtedokiemlkccaaaDoor.Grp
