/- The arithmetic of math/bits.Div64 (long division by two digits of 32 bits), in plain numbers. -/
namespace Go.Proofs.YtedokiemlkccaaaDoor.Dv

theorem key (u n1 n0 d q r K : Nat) (h : q * n1 + r = u) : q * (n1 * K + n0) + (K * r + d) = u * K + d + q * n0 := by
  have e : u * K = q * n1 * K + r * K := by rw [← h, Nat.add_mul]
  rw [Nat.mul_add, e, ← Nat.mul_assoc q n1 K, Nat.mul_comm K r]; omega

theorem le_iff {u n1 n0 d q r K : Nat} (h : q * n1 + r = u) : q * (n1 * K + n0) ≤ u * K + d ↔ q * n0 ≤ K * r + d := by
  have := key u n1 n0 d q r K h
  omega

/-- the quotient is one digit. -/
theorem quot_lt {u d z K : Nat} (hu : u < z) (hd : d < K) : (u * K + d) / z < K := by
  rw [Nat.div_lt_iff_lt_mul (by omega)]
  have : (u + 1) * K ≤ z * K := Nat.mul_le_mul_right K (by omega)
  rw [Nat.add_mul, Nat.one_mul] at this
  rw [Nat.mul_comm K z]; omega

theorem too_great {u n1 n0 d q r K : Nat} (h : q * n1 + r = u) (hu : u < n1 * K + n0) (hd : d < K) (hc : K ≤ q ∨ K * r + d < q * n0) : (u * K + d) / (n1 * K + n0) < q := by
  rcases hc with hc | hc
  · exact Nat.lt_of_lt_of_le (quot_lt hu hd) hc
  · rw [Nat.div_lt_iff_lt_mul (by omega)]
    have := key u n1 n0 d q r K h
    omega

theorem exact_at {u n1 n0 d q r K : Nat} (h : q * n1 + r = u) (hu : u < n1 * K + n0) (hq : (u * K + d) / (n1 * K + n0) ≤ q) (hc : q * n0 ≤ K * r + d) : q = (u * K + d) / (n1 * K + n0) := by
  have := (le_iff (d := d) (n0 := n0) (K := K) h).2 hc
  have := (Nat.le_div_iff_mul_le (k := n1 * K + n0) (by omega)).2 this
  omega

/-- the first guess is at most K + 1. -/
theorem guess {u n1 n0 K : Nat} (hu : u < n1 * K + n0) (h0 : n0 < K) (h1 : K ≤ 2 * n1) (hK : 0 < K) : u / n1 ≤ K + 1 := by
  have : u / n1 < K + 2 := by
    rw [Nat.div_lt_iff_lt_mul (by omega), Nat.add_mul, Nat.mul_comm K n1]; omega
  omega

theorem guess_ge {u n1 n0 d K : Nat} (h1 : 0 < n1) (hd : d < K) : (u * K + d) / (n1 * K + n0) ≤ u / n1 := by
  rw [Nat.le_div_iff_mul_le h1]
  have hpos : 0 < n1 * K + n0 := by have := Nat.mul_le_mul h1 (show 1 ≤ K by omega); omega
  have h2 := Nat.div_mul_le_self (u * K + d) (n1 * K + n0)
  generalize (u * K + d) / (n1 * K + n0) = q at *
  have h3 : q * n1 * K ≤ u * K + d := by rw [Nat.mul_add, ← Nat.mul_assoc] at h2; omega
  have h4 : q * n1 * K < (u + 1) * K := by rw [Nat.add_mul]; omega
  have := Nat.lt_of_mul_lt_mul_right h4
  omega

theorem mul_lt {q n0 : Nat} (hq : q ≤ 4294967297) (h0 : n0 < 4294967296) : q * n0 < 18446744073709551616 := by
  have := Nat.mul_le_mul hq (show n0 ≤ 4294967295 by omega)
  omega

/-- a break: the rest has passed K. -/
theorem at_break {n0 d q r : Nat} (hq : q ≤ 4294967296) (h0 : n0 < 4294967296) (hr : 4294967296 ≤ r) : q * n0 ≤ 4294967296 * r + d := by
  have h1 := Nat.mul_le_mul hq (show n0 ≤ 4294967295 by omega)
  have h2 := Nat.mul_le_mul_left 4294967296 hr
  omega

/-- the two digits make the quotient, and the rest is the rest. -/
theorem join {u d1 d0 z K : Nat} (hz : 0 < z) :
    ((u * K + d1) * K + d0) / z = (u * K + d1) / z * K + (((u * K + d1) % z) * K + d0) / z ∧ ((u * K + d1) * K + d0) % z = (((u * K + d1) % z) * K + d0) % z := by
  generalize u * K + d1 = x
  have e : x * K + d0 = x % z * K + d0 + z * (x / z * K) := by
    conv => lhs; rw [← Nat.div_add_mod x z]
    rw [Nat.add_mul, Nat.mul_assoc]; omega
  rw [e]
  constructor
  · rw [Nat.add_mul_div_left _ _ hz, Nat.add_comm]
  · rw [Nat.add_mul_mod_self_left]

/-- dividing both by a shift. -/
theorem shifted {n y s : Nat} (hs : 0 < s) : (n * s) / (y * s) = n / y ∧ (n * s) % (y * s) / s = n % y := by
  constructor
  · exact Nat.mul_div_mul_right n y hs
  · rw [Nat.mul_mod_mul_right, Nat.mul_div_cancel _ hs]

theorem digits4 (hi lo : Nat) : ((hi * 4 + lo / 4611686018427387904) * 4294967296 + lo * 4 % 18446744073709551616 / 4294967296) * 4294967296 + lo * 4 % 18446744073709551616 % 4294967296 = (hi * 18446744073709551616 + lo) * 4 := by
  omega
theorem digits8 (hi lo : Nat) : ((hi * 8 + lo / 2305843009213693952) * 4294967296 + lo * 8 % 18446744073709551616 / 4294967296) * 4294967296 + lo * 8 % 18446744073709551616 % 4294967296 = (hi * 18446744073709551616 + lo) * 8 := by
  omega
end Go.Proofs.YtedokiemlkccaaaDoor.Dv
