/- Number theory used by the proofs: Fermat's little theorem, a primality test (Pocklington), and the primes Q and P of the group. -/
namespace Go.Proofs.YtedokiemlkccaaaDoor.Num

/-- a prime number. -/
def Prime (p : Nat) : Prop := 2 ≤ p ∧ ∀ m, m ∣ p → m = 1 ∨ m = p

/-- binomial coefficients. -/
def choose : Nat → Nat → Nat
  | _, 0 => 1
  | 0, _ + 1 => 0
  | n + 1, k + 1 => choose n k + choose n (k + 1)

theorem choose_zero (n : Nat) : choose n 0 = 1 := by cases n <;> rfl
theorem choose_succ (n k : Nat) : choose (n + 1) (k + 1) = choose n k + choose n (k + 1) := rfl
theorem choose_gt : ∀ (n k : Nat), n < k → choose n k = 0
  | 0, 0, h => by omega
  | 0, k + 1, _ => rfl
  | n + 1, 0, h => by omega
  | n + 1, k + 1, h => by rw [choose_succ, choose_gt n k (by omega), choose_gt n (k + 1) (by omega)]
theorem choose_self : ∀ n, choose n n = 1
  | 0 => rfl
  | n + 1 => by rw [choose_succ, choose_self n, choose_gt n (n + 1) (by omega)]

theorem choose_mul (n : Nat) : ∀ k, (k + 1) * choose (n + 1) (k + 1) = (n + 1) * choose n k := by
  induction n with
  | zero =>
    intro k
    cases k with
    | zero => rfl
    | succ k => rw [choose_succ, choose_gt 0 (k + 1) (by omega), choose_gt 0 (k + 1 + 1) (by omega)]; simp
  | succ n ih =>
    intro k
    cases k with
    | zero =>
      have := ih 0
      rw [choose_zero] at this ⊢
      rw [choose_succ, choose_zero]
      rw [Nat.mul_add, this]; omega
    | succ k =>
      have h1 := ih k
      have h2 := ih (k + 1)
      rw [choose_succ (n + 1) (k + 1), Nat.mul_add, h2]
      rw [show (k + 1 + 1) * choose (n + 1) (k + 1) = (k + 1) * choose (n + 1) (k + 1) + choose (n + 1) (k + 1) from by rw [Nat.add_mul (k + 1) 1, Nat.one_mul], h1]
      rw [choose_succ n k, Nat.mul_add (n + 1 + 1), Nat.add_mul (n + 1) 1, Nat.add_mul (n + 1) 1]
      omega

/-- the sum of f 0 .. f (n - 1). -/
def sum (f : Nat → Nat) : Nat → Nat
  | 0 => 0
  | n + 1 => sum f n + f n

theorem sum_congr (f g : Nat → Nat) : ∀ n, (∀ i, i < n → f i = g i) → sum f n = sum g n
  | 0, _ => rfl
  | n + 1, h => by rw [sum, sum, sum_congr f g n (fun i hi => h i (by omega)), h n (by omega)]
theorem sum_add (f g : Nat → Nat) : ∀ n, sum (fun i => f i + g i) n = sum f n + sum g n
  | 0 => rfl
  | n + 1 => by rw [sum, sum, sum, sum_add f g n]; omega
theorem sum_mul (c : Nat) (f : Nat → Nat) : ∀ n, sum (fun i => c * f i) n = c * sum f n
  | 0 => rfl
  | n + 1 => by rw [sum, sum, sum_mul c f n, Nat.mul_add]
theorem sum_first (f : Nat → Nat) : ∀ n, sum f (n + 1) = f 0 + sum (fun i => f (i + 1)) n
  | 0 => by simp [sum]
  | n + 1 => by rw [sum, sum_first f n, sum]; omega

theorem binomial (a : Nat) : ∀ n, (a + 1) ^ n = sum (fun k => choose n k * a ^ k) (n + 1)
  | 0 => by simp [sum, choose]
  | n + 1 => by
    rw [Nat.pow_succ, binomial a n, sum_first _ (n + 1)]
    have h : sum (fun i => choose (n + 1) (i + 1) * a ^ (i + 1)) (n + 1) = a * sum (fun i => choose n i * a ^ i) (n + 1) + sum (fun i => choose n (i + 1) * a ^ (i + 1)) (n + 1) := by
      rw [← sum_mul, ← sum_add]
      refine sum_congr _ _ _ fun i _ => ?_
      rw [choose_succ, Nat.add_mul, Nat.pow_succ]
      congr 1
      rw [Nat.mul_comm a, Nat.mul_assoc]
    rw [h]
    have h2 : sum (fun i => choose n (i + 1) * a ^ (i + 1)) (n + 1) = sum (fun i => choose n (i + 1) * a ^ (i + 1)) n := by
      rw [sum, choose_gt n (n + 1) (by omega)]; simp
    rw [h2]
    have h3 := sum_first (fun k => choose n k * a ^ k) n
    rw [h3, choose_zero, choose_zero, Nat.mul_add, Nat.mul_one, Nat.mul_comm a]
    simp only [Nat.pow_zero, Nat.mul_one]
    omega

theorem Prime.coprime {p a : Nat} (hp : Prime p) (h : ¬ p ∣ a) : Nat.gcd p a = 1 := by
  rcases hp.2 _ (Nat.gcd_dvd_left p a) with h1 | h1
  · exact h1
  · exact absurd (h1 ▸ Nat.gcd_dvd_right p a) h

theorem Prime.dvd_mul {p a b : Nat} (hp : Prime p) (h : p ∣ a * b) : p ∣ a ∨ p ∣ b := by
  by_cases ha : p ∣ a
  · exact .inl ha
  · exact .inr (Nat.Coprime.dvd_of_dvd_mul_left (hp.coprime ha) h)

theorem dvd_choose {p k : Nat} (hp : Prime p) (h0 : 0 < k) (h : k < p) : p ∣ choose p k := by
  obtain ⟨k, rfl⟩ : ∃ m, k = m + 1 := ⟨k - 1, by omega⟩
  obtain ⟨n, rfl⟩ : ∃ m, p = m + 1 := ⟨p - 1, by omega⟩
  have h1 := choose_mul n k
  rcases hp.dvd_mul (a := k + 1) (b := choose (n + 1) (k + 1)) ⟨choose n k, h1⟩ with h2 | h2
  · have := Nat.le_of_dvd (by omega) h2; omega
  · exact h2

theorem sum_mod (p : Nat) (f : Nat → Nat) : ∀ n, (∀ i, i < n → p ∣ f i) → p ∣ sum f n
  | 0, _ => Nat.dvd_zero p
  | n + 1, h => Nat.dvd_add (sum_mod p f n (fun i hi => h i (by omega))) (h n (by omega))

theorem succ_pow {p : Nat} (hp : Prime p) (a : Nat) : (a + 1) ^ p % p = (a ^ p + 1) % p := by
  obtain ⟨n, rfl⟩ : ∃ m, p = m + 1 := ⟨p - 1, by have := hp.1; omega⟩
  rw [binomial, sum, sum_first, choose_zero, choose_self]
  obtain ⟨c, hc⟩ := sum_mod (n + 1) (fun i => choose (n + 1) (i + 1) * a ^ (i + 1)) n (fun i hi => Nat.dvd_mul_right_of_dvd (dvd_choose hp (by omega) (by omega)) _)
  rw [hc]
  have : 1 * a ^ 0 + (n + 1) * c + 1 * a ^ (n + 1) = (a ^ (n + 1) + 1) + (n + 1) * c := by simp; omega
  rw [this, Nat.add_mul_mod_self_left]

theorem pow_self {p : Nat} (hp : Prime p) : ∀ a, a ^ p % p = a % p
  | 0 => by rw [Nat.zero_pow (by have := hp.1; omega)]
  | a + 1 => by rw [succ_pow hp, Nat.add_mod, pow_self hp a, ← Nat.add_mod]

theorem dvd_of_mod {n a b : Nat} (h : a % n = b % n) : n ∣ b - a := Nat.dvd_of_mod_eq_zero (Nat.sub_mod_eq_zero_of_mod_eq h.symm)

/-- cancelling a factor. -/
theorem cancel {n a b c : Nat} (h : Nat.gcd n a = 1) (e : a * b % n = a * c % n) : b % n = c % n := by
  rcases Nat.le_total b c with hle | hle
  · have h1 : n ∣ a * (c - b) := by
      rw [Nat.mul_sub]; exact dvd_of_mod e
    have h2 := Nat.Coprime.dvd_of_dvd_mul_left h h1
    obtain ⟨k, hk⟩ := h2
    rw [show c = b + n * k by omega, Nat.add_mul_mod_self_left]
  · have h1 : n ∣ a * (b - c) := by
      rw [Nat.mul_sub]; exact dvd_of_mod e.symm
    have h2 := Nat.Coprime.dvd_of_dvd_mul_left h h1
    obtain ⟨k, hk⟩ := h2
    rw [show b = c + n * k by omega, Nat.add_mul_mod_self_left]

/-- Fermat's little theorem. -/
theorem fermat {p a : Nat} (hp : Prime p) (h : ¬ p ∣ a) : a ^ (p - 1) % p = 1 := by
  have h1 := pow_self hp a
  obtain ⟨n, rfl⟩ : ∃ m, p = m + 1 := ⟨p - 1, by have := hp.1; omega⟩
  have h2 : a * a ^ n % (n + 1) = a * 1 % (n + 1) := by rw [Nat.mul_one, ← h1, Nat.pow_succ, Nat.mul_comm]
  have h3 := cancel (hp.coprime h) h2
  rw [Nat.mod_eq_of_lt (a := 1) (by have := hp.1; omega)] at h3
  exact h3

theorem pow_mod_one {n a : Nat} (h : a % n = 1 % n) (k : Nat) : a ^ k % n = 1 % n := by
  rw [Nat.pow_mod, h, ← Nat.pow_mod, Nat.one_pow]

/-- powers that are 1: so is the power with their greatest common divisor. -/
theorem pow_gcd {n a : Nat} (x y : Nat) : a ^ x % n = 1 % n → a ^ y % n = 1 % n → a ^ Nat.gcd x y % n = 1 % n := by
  induction x, y using Nat.gcd.induction with
  | H0 y => intro _ h; simpa using h
  | H1 x y _ ih =>
    intro hx hy
    rw [Nat.gcd_rec]
    refine ih ?_ hx
    have e := Nat.div_add_mod y x
    rw [← e, Nat.pow_add, Nat.pow_mul, Nat.mul_mod, pow_mod_one hx, ← Nat.mul_mod, Nat.one_mul] at hy
    exact hy

/-- every number from 2 on has a prime divisor. -/
theorem exists_prime : ∀ (n : Nat), 2 ≤ n → ∃ p, Prime p ∧ p ∣ n := by
  intro n
  induction n using Nat.strongRecOn with
  | ind n ih =>
    intro h
    by_cases hp : Prime n
    · exact ⟨n, hp, Nat.dvd_refl n⟩
    · have : ∃ m, m ∣ n ∧ m ≠ 1 ∧ m ≠ n := by
        refine Classical.byContradiction fun hc => hp ⟨h, fun m hm => Classical.byContradiction fun hx => hc ⟨m, hm, fun e => hx (.inl e), fun e => hx (.inr e)⟩⟩
      obtain ⟨m, hm, h1, h2⟩ := this
      have hle := Nat.le_of_dvd (by omega) hm
      have h0 : m ≠ 0 := by rintro rfl; have := Nat.eq_zero_of_zero_dvd hm; omega
      obtain ⟨p, hp, hd⟩ := ih m (by omega) (by omega)
      exact ⟨p, hp, Nat.dvd_trans hd hm⟩

/-- a number all of whose prime divisors are greater than its root is prime. -/
theorem prime_of_divisors {n b : Nat} (h2 : 2 ≤ n) (hb : n < b * b) (h : ∀ p, Prime p → p ∣ n → b ≤ p) : Prime n := by
  refine ⟨h2, fun m hm => ?_⟩
  obtain ⟨k, hk⟩ := hm
  by_cases h1 : m = 1
  · exact .inl h1
  by_cases hk1 : k = 1
  · exact .inr (by rw [hk, hk1, Nat.mul_one])
  exfalso
  have m0 : m ≠ 0 := by rintro rfl; simp at hk; omega
  have k0 : k ≠ 0 := by rintro rfl; simp at hk; omega
  obtain ⟨p, hp, hpd⟩ := exists_prime m (by omega)
  obtain ⟨q, hq, hqd⟩ := exists_prime k (by omega)
  have a1 := h p hp (Nat.dvd_trans hpd ⟨k, hk⟩)
  have a2 := h q hq (Nat.dvd_trans hqd ⟨m, by rw [hk, Nat.mul_comm]⟩)
  have b1 := Nat.le_of_dvd (by omega) hpd
  have b2 := Nat.le_of_dvd (by omega) hqd
  have := Nat.mul_le_mul (Nat.le_trans a1 b1) (Nat.le_trans a2 b2)
  omega

/-- Pocklington's test with one great prime factor r of n - 1 = r * c. -/
theorem pocklington {n r c a : Nat} (hr : Prime r) (h2 : 2 ≤ n) (hn : n = r * c + 1) (hs : n < (r + 1) * (r + 1)) (h1 : a ^ (n - 1) % n = 1) (hg : Nat.gcd (a ^ c % n - 1) n = 1) : Prime n := by
  refine prime_of_divisors h2 hs fun p hp hd => ?_
  -- modulo p
  have hp2 := hp.1
  have e1 : a ^ (n - 1) % p = 1 % p := by
    rw [← Nat.mod_mod_of_dvd _ hd, h1]
  have hpa : ¬ p ∣ a := by
    intro hx
    have : p ∣ a ^ (n - 1) := by
      obtain ⟨m, hm⟩ : ∃ m, n - 1 = m + 1 := ⟨n - 2, by omega⟩
      rw [hm, Nat.pow_succ]; exact Nat.dvd_trans hx (Nat.dvd_mul_left _ _)
    rw [Nat.mod_eq_zero_of_dvd this, Nat.mod_eq_of_lt (by omega)] at e1
    omega
  have e2 : a ^ (p - 1) % p = 1 % p := by rw [fermat hp hpa, Nat.mod_eq_of_lt (by omega)]
  by_cases hrp : r ∣ p - 1
  · have := Nat.le_of_dvd (by omega) hrp; omega
  exfalso
  -- (a ^ c) has the powers r and p - 1 equal to 1, so it is 1
  have e3 : (a ^ c) ^ r % p = 1 % p := by
    rw [← Nat.pow_mul, Nat.mul_comm c r]; rw [hn] at e1; simpa using e1
  have e4 : (a ^ c) ^ (p - 1) % p = 1 % p := by
    rw [← Nat.pow_mul, Nat.mul_comm, Nat.pow_mul]; exact pow_mod_one e2 c
  have e5 := pow_gcd r (p - 1) e3 e4
  rw [hr.coprime hrp, Nat.pow_one] at e5
  have e6 : p ∣ a ^ c % n - 1 := by
    have : (a ^ c % n) % p = 1 % p := by rw [Nat.mod_mod_of_dvd _ hd]; exact e5
    exact Nat.dvd_of_mod_eq_zero (Nat.sub_mod_eq_zero_of_mod_eq this)
  have : p ∣ 1 := hg ▸ Nat.dvd_gcd e6 hd
  have := Nat.le_of_dvd (by omega) this
  omega


/-- a power modulo n, by squaring. -/
def powMod (n : Nat) : Nat → Nat → Nat → Nat
  | 0, _, _ => 1 % n
  | f + 1, a, k => if k = 0 then 1 % n else if k % 2 = 1 then a * powMod n f (a * a % n) (k / 2) % n else powMod n f (a * a % n) (k / 2)

theorem powMod_eq (n : Nat) : ∀ f a k, k < 2 ^ f → powMod n f a k = a ^ k % n
  | 0, a, k, h => by
    obtain rfl : k = 0 := by simpa using h
    simp [powMod]
  | f + 1, a, k, h => by
    have ih := powMod_eq n f (a * a % n) (k / 2) (by rw [Nat.pow_succ] at h; omega)
    rw [← Nat.pow_mod] at ih
    have e : a ^ k = a ^ (k % 2) * (a * a) ^ (k / 2) := by
      rw [← Nat.pow_two, ← Nat.pow_mul, ← Nat.pow_add]
      congr 1; omega
    rw [powMod, ih]
    by_cases h0 : k = 0
    · rw [if_pos h0, h0, Nat.pow_zero]
    · rw [if_neg h0]
      by_cases h1 : k % 2 = 1
      · rw [if_pos h1, e, h1, Nat.pow_one, Nat.mul_mod, Nat.mod_mod, ← Nat.mul_mod]
      · rw [if_neg h1, e, show k % 2 = 0 by omega, Nat.pow_zero, Nat.one_mul]

/-- no divisor from d on, for f steps. -/
def noDiv (n : Nat) : Nat → Nat → Bool
  | 0, _ => true
  | f + 1, d => n % d != 0 && noDiv n f (d + 1)

theorem noDiv_to (n : Nat) : ∀ f d, noDiv n f d = true → ∀ m, d ≤ m → m < d + f → ¬ m ∣ n
  | 0, _, _, m, h1, h2 => by omega
  | f + 1, d, h, m, h1, h2 => by
    rw [noDiv, Bool.and_eq_true] at h
    by_cases e : m = d
    · subst e
      intro hd
      have := Nat.mod_eq_zero_of_dvd hd
      simp [this] at h
    · exact noDiv_to n f (d + 1) h.2 m (by omega) (by omega)

theorem prime_of_noDiv {n b : Nat} (h2 : 2 ≤ n) (hb : n < (b + 2) * (b + 2)) (h : noDiv n b 2 = true) : Prime n := by
  refine prime_of_divisors h2 hb fun p hp hd => ?_
  have := hp.1
  refine Classical.byContradiction fun hc => ?_
  exact noDiv_to n b 2 h p (by omega) (by omega) hd

/-- the test, with computed powers. -/
theorem pocklington' {n r c a : Nat} (f : Nat) (hr : Prime r) (h2 : 2 ≤ n) (hn : n = r * c + 1) (hs : n < (r + 1) * (r + 1)) (hf : n < 2 ^ f) (hc : c < 2 ^ f) (h1 : powMod n f a (n - 1) = 1) (hg : Nat.gcd (powMod n f a c - 1) n = 1) : Prime n := by
  rw [powMod_eq n f a (n - 1) (by omega)] at h1
  rw [powMod_eq n f a c hc] at hg
  exact pocklington hr h2 hn hs h1 hg

theorem prime4 : Prime 7930907 := prime_of_noDiv (b := 2900) (by decide) (by decide) (by decide +kernel)
theorem prime3 : Prime 11864636873 := pocklington' (r := 7930907) (c := 1496) (a := 2) 64 prime4 (by decide) (by decide) (by decide) (by decide) (by decide) (by decide +kernel) (by decide +kernel)
theorem prime2 : Prime 1732236983459 := pocklington' (r := 11864636873) (c := 146) (a := 2) 64 prime3 (by decide) (by decide) (by decide) (by decide) (by decide) (by decide +kernel) (by decide +kernel)
theorem prime1 : Prime 249442125618097 := pocklington' (r := 1732236983459) (c := 144) (a := 2) 64 prime2 (by decide) (by decide) (by decide) (by decide) (by decide) (by decide +kernel) (by decide +kernel)
/-- Q is prime. -/
theorem primeQ : Prime 2305843009213688669 := pocklington' (r := 249442125618097) (c := 9244) (a := 2) 64 prime1 (by decide) (by decide) (by decide) (by decide) (by decide) (by decide +kernel) (by decide +kernel)
/-- P is prime. -/
theorem primeP : Prime 4611686018427377339 := pocklington' (r := 2305843009213688669) (c := 2) (a := 2) 64 primeQ (by decide) (by decide) (by decide) (by decide) (by decide) (by decide +kernel) (by decide +kernel)

end Go.Proofs.YtedokiemlkccaaaDoor.Num
