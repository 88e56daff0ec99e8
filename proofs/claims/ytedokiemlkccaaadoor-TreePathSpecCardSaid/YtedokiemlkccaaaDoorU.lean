/- The walks of the numbers below the group: sums and products modulo m of the reference, math/bits.Mul64, Len64, LeadingZeros64 and Div64: each returns what plain arithmetic says, and the memory stays as it is. -/
import Derived.Test.YtedokiemlkccaaaDoorProg
import Derived.Test.YtedokiemlkccaaaDoorDv
import Derived.WalkKit
import Derived.LoopTactic
import Derived.Lib.Hide
import Derived.Lib.Walk
import Derived.Lib.Tables
import Derived.Lib.BitFns
import Derived.Lib.Mul64
import Derived.Laws.Bits64
import Derived.Laws.Bits64b
import Derived.WalkLawsBesides
import Derived.Deep.QuietTactic
import Derived.BigQuiet
import Derived.Deep.DeepCutAuto
import Derived.Deep.CutBlock
set_option linter.all false
namespace Go.Proofs.YtedokiemlkccaaaDoor
open Go.RowKit

theorem ret_int {k : IntKind} {a b : Int} (h : a = b) : Ending.returned (.int k a) = .returned (.int k b) := by rw [h]

theorem mod_sub {x m : Int} (h : m ≤ x) (h' : x < m + m) : x % m = x - m := by
  have e : x = (x - m) + m * 1 := by omega
  conv => lhs; rw [e, Int.add_mul_emod_self_left]
  exact Int.emod_eq_of_lt (by omega) (by omega)
theorem sum_any (a b m : Int) (w : World) (ha : 0 ≤ a) (ha' : a < m) (hb : 0 ≤ b) (hb' : b < m) (hm : m ≤ 4611686018427387904) :
    Calls Tryd.prog 74 #[.int .i64 a, .int .i64 b, .int .i64 m] w fun e w' => e = .returned (.int .i64 ((a + b) % m)) ∧ w = w' := by
  by_cases h : m ≤ a + b
  · go_enter Tryd.func74, Tryd.ntmps74
    go_wp2
    go_ret
    exact ⟨ret_int (mod_sub (by omega) (by omega)).symm, rfl⟩
  · go_enter Tryd.func74, Tryd.ntmps74
    go_wp2
    go_ret
    exact ⟨ret_int (Int.emod_eq_of_lt (by omega) (by omega)).symm, rfl⟩

theorem mod_step0 (A B C m : Int) (h : B % 2 = 0) : (C + (A + A) % m * (B / 2)) % m = (C + A * B) % m := by
  have e : A * B = (A + A) * (B / 2) := by
    have : B = 2 * (B / 2) := by omega
    conv => lhs; rw [this]
    rw [← Int.mul_assoc]; congr 1; omega
  rw [e, Int.add_emod, Int.mul_emod, Int.emod_emod, ← Int.mul_emod, ← Int.add_emod]
theorem mod_step1 (A B C m : Int) (h : B % 2 = 1) : ((C + A) % m + (A + A) % m * (B / 2)) % m = (C + A * B) % m := by
  have e : C + A * B = (C + A) + (A + A) * (B / 2) := by
    have : B = 2 * (B / 2) + 1 := by omega
    conv => lhs; rw [this]
    rw [Int.mul_add, ← Int.mul_assoc, Int.mul_one, show A * 2 = A + A by omega]; omega
  rw [e, Int.add_emod, Int.emod_emod, Int.mul_emod, Int.emod_emod, ← Int.mul_emod, ← Int.add_emod]

theorem modular_any (a b m : Int) (w : World) (ha : 0 ≤ a) (ha' : a < m) (hb : 0 ≤ b) (hm : m ≤ 4611686018427387904) (hb2 : b ≤ 4611686018427387904):
    Calls Tryd.prog 75 #[.int .i64 a, .int .i64 b, .int .i64 m] w fun e w' => e = .returned (.int .i64 ((a * b) % m)) ∧ w = w' := by
  go_enter Tryd.func75, Tryd.ntmps75
  go_wp2
  go_loop [0, 1, 7] (fun x y z => ∃ A B C : Int, 0 ≤ A ∧ A < m ∧ 0 ≤ B ∧ B ≤ 4611686018427387904 ∧ 0 ≤ C ∧ C < m ∧ x = .int .i64 A ∧ y = .int .i64 B ∧ z = .int .i64 C ∧ Hid ((C + A * B) % m = a * b % m)) (fun _ y _ => (intOf y).toNat)
  case atStart => exact ⟨a, b, 0, ha, ha', hb, hb2, by omega, by omega, rfl, rfl, rfl, Lib.hid (by rw [Int.zero_add])⟩
  case round =>
    obtain ⟨A, B, C, hA, hA', hB, hB2, hC, hC', rfl, rfl, rfl, hinv⟩ := hrel
    by_cases hlt : 0 < B
    · rcases Int.emod_two_eq B with h2 | h2
      · have h3 : (B % 2 == 1) = false := by rw [h2]; rfl
        have h4 := Lib.hid h2
        clear h2
        go_wp2_with (go_at_call 74; refine (sum_any _ _ _ _ (by omega) (by omega) (by omega) (by omega) (by omega)).mono ?_; rintro e w' ⟨rfl, rfl⟩)
        go_round
        case rel => exact ⟨(A + A) % m, B / 2, C, Int.emod_nonneg _ (by omega), Int.emod_lt_of_pos _ (by omega), by omega, by omega, hC, hC', rfl, rfl, rfl, Lib.hid ((mod_step0 A B C m h4.out).trans hinv.out)⟩
        case measure => simp [intOf]; omega
      · have h3 : (B % 2 == 1) = true := by rw [h2]; rfl
        have h4 := Lib.hid h2
        clear h2
        have h5 : 0 ≤ (C + A) % m := Int.emod_nonneg _ (by omega)
        have h6 : (C + A) % m < m := Int.emod_lt_of_pos _ (by omega)
        go_wp2_with (go_at_call 74; refine (sum_any _ _ _ _ (by omega) (by omega) (by omega) (by omega) (by omega)).mono ?_; rintro e w' ⟨rfl, rfl⟩)
        go_round
        case rel => exact ⟨(A + A) % m, B / 2, (C + A) % m, Int.emod_nonneg _ (by omega), Int.emod_lt_of_pos _ (by omega), by omega, by omega, h5, h6, rfl, rfl, rfl, Lib.hid ((mod_step1 A B C m h4.out).trans hinv.out)⟩
        case measure => simp [intOf]; omega
    · obtain rfl : B = 0 := by omega
      go_wp2
      go_ret
      exact ⟨ret_int (by rw [← hinv.out, Int.mul_zero, Int.add_zero, Int.emod_eq_of_lt hC hC']), rfl⟩

theorem len8_get (i : Int) (h : i.toNat < Lib.len8tab.size) (h0 : 0 ≤ i) (h1 : i ≤ 255) : wrap64 ((Lib.len8tab[i.toNat]).toNat : Int) = Lib.bitLen i.toNat ∧ Lib.bitLen i.toNat ≤ 8 := by
  have e := Lib.len8_of i h0 h1
  have l := Lib.bitLen_le8' i h0 h1
  unfold Lib.len8 at e
  rw [ByteArray.getElem?_lt' _ _ h, Option.getD_some] at e
  rw [e]
  unfold wrap64
  exact ⟨by omega, l⟩
theorem len_fin (k : Nat) (i x : Int) (h : i.toNat < Lib.len8tab.size) (h0 : 0 ≤ i) (h1 : i ≤ 255) (hs : Lib.bitLen x.toNat = k + Lib.bitLen i.toNat) (hk : k ≤ 56 := by decide) : wrap64 ((k : Int) + wrap64 ((Lib.len8tab[i.toNat]).toNat : Int)) = Lib.bitLen x.toNat := by
  obtain ⟨e, l⟩ := len8_get i h h0 h1
  rw [e, hs]; unfold wrap64; omega
theorem len_fin0 (x : Int) (h : x.toNat < Lib.len8tab.size) (h0 : 0 ≤ x) (h1 : x ≤ 255) : wrap64 (wrap64 ((Lib.len8tab[x.toNat]).toNat : Int)) = Lib.bitLen x.toNat := by
  obtain ⟨e, l⟩ := len8_get x h h0 h1
  rw [e]; unfold wrap64; omega
set_option maxHeartbeats 4000000 in
set_option maxRecDepth 100000 in
theorem len64_any (x : Int) (w : World) (h0 : 0 ≤ x) (h1 : x ≤ 18446744073709551615) :
    Calls Tryd.prog 120 #[.int .u64 x] w fun e w' => e = .returned (.int .i64 (Lib.bitLen x.toNat)) ∧ w = w' := by
  go_enter Tryd.func120, Tryd.ntmps120
  go_wp2
  all_goals first | (go_ret; refine ⟨ret_int ?_, rfl⟩) | (exfalso; have hs := Lib.len8tab_size; omega)
  · exact len_fin 56 (x / 4294967296 / 65536 / 256) x _ (by omega) (by omega) (by have s := Lib.bitLen_shift56 x.toNat (by omega) (by omega); rw [s]; congr 2; omega)
  · exact len_fin 48 (x / 4294967296 / 65536) x _ (by omega) (by omega) (by have s := Lib.bitLen_shift48 x.toNat (by omega) (by omega); rw [s]; congr 2; omega)
  · exact len_fin 40 (x / 4294967296 / 256) x _ (by omega) (by omega) (by have s := Lib.bitLen_shift40 x.toNat (by omega) (by omega); rw [s]; congr 2; omega)
  · exact len_fin 32 (x / 4294967296) x _ (by omega) (by omega) (by have s := Lib.bitLen_shift32 x.toNat (by omega) (by omega); rw [s]; congr 2; omega)
  · exact len_fin 24 (x / 65536 / 256) x _ (by omega) (by omega) (by have s := Lib.bitLen_shift24 x.toNat (by omega) (by omega); rw [s]; congr 2; omega)
  · exact len_fin 16 (x / 65536) x _ (by omega) (by omega) (by have s := Lib.bitLen_shift16 x.toNat (by omega) (by omega); rw [s]; congr 2; omega)
  · exact len_fin 8 (x / 256) x _ (by omega) (by omega) (by have s := Lib.bitLen_shift8 x.toNat (by omega) (by omega); rw [s]; congr 2; omega)
  · exact len_fin0 x _ (by omega) (by omega)

theorem lead64_any (x : Int) (w : World) (h0 : 0 ≤ x) (h1 : x ≤ 18446744073709551615) :
    Calls Tryd.prog 106 #[.int .u64 x] w fun e w' => e = .returned (.int .i64 (64 - (Lib.bitLen x.toNat : Int))) ∧ w = w' := by
  have l := Lib.bitLen_le x.toNat 64 (by omega) (by omega)
  go_enter Tryd.func106, Tryd.ntmps106
  go_wp2_with (go_at_call 120; refine (len64_any x _ h0 h1).mono ?_; rintro e w' ⟨rfl, rfl⟩)
  go_ret
  exact ⟨rfl, rfl⟩

namespace M
theorem maskN (a : Nat) (ha : a < 18446744073709551616) : bits .and .u64 (a : Int) 4294967295 = ((a % 4294967296 : Nat) : Int) := by
  have h := bits_and_u64_nat a 4294967295 ha (by omega)
  have e : a &&& 4294967295 = a % 4294967296 := Nat.and_two_pow_sub_one_eq_mod a 32
  rw [e] at h
  exact h
theorem divN (a : Nat) : (a : Int) / 4294967296 = ((a / 4294967296 : Nat) : Int) := by omega
theorem mulN (a b : Nat) : (a : Int) * (b : Int) = ((a * b : Nat) : Int) := (Int.natCast_mul a b).symm
theorem addN (a b : Nat) : (a : Int) + (b : Int) = ((a + b : Nat) : Int) := (Int.natCast_add a b).symm
theorem wrapN (a : Nat) (ha : a < 18446744073709551616) : IntKind.u64.wrap (a : Int) = (a : Int) := by rw [IntKind.wrap_u64]; omega
theorem wrapM (a : Nat) : IntKind.u64.wrap (a : Int) = ((a % 18446744073709551616 : Nat) : Int) := by rw [IntKind.wrap_u64]; omega
theorem orN (a b k : Nat) (hb : b < 2 ^ k) (h : a * 2 ^ k + b < 18446744073709551616) : bits .or .u64 ((a * 2 ^ k : Nat) : Int) (b : Int) = ((a * 2 ^ k + b : Nat) : Int) := by
  rw [bits_or_u64_nat _ _ (by omega) (by omega), Nat.mul_comm, ← Nat.two_pow_add_eq_or_of_lt hb]
end M
theorem ret_u2 {a b c d : Int} (h : a = b) (h' : c = d) : Ending.returned (.tuple #[.int .u64 a, .int .u64 c]) = .returned (.tuple #[.int .u64 b, .int .u64 d]) := by rw [h, h']

set_option maxHeartbeats 1000000 in
theorem mul64_any (x y : Nat) (w : World) (hx : x < 18446744073709551616) (hy : y < 18446744073709551616) :
    Calls Tryd.prog 69 #[.int .u64 x, .int .u64 y] w fun e w' => e = .returned (.tuple #[.int .u64 ((x * y / 18446744073709551616 : Nat) : Int), .int .u64 ((x * y % 18446744073709551616 : Nat) : Int)]) ∧ w = w' := by
  obtain ⟨bd, bt, bw, hhi⟩ := Lib.mul64_hi x y hx hy
  have ba := Lib.half_mul_le (a := x / 4294967296) (b := y / 4294967296) (by omega) (by omega)
  have bb := Lib.half_mul_le (a := x / 4294967296) (b := y % 4294967296) (by omega) (by omega)
  have bc := Lib.half_mul_le (a := x % 4294967296) (b := y / 4294967296) (by omega) (by omega)
  have ba' : x / 4294967296 * (y / 4294967296) < 18446744073709551616 := by omega
  have bb' : x / 4294967296 * (y % 4294967296) < 18446744073709551616 := by omega
  have bc' : x % 4294967296 * (y / 4294967296) < 18446744073709551616 := by omega
  have bh1 : x / 4294967296 * (y / 4294967296) + (x / 4294967296 * (y % 4294967296) + x % 4294967296 * (y % 4294967296) / 4294967296) / 4294967296 < 18446744073709551616 := by omega
  have bh : x / 4294967296 * (y / 4294967296) + (x / 4294967296 * (y % 4294967296) + x % 4294967296 * (y % 4294967296) / 4294967296) / 4294967296 + ((x / 4294967296 * (y % 4294967296) + x % 4294967296 * (y % 4294967296) / 4294967296) % 4294967296 + x % 4294967296 * (y / 4294967296)) / 4294967296 < 18446744073709551616 := by omega
  go_enter Tryd.func69, Tryd.ntmps69
  go_wp2
  simp only [M.maskN x hx, M.maskN y hy, M.divN, M.mulN, M.addN, M.wrapN _ bd, M.wrapN _ bb', M.wrapN _ bt, M.maskN _ bt, M.wrapN _ bc', M.wrapN _ bw, M.wrapN _ ba', M.wrapN _ bh1, M.wrapN _ bh, M.wrapM (x * y)]
  rw [hhi]
  go_ret2
  exact ⟨rfl, rfl⟩

theorem wrap3 (a b q z : Nat) (h : q * z ≤ a * 4294967296 + b) (h2 : a * 4294967296 + b - q * z < 18446744073709551616) :
    IntKind.u64.wrap (IntKind.u64.wrap (IntKind.u64.wrap ((a : Int) * 4294967296) + b) - IntKind.u64.wrap ((q : Int) * z)) = ((a * 4294967296 + b - q * z : Nat) : Int) := by
  rw [← Int.natCast_mul]
  generalize q * z = m at *
  simp only [IntKind.wrap_u64]
  omega

theorem bitLen_at (y k : Nat) (hk : k ≤ 62) (h : 2 ^ k ≤ y) (h' : y < 2 ^ (k + 1)) : Lib.bitLen (y : Int).toNat = k + 1 := by
  have h62 : y < 2 ^ 64 := Nat.lt_of_lt_of_le h' (Nat.pow_le_pow_right (by decide) (by omega))
  have e : y / 2 ^ k = 1 := by
    rw [Nat.pow_succ] at h'
    exact Nat.div_eq_of_lt_le (by omega) (by omega)
  rw [Int.toNat_natCast, Lib.bitLen_shift k y h h62, e]; rfl
set_option maxRecDepth 100000 in
theorem div64_4 (hi lo y : Nat) (w : World) (h1 : 0 < hi) (h2 : hi < y) (hlo : lo < 18446744073709551616) (hy : 2305843009213693952 ≤ y) (hy' : y < 4611686018427387904) :
    Calls Tryd.prog 70 #[.int .u64 hi, .int .u64 lo, .int .u64 y] w fun e w' => e = .returned (.tuple #[.int .u64 (((hi * 18446744073709551616 + lo) / y : Nat) : Int), .int .u64 (((hi * 18446744073709551616 + lo) % y : Nat) : Int)]) ∧ w = w' := by
  have hb : Lib.bitLen (y : Int).toNat = 62 := bitLen_at y 61 (by omega) (by omega) (by omega)
  obtain ⟨z, hz⟩ : ∃ z, y * 4 = z := ⟨_, rfl⟩
  obtain ⟨n1, hn1⟩ : ∃ n, z / 4294967296 = n := ⟨_, rfl⟩
  obtain ⟨n0, hn0⟩ : ∃ n, z % 4294967296 = n := ⟨_, rfl⟩
  obtain ⟨u, hu⟩ : ∃ u : Nat, hi * 4 + lo / 4611686018427387904 = u := ⟨_, rfl⟩
  obtain ⟨l0, hl0⟩ : ∃ n, lo * 4 % 18446744073709551616 = n := ⟨_, rfl⟩
  obtain ⟨d1, hd1⟩ : ∃ n, l0 / 4294967296 = n := ⟨_, rfl⟩
  obtain ⟨d0, hd0⟩ : ∃ n, l0 % 4294967296 = n := ⟨_, rfl⟩
  have bz : z < 18446744073709551616 := by omega
  have bn1 : n1 < 4294967296 := by omega
  have bn1' : 2147483648 ≤ n1 := by omega
  have bn0 : n0 < 4294967296 := by omega
  have bu : u < z := by omega
  have bd1 : d1 < 4294967296 := by omega
  have bd0 : d0 < 4294967296 := by omega
  have ez : n1 * 4294967296 + n0 = z := by omega
  have en : ((u * 4294967296 + d1) * 4294967296 + d0) = (hi * 18446744073709551616 + lo) * 4 := by rw [← hd0, ← hd1, ← hl0, ← hu]; exact Dv.digits4 hi lo
  have EU : bits .or .u64 ((hi : Int) * 4) ((lo : Int) / 4611686018427387904) = (u : Int) := by
    have := M.orN hi (lo / 4611686018427387904) 2 (by omega) (by omega)
    rw [← hu, ← show ((hi * 2 ^ 2 : Nat) : Int) = (hi : Int) * 4 by omega, ← show ((lo / 4611686018427387904 : Nat) : Int) = (lo : Int) / 4611686018427387904 by omega]; exact this
  have EL : IntKind.u64.wrap ((lo : Int) * 4) = (l0 : Int) := by rw [IntKind.wrap_u64]; omega
  have EZ : (y : Int) * 4 = z := by omega
  have EM1 : bits .and .u64 (z : Int) 4294967295 = n0 := by rw [M.maskN z bz, hn0]
  have EM2 : bits .and .u64 (l0 : Int) 4294967295 = d0 := by rw [M.maskN l0 (by omega), hd0]
  have EN : (z : Int) / 4294967296 = n1 := by omega
  have ED : (l0 : Int) / 4294967296 = d1 := by omega
  have EQ : IntKind.u64.wrap ((u : Int).tdiv n1) = ((u / n1 : Nat) : Int) := by
    rw [Int.tdiv_eq_ediv_of_nonneg (by omega), ← Int.natCast_ediv]
    exact M.wrapN _ (by have := Nat.div_le_self u n1; omega)
  have hdm := Nat.div_add_mod' u n1
  have hml := Nat.mod_lt u (show 0 < n1 by omega)
  have ER : IntKind.u64.wrap ((u : Int) - IntKind.u64.wrap (((u / n1 : Nat) : Int) * n1)) = ((u % n1 : Nat) : Int) := by
    rw [← Int.natCast_mul]
    generalize u / n1 * n1 = m at *
    simp only [IntKind.wrap_u64]; omega
  have G1 := Dv.guess (K := 4294967296) (show u < n1 * 4294967296 + n0 by omega) bn0 (by omega) (by omega)
  have G2 := Dv.guess_ge (n1 := n1) (u := u) (n0 := n0) (K := 4294967296) (d := d1) (by omega) bd1
  rw [ez] at G2
  obtain ⟨qt, hqt⟩ : ∃ q, (u * 4294967296 + d1) / z = q := ⟨_, rfl⟩
  rw [hqt] at G2
  have Hqt := Lib.hid hqt; clear hqt
  have HEU := Lib.hid EU; clear EU
  have HEL := Lib.hid EL; clear EL
  have HEZ := Lib.hid EZ; clear EZ
  have HEM1 := Lib.hid EM1; clear EM1
  have HEM2 := Lib.hid EM2; clear EM2
  have HEN := Lib.hid EN; clear EN
  have HED := Lib.hid ED; clear ED
  have HEQ := Lib.hid EQ; clear EQ
  have HER := Lib.hid ER; clear ER
  have Hen := Lib.hid en; clear en
  have Hez := Lib.hid ez; clear ez
  have Hdm := Lib.hid hdm; clear hdm
  have Hzz := Lib.hid hz
  clear hu hl0 hd1 hd0 hz hn1 hn0
  go_enter Tryd.func70, Tryd.ntmps70
  go_upto_block 0 with (go_at_call 106; refine (lead64_any _ _ (by omega) (by omega)).mono ?_; rintro e w' ⟨rfl, rfl⟩; rw [hb])
  simp only [HEZ.out, HEU.out, HEL.out, HEM1.out, HEM2.out, HEN.out, HED.out, HEQ.out, HER.out]
  go_cut [15] (fun q wx => q = .int .u64 (qt : Int) ∧ w = wx)
  case first =>
    go_wp2_with fail
    go_loop [15, 16] (fun x y => ∃ q r : Nat, x = .int .u64 q ∧ y = .int .u64 r ∧ Hid (q * n1 + r = u) ∧ qt ≤ q ∧ q ≤ 4294967297 ∧ r < 4294967296) (fun x _ => (intOf x).toNat)
    case atStart => exact ⟨_, _, rfl, rfl, Hdm, G2, G1, by omega⟩
    case round =>
      obtain ⟨q, r, rfl, rfl, hinv, hq1, hq2, hr⟩ := hrel
      by_cases hc : 4294967296 ≤ q ∨ 4294967296 * r + d1 < q * n0
      · have hlt : qt < q := by
          have := Dv.too_great (K := 4294967296) (d := d1) hinv.out (by rw [Hez.out]; exact bu) bd1 hc
          rwa [Hez.out, Hqt.out] at this
        have hge : 1 ≤ q := by omega
        have hm := Dv.mul_lt hq2 bn0
        have hi1 : (q - 1) * n1 + (r + n1) = u := by
          have := hinv.out
          obtain ⟨p, rfl⟩ : ∃ p, q = p + 1 := ⟨q - 1, by omega⟩
          rw [Nat.add_mul] at this; rw [Nat.add_sub_cancel]; omega
        have Hi1 := Lib.hid hi1; clear hi1
        obtain ⟨m, hmm⟩ : ∃ m, q * n0 = m := ⟨_, rfl⟩
        rw [hmm] at hc hm
        have EM : IntKind.u64.wrap ((q : Int) * n0) = m := by rw [← Int.natCast_mul, hmm]; exact M.wrapN m hm
        clear hmm
        have Hm := Lib.hid hm
        clear hm
        by_cases hq3 : (4294967296 : Int) ≤ q
        rotate_left
        have hc' : 4294967296 * (r : Int) + d1 < m := by omega
        rotate_left
        all_goals clear hc
        all_goals by_cases hr3 : (4294967296 : Int) ≤ r + n1
        all_goals
          go_wp2_with fail
          first
          | (go_meet
             refine ⟨?_, rfl⟩
             have e := Dv.exact_at (K := 4294967296) (d := d1) (n0 := n0) Hi1.out (by rw [Hez.out]; exact bu) (by rw [Hez.out, Hqt.out]; omega) (Dv.at_break (by omega) bn0 (by omega))
             rw [Hez.out, Hqt.out] at e
             rw [← e]
             congr 1; omega)
          | (go_round
             case rel => exact ⟨q - 1, r + n1, by congr 1; omega, by congr 1, Hi1, by omega, by omega, by omega⟩
             case measure => simp [intOf]; omega)
      · have hc1 : ¬ (4294967296 : Int) ≤ q := by omega
        have hm := Dv.mul_lt hq2 bn0
        have he := Dv.exact_at (K := 4294967296) (d := d1) (n0 := n0) hinv.out (by rw [Hez.out]; exact bu) (by rw [Hez.out, Hqt.out]; omega) (by omega)
        rw [Hez.out, Hqt.out] at he
        have He := Lib.hid he; clear he
        obtain ⟨m, hmm⟩ : ∃ m, q * n0 = m := ⟨_, rfl⟩
        rw [hmm] at hc hm
        have EM : IntKind.u64.wrap ((q : Int) * n0) = m := by rw [← Int.natCast_mul, hmm]; exact M.wrapN m hm
        clear hmm
        have hc2 : ¬ 4294967296 * (r : Int) + d1 < m := by omega
        clear hc hm
        go_wp2_with fail
        go_meet
        exact ⟨by rw [He.out], rfl⟩
  case rest =>
    obtain ⟨rfl, rfl⟩ := hcut
    have hN := Nat.div_add_mod' (u * 4294967296 + d1) z
    rw [Hqt.out] at hN
    obtain ⟨v, hv⟩ : ∃ v, (u * 4294967296 + d1) % z = v := ⟨_, rfl⟩
    rw [hv] at hN
    have bv : v < z := by rw [← hv]; exact Nat.mod_lt _ (by omega)
    have EV := wrap3 u d1 qt z (by omega) (by omega)
    rw [show u * 4294967296 + d1 - qt * z = v by omega] at EV
    have EQ2 : IntKind.u64.wrap ((v : Int).tdiv n1) = ((v / n1 : Nat) : Int) := by
      rw [Int.tdiv_eq_ediv_of_nonneg (by omega), ← Int.natCast_ediv]
      exact M.wrapN _ (by have := Nat.div_le_self v n1; omega)
    have hdm2 := Nat.div_add_mod' v n1
    have hml2 := Nat.mod_lt v (show 0 < n1 by omega)
    have ER2 : IntKind.u64.wrap ((v : Int) - IntKind.u64.wrap (((v / n1 : Nat) : Int) * n1)) = ((v % n1 : Nat) : Int) := by
      rw [← Int.natCast_mul]
      generalize v / n1 * n1 = m at *
      simp only [IntKind.wrap_u64]; omega
    have G3 := Dv.guess (K := 4294967296) (show v < n1 * 4294967296 + n0 by have := Hez.out; omega) bn0 (by omega) (by omega)
    have G4 := Dv.guess_ge (n1 := n1) (u := v) (n0 := n0) (K := 4294967296) (d := d0) (by omega) bd0
    rw [Hez.out] at G4
    obtain ⟨qs, hqs⟩ : ∃ q, (v * 4294967296 + d0) / z = q := ⟨_, rfl⟩
    rw [hqs] at G4
    have Hqs := Lib.hid hqs; clear hqs
    have HEV := Lib.hid EV; clear EV
    have HEQ2 := Lib.hid EQ2; clear EQ2
    have HER2 := Lib.hid ER2; clear ER2
    have Hdm2 := Lib.hid hdm2; clear hdm2
    have HN := Lib.hid hN; clear hN
    have Hv := Lib.hid hv; clear hv
    go_upto_block 2 with fail
    simp only [HEV.out, HEQ2.out, HER2.out]
    go_cut [18] (fun q wx => q = .int .u64 (qs : Int) ∧ w = wx)
    case first =>
      go_wp2_with fail
      go_loop [18, 16] (fun x y => ∃ q r : Nat, x = .int .u64 q ∧ y = .int .u64 r ∧ Hid (q * n1 + r = v) ∧ qs ≤ q ∧ q ≤ 4294967297 ∧ r < 4294967296) (fun x _ => (intOf x).toNat)
      case atStart => exact ⟨_, _, rfl, rfl, Hdm2, G4, G3, by omega⟩
      case round =>
        obtain ⟨q, r, rfl, rfl, hinv, hq1, hq2, hr⟩ := hrel
        by_cases hc : 4294967296 ≤ q ∨ 4294967296 * r + d0 < q * n0
        · have hlt : qs < q := by
            have := Dv.too_great (K := 4294967296) (d := d0) hinv.out (by rw [Hez.out]; exact bv) bd0 hc
            rwa [Hez.out, Hqs.out] at this
          have hge : 1 ≤ q := by omega
          have hm := Dv.mul_lt hq2 bn0
          have hi1 : (q - 1) * n1 + (r + n1) = v := by
            have := hinv.out
            obtain ⟨p, rfl⟩ : ∃ p, q = p + 1 := ⟨q - 1, by omega⟩
            rw [Nat.add_mul] at this; rw [Nat.add_sub_cancel]; omega
          have Hi1 := Lib.hid hi1; clear hi1
          obtain ⟨m, hmm⟩ : ∃ m, q * n0 = m := ⟨_, rfl⟩
          rw [hmm] at hc hm
          have EM : IntKind.u64.wrap ((q : Int) * n0) = m := by rw [← Int.natCast_mul, hmm]; exact M.wrapN m hm
          clear hmm
          have Hm := Lib.hid hm
          clear hm
          by_cases hq3 : (4294967296 : Int) ≤ q
          rotate_left
          have hc' : 4294967296 * (r : Int) + d0 < m := by omega
          rotate_left
          all_goals clear hc
          all_goals by_cases hr3 : (4294967296 : Int) ≤ r + n1
          all_goals
            go_wp2_with fail
            first
            | (go_meet
               refine ⟨?_, rfl⟩
               have e := Dv.exact_at (K := 4294967296) (d := d0) (n0 := n0) Hi1.out (by rw [Hez.out]; exact bv) (by rw [Hez.out, Hqs.out]; omega) (Dv.at_break (by omega) bn0 (by omega))
               rw [Hez.out, Hqs.out] at e
               rw [← e]
               congr 1; omega)
            | (go_round
               case rel => exact ⟨q - 1, r + n1, by congr 1; omega, by congr 1, Hi1, by omega, by omega, by omega⟩
               case measure => simp [intOf]; omega)
        · have hc1 : ¬ (4294967296 : Int) ≤ q := by omega
          have hm := Dv.mul_lt hq2 bn0
          have he := Dv.exact_at (K := 4294967296) (d := d0) (n0 := n0) hinv.out (by rw [Hez.out]; exact bv) (by rw [Hez.out, Hqs.out]; omega) (by omega)
          rw [Hez.out, Hqs.out] at he
          have He := Lib.hid he; clear he
          obtain ⟨m, hmm⟩ : ∃ m, q * n0 = m := ⟨_, rfl⟩
          rw [hmm] at hc hm
          have EM : IntKind.u64.wrap ((q : Int) * n0) = m := by rw [← Int.natCast_mul, hmm]; exact M.wrapN m hm
          clear hmm
          have hc2 : ¬ 4294967296 * (r : Int) + d0 < m := by omega
          clear hc hm
          go_wp2_with fail
          go_meet
          exact ⟨by rw [He.out], rfl⟩
    case rest =>
      obtain ⟨rfl, rfl⟩ := hcut
      have hN2 := Nat.div_add_mod' (v * 4294967296 + d0) z
      rw [Hqs.out] at hN2
      obtain ⟨x, hx⟩ : ∃ x, (v * 4294967296 + d0) % z = x := ⟨_, rfl⟩
      rw [hx] at hN2
      have bx : x < z := by rw [← hx]; exact Nat.mod_lt _ (by omega)
      have EX := wrap3 v d0 qs z (by omega) (by omega)
      rw [show v * 4294967296 + d0 - qs * z = x by omega] at EX
      have HEX := Lib.hid EX; clear EX
      have HN2 := Lib.hid hN2; clear hN2
      have Hx := Lib.hid hx; clear hx
      go_wp2_with fail
      simp only [HEX.out]
      go_ret2
      have hJ := Dv.join (u := u) (d1 := d1) (d0 := d0) (z := z) (K := 4294967296) (by omega)
      have hS := Dv.shifted (n := hi * 18446744073709551616 + lo) (y := y) (s := 4) (by omega)
      rw [← Hen.out, Hzz.out, hJ.1, hJ.2, Hqt.out, Hv.out, Hqs.out, Hx.out] at hS
      have l1 : qt < 4294967296 := by rw [← Hqt.out]; exact Dv.quot_lt bu bd1
      have l2 : qs < 4294967296 := by rw [← Hqs.out]; exact Dv.quot_lt bv bd0
      refine ⟨ret_u2 ?_ ?_, rfl⟩
      · rw [← hS.1]; simp only [IntKind.wrap_u64]; omega
      · rw [← hS.2]; exact (Int.natCast_ediv x 4).symm

set_option maxRecDepth 100000 in
theorem div64_8 (hi lo y : Nat) (w : World) (h1 : 0 < hi) (h2 : hi < y) (hlo : lo < 18446744073709551616) (hy : 1152921504606846976 ≤ y) (hy' : y < 2305843009213693952) :
    Calls Tryd.prog 70 #[.int .u64 hi, .int .u64 lo, .int .u64 y] w fun e w' => e = .returned (.tuple #[.int .u64 (((hi * 18446744073709551616 + lo) / y : Nat) : Int), .int .u64 (((hi * 18446744073709551616 + lo) % y : Nat) : Int)]) ∧ w = w' := by
  have hb : Lib.bitLen (y : Int).toNat = 61 := bitLen_at y 60 (by omega) (by omega) (by omega)
  obtain ⟨z, hz⟩ : ∃ z, y * 8 = z := ⟨_, rfl⟩
  obtain ⟨n1, hn1⟩ : ∃ n, z / 4294967296 = n := ⟨_, rfl⟩
  obtain ⟨n0, hn0⟩ : ∃ n, z % 4294967296 = n := ⟨_, rfl⟩
  obtain ⟨u, hu⟩ : ∃ u : Nat, hi * 8 + lo / 2305843009213693952 = u := ⟨_, rfl⟩
  obtain ⟨l0, hl0⟩ : ∃ n, lo * 8 % 18446744073709551616 = n := ⟨_, rfl⟩
  obtain ⟨d1, hd1⟩ : ∃ n, l0 / 4294967296 = n := ⟨_, rfl⟩
  obtain ⟨d0, hd0⟩ : ∃ n, l0 % 4294967296 = n := ⟨_, rfl⟩
  have bz : z < 18446744073709551616 := by omega
  have bn1 : n1 < 4294967296 := by omega
  have bn1' : 2147483648 ≤ n1 := by omega
  have bn0 : n0 < 4294967296 := by omega
  have bu : u < z := by omega
  have bd1 : d1 < 4294967296 := by omega
  have bd0 : d0 < 4294967296 := by omega
  have ez : n1 * 4294967296 + n0 = z := by omega
  have en : ((u * 4294967296 + d1) * 4294967296 + d0) = (hi * 18446744073709551616 + lo) * 8 := by rw [← hd0, ← hd1, ← hl0, ← hu]; exact Dv.digits8 hi lo
  have EU : bits .or .u64 ((hi : Int) * 8) ((lo : Int) / 2305843009213693952) = (u : Int) := by
    have := M.orN hi (lo / 2305843009213693952) 3 (by omega) (by omega)
    rw [← hu, ← show ((hi * 2 ^ 3 : Nat) : Int) = (hi : Int) * 8 by omega, ← show ((lo / 2305843009213693952 : Nat) : Int) = (lo : Int) / 2305843009213693952 by omega]; exact this
  have EL : IntKind.u64.wrap ((lo : Int) * 8) = (l0 : Int) := by rw [IntKind.wrap_u64]; omega
  have EZ : (y : Int) * 8 = z := by omega
  have EM1 : bits .and .u64 (z : Int) 4294967295 = n0 := by rw [M.maskN z bz, hn0]
  have EM2 : bits .and .u64 (l0 : Int) 4294967295 = d0 := by rw [M.maskN l0 (by omega), hd0]
  have EN : (z : Int) / 4294967296 = n1 := by omega
  have ED : (l0 : Int) / 4294967296 = d1 := by omega
  have EQ : IntKind.u64.wrap ((u : Int).tdiv n1) = ((u / n1 : Nat) : Int) := by
    rw [Int.tdiv_eq_ediv_of_nonneg (by omega), ← Int.natCast_ediv]
    exact M.wrapN _ (by have := Nat.div_le_self u n1; omega)
  have hdm := Nat.div_add_mod' u n1
  have hml := Nat.mod_lt u (show 0 < n1 by omega)
  have ER : IntKind.u64.wrap ((u : Int) - IntKind.u64.wrap (((u / n1 : Nat) : Int) * n1)) = ((u % n1 : Nat) : Int) := by
    rw [← Int.natCast_mul]
    generalize u / n1 * n1 = m at *
    simp only [IntKind.wrap_u64]; omega
  have G1 := Dv.guess (K := 4294967296) (show u < n1 * 4294967296 + n0 by omega) bn0 (by omega) (by omega)
  have G2 := Dv.guess_ge (n1 := n1) (u := u) (n0 := n0) (K := 4294967296) (d := d1) (by omega) bd1
  rw [ez] at G2
  obtain ⟨qt, hqt⟩ : ∃ q, (u * 4294967296 + d1) / z = q := ⟨_, rfl⟩
  rw [hqt] at G2
  have Hqt := Lib.hid hqt; clear hqt
  have HEU := Lib.hid EU; clear EU
  have HEL := Lib.hid EL; clear EL
  have HEZ := Lib.hid EZ; clear EZ
  have HEM1 := Lib.hid EM1; clear EM1
  have HEM2 := Lib.hid EM2; clear EM2
  have HEN := Lib.hid EN; clear EN
  have HED := Lib.hid ED; clear ED
  have HEQ := Lib.hid EQ; clear EQ
  have HER := Lib.hid ER; clear ER
  have Hen := Lib.hid en; clear en
  have Hez := Lib.hid ez; clear ez
  have Hdm := Lib.hid hdm; clear hdm
  have Hzz := Lib.hid hz
  clear hu hl0 hd1 hd0 hz hn1 hn0
  go_enter Tryd.func70, Tryd.ntmps70
  go_upto_block 0 with (go_at_call 106; refine (lead64_any _ _ (by omega) (by omega)).mono ?_; rintro e w' ⟨rfl, rfl⟩; rw [hb])
  simp only [HEZ.out, HEU.out, HEL.out, HEM1.out, HEM2.out, HEN.out, HED.out, HEQ.out, HER.out]
  go_cut [15] (fun q wx => q = .int .u64 (qt : Int) ∧ w = wx)
  case first =>
    go_wp2_with fail
    go_loop [15, 16] (fun x y => ∃ q r : Nat, x = .int .u64 q ∧ y = .int .u64 r ∧ Hid (q * n1 + r = u) ∧ qt ≤ q ∧ q ≤ 4294967297 ∧ r < 4294967296) (fun x _ => (intOf x).toNat)
    case atStart => exact ⟨_, _, rfl, rfl, Hdm, G2, G1, by omega⟩
    case round =>
      obtain ⟨q, r, rfl, rfl, hinv, hq1, hq2, hr⟩ := hrel
      by_cases hc : 4294967296 ≤ q ∨ 4294967296 * r + d1 < q * n0
      · have hlt : qt < q := by
          have := Dv.too_great (K := 4294967296) (d := d1) hinv.out (by rw [Hez.out]; exact bu) bd1 hc
          rwa [Hez.out, Hqt.out] at this
        have hge : 1 ≤ q := by omega
        have hm := Dv.mul_lt hq2 bn0
        have hi1 : (q - 1) * n1 + (r + n1) = u := by
          have := hinv.out
          obtain ⟨p, rfl⟩ : ∃ p, q = p + 1 := ⟨q - 1, by omega⟩
          rw [Nat.add_mul] at this; rw [Nat.add_sub_cancel]; omega
        have Hi1 := Lib.hid hi1; clear hi1
        obtain ⟨m, hmm⟩ : ∃ m, q * n0 = m := ⟨_, rfl⟩
        rw [hmm] at hc hm
        have EM : IntKind.u64.wrap ((q : Int) * n0) = m := by rw [← Int.natCast_mul, hmm]; exact M.wrapN m hm
        clear hmm
        have Hm := Lib.hid hm
        clear hm
        by_cases hq3 : (4294967296 : Int) ≤ q
        rotate_left
        have hc' : 4294967296 * (r : Int) + d1 < m := by omega
        rotate_left
        all_goals clear hc
        all_goals by_cases hr3 : (4294967296 : Int) ≤ r + n1
        all_goals
          go_wp2_with fail
          first
          | (go_meet
             refine ⟨?_, rfl⟩
             have e := Dv.exact_at (K := 4294967296) (d := d1) (n0 := n0) Hi1.out (by rw [Hez.out]; exact bu) (by rw [Hez.out, Hqt.out]; omega) (Dv.at_break (by omega) bn0 (by omega))
             rw [Hez.out, Hqt.out] at e
             rw [← e]
             congr 1; omega)
          | (go_round
             case rel => exact ⟨q - 1, r + n1, by congr 1; omega, by congr 1, Hi1, by omega, by omega, by omega⟩
             case measure => simp [intOf]; omega)
      · have hc1 : ¬ (4294967296 : Int) ≤ q := by omega
        have hm := Dv.mul_lt hq2 bn0
        have he := Dv.exact_at (K := 4294967296) (d := d1) (n0 := n0) hinv.out (by rw [Hez.out]; exact bu) (by rw [Hez.out, Hqt.out]; omega) (by omega)
        rw [Hez.out, Hqt.out] at he
        have He := Lib.hid he; clear he
        obtain ⟨m, hmm⟩ : ∃ m, q * n0 = m := ⟨_, rfl⟩
        rw [hmm] at hc hm
        have EM : IntKind.u64.wrap ((q : Int) * n0) = m := by rw [← Int.natCast_mul, hmm]; exact M.wrapN m hm
        clear hmm
        have hc2 : ¬ 4294967296 * (r : Int) + d1 < m := by omega
        clear hc hm
        go_wp2_with fail
        go_meet
        exact ⟨by rw [He.out], rfl⟩
  case rest =>
    obtain ⟨rfl, rfl⟩ := hcut
    have hN := Nat.div_add_mod' (u * 4294967296 + d1) z
    rw [Hqt.out] at hN
    obtain ⟨v, hv⟩ : ∃ v, (u * 4294967296 + d1) % z = v := ⟨_, rfl⟩
    rw [hv] at hN
    have bv : v < z := by rw [← hv]; exact Nat.mod_lt _ (by omega)
    have EV := wrap3 u d1 qt z (by omega) (by omega)
    rw [show u * 4294967296 + d1 - qt * z = v by omega] at EV
    have EQ2 : IntKind.u64.wrap ((v : Int).tdiv n1) = ((v / n1 : Nat) : Int) := by
      rw [Int.tdiv_eq_ediv_of_nonneg (by omega), ← Int.natCast_ediv]
      exact M.wrapN _ (by have := Nat.div_le_self v n1; omega)
    have hdm2 := Nat.div_add_mod' v n1
    have hml2 := Nat.mod_lt v (show 0 < n1 by omega)
    have ER2 : IntKind.u64.wrap ((v : Int) - IntKind.u64.wrap (((v / n1 : Nat) : Int) * n1)) = ((v % n1 : Nat) : Int) := by
      rw [← Int.natCast_mul]
      generalize v / n1 * n1 = m at *
      simp only [IntKind.wrap_u64]; omega
    have G3 := Dv.guess (K := 4294967296) (show v < n1 * 4294967296 + n0 by have := Hez.out; omega) bn0 (by omega) (by omega)
    have G4 := Dv.guess_ge (n1 := n1) (u := v) (n0 := n0) (K := 4294967296) (d := d0) (by omega) bd0
    rw [Hez.out] at G4
    obtain ⟨qs, hqs⟩ : ∃ q, (v * 4294967296 + d0) / z = q := ⟨_, rfl⟩
    rw [hqs] at G4
    have Hqs := Lib.hid hqs; clear hqs
    have HEV := Lib.hid EV; clear EV
    have HEQ2 := Lib.hid EQ2; clear EQ2
    have HER2 := Lib.hid ER2; clear ER2
    have Hdm2 := Lib.hid hdm2; clear hdm2
    have HN := Lib.hid hN; clear hN
    have Hv := Lib.hid hv; clear hv
    go_upto_block 2 with fail
    simp only [HEV.out, HEQ2.out, HER2.out]
    go_cut [18] (fun q wx => q = .int .u64 (qs : Int) ∧ w = wx)
    case first =>
      go_wp2_with fail
      go_loop [18, 16] (fun x y => ∃ q r : Nat, x = .int .u64 q ∧ y = .int .u64 r ∧ Hid (q * n1 + r = v) ∧ qs ≤ q ∧ q ≤ 4294967297 ∧ r < 4294967296) (fun x _ => (intOf x).toNat)
      case atStart => exact ⟨_, _, rfl, rfl, Hdm2, G4, G3, by omega⟩
      case round =>
        obtain ⟨q, r, rfl, rfl, hinv, hq1, hq2, hr⟩ := hrel
        by_cases hc : 4294967296 ≤ q ∨ 4294967296 * r + d0 < q * n0
        · have hlt : qs < q := by
            have := Dv.too_great (K := 4294967296) (d := d0) hinv.out (by rw [Hez.out]; exact bv) bd0 hc
            rwa [Hez.out, Hqs.out] at this
          have hge : 1 ≤ q := by omega
          have hm := Dv.mul_lt hq2 bn0
          have hi1 : (q - 1) * n1 + (r + n1) = v := by
            have := hinv.out
            obtain ⟨p, rfl⟩ : ∃ p, q = p + 1 := ⟨q - 1, by omega⟩
            rw [Nat.add_mul] at this; rw [Nat.add_sub_cancel]; omega
          have Hi1 := Lib.hid hi1; clear hi1
          obtain ⟨m, hmm⟩ : ∃ m, q * n0 = m := ⟨_, rfl⟩
          rw [hmm] at hc hm
          have EM : IntKind.u64.wrap ((q : Int) * n0) = m := by rw [← Int.natCast_mul, hmm]; exact M.wrapN m hm
          clear hmm
          have Hm := Lib.hid hm
          clear hm
          by_cases hq3 : (4294967296 : Int) ≤ q
          rotate_left
          have hc' : 4294967296 * (r : Int) + d0 < m := by omega
          rotate_left
          all_goals clear hc
          all_goals by_cases hr3 : (4294967296 : Int) ≤ r + n1
          all_goals
            go_wp2_with fail
            first
            | (go_meet
               refine ⟨?_, rfl⟩
               have e := Dv.exact_at (K := 4294967296) (d := d0) (n0 := n0) Hi1.out (by rw [Hez.out]; exact bv) (by rw [Hez.out, Hqs.out]; omega) (Dv.at_break (by omega) bn0 (by omega))
               rw [Hez.out, Hqs.out] at e
               rw [← e]
               congr 1; omega)
            | (go_round
               case rel => exact ⟨q - 1, r + n1, by congr 1; omega, by congr 1, Hi1, by omega, by omega, by omega⟩
               case measure => simp [intOf]; omega)
        · have hc1 : ¬ (4294967296 : Int) ≤ q := by omega
          have hm := Dv.mul_lt hq2 bn0
          have he := Dv.exact_at (K := 4294967296) (d := d0) (n0 := n0) hinv.out (by rw [Hez.out]; exact bv) (by rw [Hez.out, Hqs.out]; omega) (by omega)
          rw [Hez.out, Hqs.out] at he
          have He := Lib.hid he; clear he
          obtain ⟨m, hmm⟩ : ∃ m, q * n0 = m := ⟨_, rfl⟩
          rw [hmm] at hc hm
          have EM : IntKind.u64.wrap ((q : Int) * n0) = m := by rw [← Int.natCast_mul, hmm]; exact M.wrapN m hm
          clear hmm
          have hc2 : ¬ 4294967296 * (r : Int) + d0 < m := by omega
          clear hc hm
          go_wp2_with fail
          go_meet
          exact ⟨by rw [He.out], rfl⟩
    case rest =>
      obtain ⟨rfl, rfl⟩ := hcut
      have hN2 := Nat.div_add_mod' (v * 4294967296 + d0) z
      rw [Hqs.out] at hN2
      obtain ⟨x, hx⟩ : ∃ x, (v * 4294967296 + d0) % z = x := ⟨_, rfl⟩
      rw [hx] at hN2
      have bx : x < z := by rw [← hx]; exact Nat.mod_lt _ (by omega)
      have EX := wrap3 v d0 qs z (by omega) (by omega)
      rw [show v * 4294967296 + d0 - qs * z = x by omega] at EX
      have HEX := Lib.hid EX; clear EX
      have HN2 := Lib.hid hN2; clear hN2
      have Hx := Lib.hid hx; clear hx
      go_wp2_with fail
      simp only [HEX.out]
      go_ret2
      have hJ := Dv.join (u := u) (d1 := d1) (d0 := d0) (z := z) (K := 4294967296) (by omega)
      have hS := Dv.shifted (n := hi * 18446744073709551616 + lo) (y := y) (s := 8) (by omega)
      rw [← Hen.out, Hzz.out, hJ.1, hJ.2, Hqt.out, Hv.out, Hqs.out, Hx.out] at hS
      have l1 : qt < 4294967296 := by rw [← Hqt.out]; exact Dv.quot_lt bu bd1
      have l2 : qs < 4294967296 := by rw [← Hqs.out]; exact Dv.quot_lt bv bd0
      refine ⟨ret_u2 ?_ ?_, rfl⟩
      · rw [← hS.1]; simp only [IntKind.wrap_u64]; omega
      · rw [← hS.2]; exact (Int.natCast_ediv x 8).symm

/-- math/bits.Div64, for the moduli of the group: quotient and rest. -/
theorem div64_any (hi lo y : Nat) (w : World) (h2 : hi < y) (hlo : lo < 18446744073709551616) (hy : 1152921504606846976 ≤ y) (hy' : y < 4611686018427387904) :
    Calls Tryd.prog 70 #[.int .u64 hi, .int .u64 lo, .int .u64 y] w fun e w' => e = .returned (.tuple #[.int .u64 (((hi * 18446744073709551616 + lo) / y : Nat) : Int), .int .u64 (((hi * 18446744073709551616 + lo) % y : Nat) : Int)]) ∧ ∃ n, w' = w.drewN n := by
  by_cases h1 : 0 < hi
  · by_cases hm : 2305843009213693952 ≤ y
    · exact (div64_4 hi lo y w h1 h2 hlo hm hy').mono fun _ _ ⟨he, hw⟩ => ⟨he, 0, hw.symm⟩
    · exact (div64_8 hi lo y w h1 h2 hlo hy (by omega)).mono fun _ _ ⟨he, hw⟩ => ⟨he, 0, hw.symm⟩
  · obtain rfl : hi = 0 := by omega
    have b1 := Nat.div_le_self lo y
    rw [Nat.zero_mul, Nat.zero_add, show ((0 : Nat) : Int) = 0 from rfl]
    go_enter Tryd.func70, Tryd.ntmps70
    go_wp2
    go_quiet (fail)
    go_wp2
    go_ret2
    exact ⟨ret_u2 (by rw [← Int.natCast_ediv]; exact M.wrapN _ (by omega)) (Int.natCast_emod lo y).symm, _, rfl⟩

/-- group.times: the product modulo P. -/
theorem times_any (a b : Nat) (w : World) (ha : a < 4611686018427377339) (hb : b < 4611686018427377339) :
    Calls Tryd.prog 78 #[.int .u64 a, .int .u64 b] w fun e w' => e = .returned (.int .u64 ((a * b % 4611686018427377339 : Nat) : Int)) ∧ ∃ n, w' = w.drewN n := by
  have e := Nat.div_add_mod' (a * b) 18446744073709551616
  have h1 : a * b / 18446744073709551616 < 4611686018427377339 := by
    rw [Nat.div_lt_iff_lt_mul (by omega)]
    have h2 := Nat.mul_le_mul (show a ≤ 4611686018427377338 by omega) (show b ≤ 4611686018427377338 by omega)
    omega
  have h2 := Nat.mod_lt (a * b) (show 0 < 18446744073709551616 by omega)
  have c1 := mul64_any a b w (by omega) (by omega)
  have c2 := div64_any (a * b / 18446744073709551616) (a * b % 18446744073709551616) 4611686018427377339 w h1 h2 (by omega) (by omega)
  rw [e] at c2
  rw [show ((4611686018427377339 : Nat) : Int) = 4611686018427377339 from rfl] at c2
  have C1 := Lib.hid c1; clear c1
  have C2 := Lib.hid c2; clear c2
  clear e h1 h2 ha hb
  go_enter Tryd.func78, Tryd.ntmps78
  go_wp2_with (first | (go_at_call 69; refine C1.out.mono ?_; rintro e w' ⟨rfl, rfl⟩) | (go_at_call 70; refine C2.out.mono ?_; rintro e w' ⟨rfl, n, rfl⟩))
  go_ret
  exact ⟨rfl, _, rfl⟩
end Go.Proofs.YtedokiemlkccaaaDoor
