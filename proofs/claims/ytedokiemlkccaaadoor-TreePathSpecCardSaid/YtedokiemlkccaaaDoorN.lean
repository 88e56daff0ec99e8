/- The walk of package sign's keys and of Sign; numbers as bytes; challenges. -/
import Derived.Test.YtedokiemlkccaaaDoorM
import Derived.Outline
import Derived.Deep.DeepCutAuto
import Derived.Deep.RegionHeld3
set_option linter.all false
namespace Go.Proofs.YtedokiemlkccaaaDoor
open Go.RowKit
theorem beB_take (n : Nat) : ∀ k j, j < k → (beB n k).take (j + 1) = (beB n k).take j ++ [UInt8.ofNat (n / 256 ^ (k - 1 - j))]
  | 0, _, h => absurd h (by omega)
  | k + 1, 0, _ => by rw [beB, List.take_succ_cons, List.take_zero, List.take_zero, List.nil_append, show k + 1 - 1 - 0 = k by omega]
  | k + 1, j + 1, h => by
    rw [beB, List.take_succ_cons, List.take_succ_cons, beB_take n k j (by omega), List.cons_append, show k + 1 - 1 - (j + 1) = k - 1 - j by omega]
/-- the eight bytes of a number. -/
def numB (z : Int) : List UInt8 := beB (z % 18446744073709551616).toNat 8
theorem numB_length (z : Int) : (numB z).length = 8 := beB_length _ 8
theorem numB_byte (z : Int) (j : Nat) (h : j < 8) : (numB z).take (j + 1) = (numB z).take j ++ [UInt8.ofNat ((z % 18446744073709551616).toNat / 256 ^ (7 - j))] := beB_take _ 8 j h
theorem num_byte (z : Int) (j : Nat) (h : j < 8) : IntKind.u64.wrap z / 2 ^ (56 - 8 * j) % 256 = ((UInt8.ofNat ((z % 18446744073709551616).toNat / 256 ^ (7 - j))).toNat : Int) := by
  have := byte_of (z % 18446744073709551616).toNat (7 - j)
  rw [show 8 * (7 - j) = 56 - 8 * j by omega] at this
  rw [← this, Int.toNat_of_nonneg (by omega)]; rfl
theorem addr_mid (b o j : Nat) : (⟨b, o, none⟩ : Addr).add j = ⟨b, o + j, none⟩ := by unfold Addr.add; split <;> simp_all
/-- the bytes of some numbers. -/
def numsB (zs : List Int) : List UInt8 := zs.flatMap numB
theorem numsB_take (zs : List Int) (i : Nat) (h : i < zs.length) : numsB (zs.take (i + 1)) = numsB (zs.take i) ++ numB (zs[i]) := by
  unfold numsB
  rw [List.take_succ_eq_append_getElem h, List.flatMap_append, List.flatMap_singleton]
theorem numsB_length : ∀ zs : List Int, (numsB zs).length = 8 * zs.length
  | [] => rfl
  | z :: zs => by
    have := numsB_length zs
    unfold numsB at *
    rw [List.flatMap_cons, List.length_append, numB_length, this, List.length_cons]; omega
set_option maxRecDepth 100000 in
theorem hash_any (tag : List UInt8) (A : Option Addr) (n c g : Nat) (l : List UInt8) (zs : List Int) (w : World) (ht : tag.length ≤ 1000) (h : BS w A n c l) (hn : n ≤ 1000) (hk : zs.length ≤ 100) (h0 : 0 < zs.length)
    (hz : ∀ i, (hi : i < zs.length) → w.cell? ⟨g, i, none⟩ = some (.int .i64 zs[i])) (hT : Tabs w) :
    Calls Tryd.prog 67 #[.string ⟨tag.toArray⟩, .slice A n c, .slice (some ⟨g, 0, none⟩) zs.length zs.length] w fun e w' => e = .returned (.int .i64 (scalN (tagB tag (numsB zs ++ l)))) ∧ Below w.heap.size w w' := by
  obtain ⟨i0, hi, hzr, hsize, hby⟩ := info_parts info5
  have hg : g < w.heap.size := World.block_lt_of_cell? w ⟨g, 0, none⟩ (hz 0 h0)
  obtain ⟨k, hkz⟩ : ∃ k, zs.length = k := ⟨_, rfl⟩
  have HKZ := Lib.hid hkz
  have HZ := Lib.hid hz
  rw [hkz] at hk h0 ⊢
  clear hz hkz
  go_enter Tryd.func67, Tryd.ntmps67
  go_wp2_with fail
  go_loopw [13, 7] (fun x v wr => ∃ i : Nat, i ≤ k ∧ x = .int .i64 i ∧ Below w.heap.size w wr ∧ wr.ownsRow w.heap.size 5 1 v (8 * i) (u8s (numsB (zs.take i)))) (fun x _ _ => k - (intOf x).toNat)
  case atStart => exact ⟨0, by omega, rfl, Below.refl _ _, World.ownsRow_nil _ _ _ _⟩
  case round =>
    obtain ⟨i, hik, rfl, hB, hown⟩ := hrel
    by_cases hlt : i < k
    · have hlt' : (i : Int) < k := by omega
      have hiz : i < zs.length := by rw [HKZ.out]; exact hlt
      have cz := (hB.cell (p := ⟨g, i, none⟩) hg).trans (HZ.out i hiz)
      have htk := numsB_take zs i hiz
      obtain ⟨z, hze⟩ : ∃ z, zs[i] = z := ⟨_, rfl⟩
      rw [hze] at cz htk
      have HTK := Lib.hid htk
      clear htk hze hiz
      go_wp2_with fail
      go_loopw [10, 7] (fun x v wq => ∃ j : Nat, j ≤ 8 ∧ x = .int .i64 (56 - 8 * (j : Int)) ∧ Below w.heap.size w wq ∧ wq.ownsRow w.heap.size 5 1 v (8 * i + j) (u8s (numsB (zs.take i) ++ (numB z).take j))) (fun x _ _ => (intOf x + 8).toNat)
      case atStart => exact ⟨0, by omega, rfl, hB, by rw [List.take_zero, List.append_nil]; exact hown⟩
      case round =>
        obtain ⟨j, hj, rfl, hB, hown⟩ := hrel
        by_cases hlt : j < 8
        · have e0 : 0 ≤ 56 - 8 * (j : Int) := by omega
          have e1 : 56 - 8 * (j : Int) ≤ 56 := by omega
          have e2 : (56 - 8 * (j : Int)).toNat = 56 - 8 * j := by omega
          have hb := num_byte z j hlt
          have htb := numB_byte z j hlt
          obtain ⟨b, hbe⟩ : ∃ b, UInt8.ofNat ((z % 18446744073709551616).toNat / 256 ^ (7 - j)) = b := ⟨_, rfl⟩
          rw [hbe] at hb htb
          have HTB := Lib.hid htb
          have HB := Lib.hid hb
          clear hbe htb hb
          obtain ⟨X, hX⟩ : ∃ X : Int, IntKind.u64.wrap z / 2 ^ (56 - 8 * j) % 256 = X := ⟨_, rfl⟩
          have HX := Lib.hid hX
          have hl1 : ([Value.int .u8 (IntKind.u64.wrap z / 2 ^ (56 - 8 * j) % 256)]).length = 1 * 1 := rfl
          have hn1 : ∀ (q : Nat) u, ([Value.int .u8 (IntKind.u64.wrap z / 2 ^ (56 - 8 * j) % 256)])[q]? = some u → (wr.alloc (.cells #[.int .u8 (IntKind.u64.wrap z / 2 ^ (56 - 8 * j) % 256)] 5)).cell? ((⟨wr.heap.size, 0, none⟩ : Addr).add q) = some u := by
            intro q u hu
            rw [addr_mid, Nat.zero_add, cell_of_row _ _ q _ 5 (0, 0) (heap_new wr _)]
            simpa using hu
          have ho1 : ∀ u ∈ ([Value.int .u8 (IntKind.u64.wrap z / 2 ^ (56 - 8 * j) % 256)]), u.oneCell' = true := by
            intro u hu
            simp only [List.mem_singleton] at hu
            rw [hu]; rfl
          have k1 : 8 * i + j + 1 ≤ maxLen := by unfold maxLen; omega
          have k2 : (8 * i + j + 1) * 1 ≤ 140737488355328 := by omega
          have k3 : w.heap.size ≤ (wr.alloc (.cells #[.int .u8 (IntKind.u64.wrap z / 2 ^ (56 - 8 * j) % 256)] 5)).heap.size := by have := hB.size; rw [World.size_alloc]; omega
          have hB1 := hB.alloc hB.size (.cells #[.int .u8 (IntKind.u64.wrap z / 2 ^ (56 - 8 * j) % 256)] 5)
          have hown1 := hown.alloc (.cells #[.int .u8 (IntKind.u64.wrap z / 2 ^ (56 - 8 * j) % 256)] 5)
          clear hX
          go_wp2_with (at_builtin; refine wpList_append_own _ rfl (.tmp 21) (.tmp 27) 22 rfl w.heap.size 5 i0 (.int .u8 0) 1 1 Tryd.underlying22 hi hzr hsize hby rfl (by decide) _ _ _ rfl hown1 ⟨wr.heap.size, 0, none⟩ 1 1 _ rfl hl1 hn1 ho1 k1 k2 k3 ?_)
          intro v2 w2 hown2 hgr2 _
          have hB2 : Below w.heap.size w w2 := hB1.grown hgr2 hB1.size (fun k e => (hown1.lt k e).1)
          clear hgr2 hown1 hown hB1 k1 k2 k3 hn1 ho1 hl1
          go_wp2_with fail
          go_roundw
          case rel =>
            refine ⟨j + 1, by omega, by go_num, hB2, ?_⟩
            rw [HTB.out, ← List.append_assoc, u8s_append]
            have e : u8s [b] = [.int .u8 (IntKind.u64.wrap z / 2 ^ (56 - 8 * j) % 256)] := by rw [HB.out]; rfl
            rw [e]
            exact hown2
          case measure => simp [intOf]; omega
        · obtain rfl : j = 8 := by omega
          have e0 : ¬ 0 ≤ 56 - 8 * ((8 : Nat) : Int) := by decide
          rw [List.take_of_length_le (l := numB z) (by rw [numB_length]; omega), ← HTK.out] at hown
          go_wp2_with fail
          go_roundw
          case rel => exact ⟨i + 1, by omega, by go_num, hB, hown⟩
          case measure => simp [intOf]; omega
    · obtain rfl : i = k := by omega
      rw [List.take_of_length_le (by have := HKZ.out; omega)] at hown
      clear HZ HKZ hik hlt
      rcases A with _ | ad
      · obtain rfl : c = 0 := h.nil_ rfl
        obtain rfl : n = 0 := by have := h.cap; omega
        obtain rfl : l = [] := List.length_eq_zero_iff.1 h.len
        obtain ⟨A, c, rfl, hbs⟩ := ownsRow_bs hown (by omega)
        have cs := scalar_any tag A (8 * i) c (numsB zs) wr (by omega) hbs (by omega) (hT.ext hB)
        have CS := Lib.hid cs
        clear cs
        go_wp2_with (at_builtin; refine wpList_append_own_none rfl (.tmp 31) (.tmp 32) 22 rfl w.heap.size 5 i0 1 Tryd.underlying22 hi _ (8 * i) (u8s (numsB zs)) rfl hown rfl ?_)
        refine CS.out.mono ?_
        rintro e w3 ⟨rfl, hb3⟩
        go_wp2_with fail
        go_ret
        exact ⟨by rw [List.append_nil]; rfl, bl hB hb3⟩
      · have hn2 : ∀ j u, (u8s l)[j]? = some u → wr.cell? (ad.add j) = some u := by
          intro j u hu
          have hlt : j < l.length := by
            rcases Nat.lt_or_ge j l.length with h | h
            · exact h
            · rw [List.getElem?_eq_none (by rw [u8s_length]; exact h)] at hu; cases hu
          obtain ⟨b, o, e, hB⟩ := (h.below hB).at_ (by have := h.len; omega)
          cases e
          exact bytes_cell hB j u hu
        have hl2 : (u8s l).length = n * 1 := by rw [u8s_length, h.len, Nat.mul_one]
        have k1 : 8 * i + n ≤ maxLen := by unfold maxLen; omega
        have k2 : (8 * i + n) * 1 ≤ 140737488355328 := by omega
        have k3 : w.heap.size ≤ wr.heap.size := hB.size
        go_wp2_with (at_builtin; refine wpList_append_own _ rfl (.tmp 31) (.tmp 32) 22 rfl w.heap.size 5 i0 (.int .u8 0) 1 1 Tryd.underlying22 hi hzr hsize hby rfl (by decide) _ _ _ rfl hown ad n c (u8s l) rfl hl2 hn2 (u8s_one l) k1 k2 k3 ?_)
        intro v3 w3 hown3 hgr3 _
        have hb3 : Below w.heap.size w w3 := hB.grown hgr3 hB.size (fun k e => (hown.lt k e).1)
        clear hgr3 hown hn2 k1 k2 k3
        rw [← u8s_append] at hown3
        obtain ⟨A, c3, rfl, hbs⟩ := ownsRow_bs hown3 (by omega)
        have cs := scalar_any tag A (8 * i + n) c3 (numsB zs ++ l) w3 (by omega) hbs (by omega) (hT.ext hb3)
        have CS := Lib.hid cs
        clear cs hown3 hbs
        go_wp2_with fail
        refine CS.out.mono ?_
        rintro e w4 ⟨rfl, hb4⟩
        go_wp2_with fail
        go_ret
        exact ⟨rfl, bl hb3 hb4⟩
/-- a private key. -/
def keyB (x : Int) : Bool := decide (1 ≤ x ∧ x < 2305843009213688669)
theorem valid_any (x : Int) (w : World) : Calls Tryd.prog 65 #[.int .i64 x] w fun e w' => e = .returned (.bool (keyB x)) ∧ w = w' := by
  by_cases h1 : 1 ≤ x
  · by_cases h2 : x < 2305843009213688669
    · rw [show keyB x = true from decide_eq_true ⟨h1, h2⟩]
      go_enter Tryd.func65, Tryd.ntmps65
      go_wp2_with fail
      go_ret
      exact ⟨by simp [h1, h2], rfl⟩
    · rw [show keyB x = false from decide_eq_false (fun h => h2 h.2)]
      go_enter Tryd.func65, Tryd.ntmps65
      go_wp2_with fail
      go_ret
      exact ⟨by simp [h1, h2], rfl⟩
  · rw [show keyB x = false from decide_eq_false (fun h => h1 h.1)]
    go_enter Tryd.func65, Tryd.ntmps65
    go_wp2_with fail
    go_ret
    exact ⟨by simp [h1], rfl⟩
theorem pub_any (x : Int) (w : World) : Calls Tryd.prog 66 #[.int .i64 x] w fun e w' => e = .returned (.int .i64 (expV 4 x)) ∧ Below w.heap.size w w' := by
  have C := Lib.hid (base_any x w)
  go_enter Tryd.func66, Tryd.ntmps66
  go_wp2_with fail
  refine C.out.mono ?_
  rintro e w1 ⟨rfl, b1⟩
  go_wp2_with fail
  go_ret
  exact ⟨rfl, b1⟩
theorem public_yes (x : Int) (w : World) (h : keyB x = true) : Calls Tryd.prog 23 #[.int .i64 x] w fun e w' => e = .returned (.tuple #[.int .i64 (expV 4 x), .int .i64 0]) ∧ Below w.heap.size w w' := by
  have c0 := fun W => valid_any x W
  rw [h] at c0
  have C0 := Lib.hid c0
  have C := Lib.hid fun W => pub_any x W
  clear c0
  go_enter Tryd.func23, Tryd.ntmps23
  go_wp2_with fail
  refine (C0.out _).mono ?_
  rintro e w1 ⟨rfl, rfl⟩
  go_wp2_with fail
  refine (C.out _).mono ?_
  rintro e w1 ⟨rfl, b1⟩
  go_wp2_with fail
  go_ret2
  exact ⟨rfl, b1⟩
theorem public_no (x : Int) (w : World) (h : keyB x = false) : Calls Tryd.prog 23 #[.int .i64 x] w fun e w' => e = .returned (.tuple #[.int .i64 0, .int .i64 40]) ∧ Below w.heap.size w w' := by
  have c0 := fun W => valid_any x W
  rw [h] at c0
  have C0 := Lib.hid c0
  clear c0
  go_enter Tryd.func23, Tryd.ntmps23
  go_wp2_with fail
  refine (C0.out _).mono ?_
  rintro e w1 ⟨rfl, rfl⟩
  go_wp2_with fail
  go_ret2
  exact ⟨rfl, Below.refl _ _⟩
/-- sizarlaw04.minus. -/
theorem minus_any (a b : Int) (w : World) (ha : scalB a = true) (hb : scalB b = true) : Calls Tryd.prog 27 #[.int .i64 a, .int .i64 b] w fun e w' => e = .returned (.tuple #[.int .i64 (sumV a (prodV 2305843009213688668 b)), .int .i64 0]) ∧ Below w.heap.size w w' := by
  have hq : scalB 2305843009213688668 = true := scalB_mk (by omega)
  have hp := prod_scal hq hb
  have C1 := Lib.hid fun W => prod_el hq hb W
  have C2 := Lib.hid fun W => sum_el ha hp.1 W
  obtain ⟨p, hpe⟩ : ∃ p, prodV 2305843009213688668 b = p := ⟨_, rfl⟩
  rw [hpe] at C2 hp ⊢
  simp only [hpe] at C1
  clear hq hp hpe
  go_enter Tryd.func27, Tryd.ntmps27
  go_wp2_with fail
  refine (C1.out _).mono ?_
  rintro e w1 ⟨rfl, b1⟩
  go_wp2_with fail
  refine (C2.out _).mono ?_
  rintro e w2 ⟨rfl, b2⟩
  go_wp2_with fail
  go_ret2
  exact ⟨rfl, bl b1 b2⟩
theorem own_below {w w' : World} {B n : Nat} {v : Value} {xs : List Value} (h : w.ownsRow B 5 1 v n xs) (hb : Below w.heap.size w w') : w'.ownsRow B 5 1 v n xs := by
  refine ⟨h.1, ?_⟩
  rcases h.2 with hn | ⟨g, cap, cur, rfl, hB, hgg, rest⟩
  · exact .inl hn
  · exact .inr ⟨g, cap, cur, rfl, hB, (hb.block g (Array.getElem?_eq_some_iff.1 hgg).1).trans hgg, rest⟩
/-- append(b, c...), b the call's own, c whatever bytes. -/
theorem wpList_append_bs {w : World} {ops : Array Oper} {rest : List Oper} {o : Oper} {a : Act} {Q : Exit → Act → World → Prop} (hgd : o.guard = none) (s x : Operand)
    (ho : o.op = .call { callee := .builtin .append, args := #[s, x], argTypes := #[22, 22] }) (B n m c : Nat) (v : Value) (A : Option Addr) (l1 l2 : List UInt8) (hs : a.eval s = v) (hx : a.eval x = .slice A m c)
    (hown : w.ownsRow B 5 1 v n (u8s l1)) (h2 : BS w A m c l2) (hsum : n + m ≤ 100000000) (hbase : B ≤ w.heap.size)
    (h : ∀ v' w', w'.ownsRow B 5 1 v' (n + m) (u8s (l1 ++ l2)) → (∀ W0, Below B W0 w → Below B W0 w') → wpList Tryd.prog ops Q rest (a.put o.dst v') w') : wpList Tryd.prog ops Q (o :: rest) a w := by
  obtain ⟨i0, hi, hzr, hsize, hby⟩ := info_parts info5
  rcases A with _ | ad
  · obtain rfl : c = 0 := h2.nil_ rfl
    obtain rfl : m = 0 := by have := h2.cap; omega
    obtain rfl : l2 = [] := List.length_eq_zero_iff.1 h2.len
    refine wpList_append_own_none hgd s x 22 ho B 5 i0 1 Tryd.underlying22 hi v n (u8s l1) hs hown hx ?_
    exact h v w (by rw [List.append_nil]; exact hown) (fun _ hb => hb)
  · have hn2 : ∀ j u, (u8s l2)[j]? = some u → w.cell? (ad.add j) = some u := by
      intro j u hu
      have hlt : j < l2.length := by
        rcases Nat.lt_or_ge j l2.length with h | h
        · exact h
        · rw [List.getElem?_eq_none (by rw [u8s_length]; exact h)] at hu; cases hu
      obtain ⟨b, o, e, hB⟩ := h2.at_ (by have := h2.len; omega)
      cases e
      exact bytes_cell hB j u hu
    refine wpList_append_own _ hgd s x 22 ho B 5 i0 (.int .u8 0) 1 1 Tryd.underlying22 hi hzr hsize hby rfl (by decide) _ _ _ hs hown ad m c (u8s l2) hx (by rw [u8s_length, h2.len, Nat.mul_one]) hn2 (u8s_one l2) (by unfold maxLen; omega) (by omega) hbase ?_
    intro v' w' ho' hg' _
    refine h v' w' (by rw [u8s_append]; exact ho') (fun W0 hb => ?_)
    exact hb.grown hg' hbase (fun k e => (hown.lt k e).1)
set_option maxRecDepth 100000 in
/-- sizarlaw04.number. -/
theorem lnumber_any (z : Int) (w : World) : Calls Tryd.prog 30 #[.int .i64 z] w fun e w' => ∃ A c, e = .returned (.slice A 8 c) ∧ w'.ownsRow w.heap.size 5 1 (.slice A 8 c) 8 (u8s (numB z)) ∧ Below w.heap.size w w' := by
  go_enter Tryd.func30, Tryd.ntmps30
  go_wp2_with fail
  go_loopw [4, 3] (fun x v wq => ∃ j : Nat, j ≤ 8 ∧ x = .int .i64 (7 - (j : Int)) ∧ Below w.heap.size w wq ∧ wq.ownsRow w.heap.size 5 1 v j (u8s ((numB z).take j))) (fun x _ _ => (intOf x + 1).toNat)
  case atStart => exact ⟨0, by omega, rfl, Below.refl _ _, World.ownsRow_nil _ _ _ _⟩
  case round =>
    obtain ⟨j, hj, rfl, hB, hown⟩ := hrel
    by_cases hlt : j < 8
    · have e0 : 0 ≤ 7 - (j : Int) := by omega
      have e1 : 7 - (j : Int) ≤ 7 := by omega
      have e2 : (8 * (7 - (j : Int))).toNat = 56 - 8 * j := by omega
      have hb := num_byte z j hlt
      have htb := numB_byte z j hlt
      obtain ⟨b, hbe⟩ : ∃ b, UInt8.ofNat ((z % 18446744073709551616).toNat / 256 ^ (7 - j)) = b := ⟨_, rfl⟩
      rw [hbe] at hb htb
      have HTB := Lib.hid htb
      have hbs : BS (wr.alloc (.cells #[.int .u8 (IntKind.u64.wrap z / 2 ^ (56 - 8 * j) % 256)] 5)) (some ⟨wr.heap.size, 0, none⟩) 1 1 [b] :=
        ⟨rfl, by omega, by omega, fun e => (by cases e), fun _ => ⟨_, 0, rfl, ⟨fun i hi => by
          have : i = 0 := by simp at hi; omega
          subst this
          exact (cell_of_row _ _ 0 _ 5 (0, 0) (heap_new wr _)).trans (by rw [hb]; rfl), fun _ => by simp⟩⟩⟩
      have hB1 := hB.alloc hB.size (.cells #[.int .u8 (IntKind.u64.wrap z / 2 ^ (56 - 8 * j) % 256)] 5)
      have hown1 := hown.alloc (.cells #[.int .u8 (IntKind.u64.wrap z / 2 ^ (56 - 8 * j) % 256)] 5)
      clear hbe htb hb hown
      go_wp2_with (at_builtin; refine wpList_append_bs rfl (.tmp 9) (.tmp 16) rfl w.heap.size j 1 1 _ _ _ [b] rfl rfl hown1 hbs (by omega) hB1.size ?_)
      intro v2 w2 hown2 hb2
      have hB2 := hb2 _ hB1
      clear hb2 hown1 hB1
      go_wp2_with fail
      go_roundw
      case rel =>
        refine ⟨j + 1, by omega, by go_num, hB2, ?_⟩
        rw [HTB.out]
        exact hown2
      case measure => simp [intOf]; omega
    · obtain rfl : j = 8 := by omega
      have e0 : ¬ 0 ≤ 7 - ((8 : Nat) : Int) := by decide
      rw [List.take_of_length_le (l := numB z) (by rw [numB_length]; omega)] at hown
      obtain ⟨A, c, rfl, hbs⟩ := ownsRow_bs hown (by omega)
      go_wp2_with fail
      go_ret
      exact ⟨A, c, rfl, hown, hB⟩
theorem and62 (n : Int) : ∃ m : Nat, bits .and .i64 n 4611686018427387903 = m ∧ m ≤ 4611686018427387903 := by
  refine ⟨((BitVec.ofInt 64 n) &&& (BitVec.ofInt 64 4611686018427387903)).toNat, ?_, ?_⟩
  · unfold bits
    have h : ((BitVec.ofInt 64 n) &&& (BitVec.ofInt 64 4611686018427387903)).toNat ≤ 4611686018427387903 := by
      rw [BitVec.toNat_and]; exact Nat.le_trans Nat.and_le_right (by decide)
    show IntKind.i64.wrap ((((BitVec.ofInt 64 n) &&& (BitVec.ofInt 64 4611686018427387903) : BitVec 64).toNat : Nat) : Int) = _
    generalize ((BitVec.ofInt 64 n) &&& (BitVec.ofInt 64 4611686018427387903)).toNat = m at *
    simp only [IntKind.wrap, IntKind.bits, IntKind.signed]
    simp
    omega
  · rw [BitVec.toNat_and]; exact Nat.le_trans Nat.and_le_right (by decide)
/-- a key out of any number. -/
def keyV (n : Int) : Int := 1 + bits .and .i64 n 4611686018427387903 % 2305843009213688668
theorem keyV_key (n : Int) : keyB (keyV n) = true := by
  obtain ⟨m, h, _⟩ := and62 n
  refine decide_eq_true ?_
  unfold keyV; rw [h]; omega
theorem rkey_any (n : Int) (w : World) : Calls Tryd.prog 22 #[.int .i64 n] w fun e w' => e = .returned (.int .i64 (keyV n)) ∧ w = w' := by
  obtain ⟨m, h, hm⟩ := and62 n
  have hv : keyV n = 1 + (m : Int) % 2305843009213688668 := by unfold keyV; rw [h]
  rw [hv]
  clear hv
  go_enter Tryd.func22, Tryd.ntmps22
  go_wp2_with fail
  go_ret
  exact ⟨rfl, rfl⟩
theorem ownsRow_bs' {w : World} {B n m c : Nat} {A : Option Addr} {l : List UInt8} (h : w.ownsRow B 5 1 (.slice A m c) n (u8s l)) (h0 : 0 < n) : m = n ∧ BS w A n c l := by
  obtain ⟨A', c', e, hb⟩ := ownsRow_bs h h0
  cases e
  exact ⟨rfl, hb⟩
def signS : List UInt8 := [115, 105, 103, 110]
def nonceS : List UInt8 := [110, 111, 110, 99, 101]
/-- the challenge. -/
def chV (p r : Int) (l : List UInt8) : Int := (scalN (tagB signS (numB r ++ numB p ++ l)) : Nat)
set_option maxRecDepth 100000 in
/-- sizarlaw04.challenge. -/
theorem challenge_any (p r : Int) (A : Option Addr) (n c : Nat) (l : List UInt8) (w : World) (h : BS w A n c l) (hn : n ≤ 1000) (hT : Tabs w) :
    Calls Tryd.prog 26 #[.int .i64 p, .int .i64 r, .slice A n c] w fun e w' => e = .returned (.int .i64 (chV p r l)) ∧ Below w.heap.size w w' := by
  have C1 := Lib.hid (lnumber_any r w)
  have C2 := Lib.hid fun W => lnumber_any p W
  go_enter Tryd.func26, Tryd.ntmps26
  go_wp2_with fail
  refine C1.out.mono ?_
  rintro e w1 ⟨A1, c1, rfl, ho1, hb1⟩
  go_wp2_with fail
  refine (C2.out _).mono ?_
  rintro e w2 ⟨A2, c2, rfl, ho2, hb2⟩
  have hbw2 := bl hb1 hb2
  have ho1' := own_below ho1 hb2
  obtain ⟨_, hs2⟩ := ownsRow_bs' ho2 (by omega)
  have hsz := hbw2.size
  clear C1 C2 ho1 ho2
  go_wp2_with (at_builtin; refine wpList_append_bs rfl (.tmp 8) (.tmp 10) rfl w.heap.size 8 8 c2 _ _ _ _ rfl rfl ho1' hs2 (by omega) hsz ?_)
  intro v3 w3 ho3 hb3
  have hbw3 := hb3 _ hbw2
  have hsm := h.below hbw3
  have hsz3 := hbw3.size
  clear ho1' hs2 hb3 hsz
  go_wp2_with (at_builtin; refine wpList_append_bs rfl (.tmp 11) (.tmp 12) rfl w.heap.size 16 n c _ _ _ _ rfl rfl ho3 hsm (by omega) hsz3 ?_)
  intro v4 w4 ho4 hb4
  have hbw4 := hb4 _ hbw3
  obtain ⟨A4, c4, rfl, hs4⟩ := ownsRow_bs ho4 (by omega)
  have cs := scalar_any signS A4 (16 + n) c4 (numB r ++ numB p ++ l) w4 (by decide) hs4 (by omega) (hT.ext hbw4)
  have CS := Lib.hid cs
  clear cs ho4 hs4 hb4
  go_wp2_with fail
  refine CS.out.mono ?_
  rintro e w5 ⟨rfl, hb5⟩
  go_wp2_with fail
  go_ret
  exact ⟨rfl, bl hbw4 hb5⟩
/-- the nonce, the first and the second part of a signature. -/
def nonceV (x : Int) (l : List UInt8) : Int := (scalN (tagB nonceS (numB x ++ l)) : Nat)
def sigR (x : Int) (l : List UInt8) : Int := expV 4 (nonceV x l)
def sigS (x : Int) (l : List UInt8) : Int := sumV (nonceV x l) (prodV (chV (expV 4 x) (sigR x l) l) x)
theorem scalN_scal (d : List UInt8) : scalB (scalN d : Nat) = true := by
  have := scalN_pos d
  exact scalB_mk (by omega)
theorem key_scal {x : Int} (h : keyB x = true) : scalB x = true := by
  have := of_decide_eq_true h
  exact scalB_mk (by omega)
theorem base_yes {k : Int} (h : scalB k = true) (W : World) : Calls Tryd.prog 28 #[.int .i64 k] W fun e w' => e = .returned (.tuple #[.int .i64 (expV 4 k), .int .i64 0]) ∧ Below W.heap.size W w' := by
  have := base_any k W
  rwa [show expE 4 k = 0 by unfold expE; rw [e4, h]; rfl] at this
/-- what is held of the signature's block while the region runs. -/
def Held (w : World) (R : Int) (W : World) : Prop := W.cell? ⟨w.heap.size, 0, none⟩ = some (.int .i64 R) ∧ Below w.heap.size w W ∧ Blk W w.heap.size 29 #[.int .i64 R, .int .i64 0]
theorem held_next {w W W' : World} {R : Int} (h : W.cell? ⟨w.heap.size, 0, none⟩ = some (.int .i64 R) ∧ Below w.heap.size w W ∧ Blk W w.heap.size 29 #[.int .i64 R, .int .i64 0]) (b : Below W.heap.size W W') :
    W'.cell? ⟨w.heap.size, 0, none⟩ = some (.int .i64 R) ∧ Below w.heap.size w W' ∧ Blk W' w.heap.size 29 #[.int .i64 R, .int .i64 0] := by
  have h1 := h.2.2.below b h.2.2.lt
  exact ⟨h1.cell 0, bl h.2.1 b, h1⟩
theorem held_mid {w W : World} {R : Int} (h : W.cell? ⟨w.heap.size, 0, none⟩ = some (.int .i64 R) ∧ Below w.heap.size w W ∧ Blk W w.heap.size 29 #[.int .i64 R, .int .i64 0]) : Below w.heap.size w W := h.2.1
theorem held_alloc {w W : World} {R : Int} (h : W.cell? ⟨w.heap.size, 0, none⟩ = some (.int .i64 R) ∧ Below w.heap.size w W ∧ Blk W w.heap.size 29 #[.int .i64 R, .int .i64 0]) (o : Obj) :
    (W.alloc o).cell? ⟨w.heap.size, 0, none⟩ = some (.int .i64 R) ∧ Below w.heap.size w (W.alloc o) ∧ Blk (W.alloc o) w.heap.size 29 #[.int .i64 R, .int .i64 0] :=
  ⟨(h.2.2.alloc o).cell 0, h.2.1.alloc h.2.1.size o, h.2.2.alloc o⟩
theorem results_sig {tmps : Array Value} {W : World} {g : Nat} {R S : Int} {e : Value} (h : Blk W g 29 #[.int .i64 R, .int .i64 S]) (h1 : tmps.getD 4 undef = .pointer (some ⟨g, 0, none⟩)) (h2 : tmps.getD 5 undef = e) :
    (results Tryd.f24 tmps).run Tryd.prog W = .ok (.tuple #[.agg #[.int .i64 R, .int .i64 S], e]) W := by
  rw [results_cell_tmp (p := 4) (u := 5) (ty := 29) rfl, h1, h2]
  have hl := run_loadVar_row (P := Tryd.prog) W g 29 29 #[.int .i64 R, .int .i64 S] _ _ h Tryd.underlying29 rfl (by kernel_rfl)
  simp only [asAddr, Sem.run_pure, Result.andThen_ok, hl]
theorem hash1 (tag : List UInt8) (A : Option Addr) (n c g : Nat) (l : List UInt8) (x : Int) (W : World) (ht : tag.length ≤ 1000) (h : BS W A n c l) (hn : n ≤ 1000) (hg : Blk W g 3 #[.int .i64 x]) (hT : Tabs W) :
    Calls Tryd.prog 67 #[.string ⟨tag.toArray⟩, .slice A n c, .slice (some ⟨g, 0, none⟩) 1 1] W fun e w' => e = .returned (.int .i64 (scalN (tagB tag (numB x ++ l)))) ∧ Below W.heap.size W w' := by
  have := hash_any tag A n c g l [x] W ht h hn (by simp) (by simp) (fun i hi => by
      have : i = 0 := by simp at hi; omega
      subst this; exact hg.cell 0) hT
  rw [show numsB [x] = numB x from List.append_nil _] at this
  exact this
theorem hash2 (tag : List UInt8) (A : Option Addr) (n c g : Nat) (l : List UInt8) (x y : Int) (W : World) (ht : tag.length ≤ 1000) (h : BS W A n c l) (hn : n ≤ 1000) (hg : Blk W g 3 #[.int .i64 x, .int .i64 y]) (hT : Tabs W) :
    Calls Tryd.prog 67 #[.string ⟨tag.toArray⟩, .slice A n c, .slice (some ⟨g, 0, none⟩) 2 2] W fun e w' => e = .returned (.int .i64 (scalN (tagB tag (numB x ++ numB y ++ l)))) ∧ Below W.heap.size W w' := by
  have := hash_any tag A n c g l [x, y] W ht h hn (by simp) (by simp) (fun i hi => by
      simp at hi
      match i, hi with
      | 0, _ => exact hg.cell 0
      | 1, _ => exact hg.cell 1) hT
  rw [show numsB [x, y] = numB x ++ numB y from congrArg (numB x ++ ·) (List.append_nil _)] at this
  exact this
set_option maxRecDepth 100000 in
theorem sign_yes (x : Int) (A : Option Addr) (n c : Nat) (l : List UInt8) (w : World) (hx : keyB x = true) (h : BS w A n c l) (hn : n ≤ 1000) (hT : Tabs w) :
    Calls Tryd.prog 24 #[.int .i64 x, .slice A n c] w fun e w' => e = .returned (.tuple #[.agg #[.int .i64 (sigR x l), .int .i64 (sigS x l)], .int .i64 0]) ∧ Below w.heap.size w w' := by
  have c0 := fun W => valid_any x W
  rw [hx] at c0
  have C0 := Lib.hid c0
  have hks : scalB (nonceV x l) = true := scalN_scal _
  obtain ⟨k, hk⟩ : ∃ k, nonceV x l = k := ⟨_, rfl⟩
  obtain ⟨p, hp⟩ : ∃ p, expV 4 x = p := ⟨_, rfl⟩
  obtain ⟨R, hR⟩ : ∃ R, sigR x l = R := ⟨_, rfl⟩
  have hch : scalB (chV p R l) = true := scalN_scal _
  obtain ⟨ch, hche⟩ : ∃ ch, chV p R l = ch := ⟨_, rfl⟩
  have hpr := prod_scal (hche ▸ hch) (key_scal hx)
  obtain ⟨m, hm⟩ : ∃ m, prodV ch x = m := ⟨_, rfl⟩
  have hS : sigS x l = sumV k m := by unfold sigS; rw [hk, hp, hR, hche, hm]
  obtain ⟨S, hSe⟩ : ∃ S, sumV k m = S := ⟨_, rfl⟩
  have CP := Lib.hid fun W => (hp ▸ pub_any x W : Calls Tryd.prog 66 #[.int .i64 x] W fun e w' => e = .returned (.int .i64 p) ∧ Below W.heap.size W w')
  have CB := Lib.hid fun W => ((show expV 4 k = R by rw [← hk, ← hR]; rfl) ▸ base_yes (hk ▸ hks) W : Calls Tryd.prog 28 #[.int .i64 k] W fun e w' => e = .returned (.tuple #[.int .i64 R, .int .i64 0]) ∧ Below W.heap.size W w')
  have C25 := Lib.hid fun W => (hm ▸ prod_el (hche ▸ hch) (key_scal hx) W : Calls Tryd.prog 25 #[.int .i64 ch, .int .i64 x] W fun e w' => e = .returned (.tuple #[.int .i64 m, .int .i64 0]) ∧ Below W.heap.size W w')
  have C32 := Lib.hid fun W => (hSe ▸ sum_el (hk ▸ hks) (hm ▸ hpr.1) W : Calls Tryd.prog 32 #[.int .i64 k, .int .i64 m] W fun e w' => e = .returned (.tuple #[.int .i64 S, .int .i64 0]) ∧ Below W.heap.size W w')
  have CH := Lib.hid fun (W : World) (g : Nat) (hb : Below w.heap.size w W) (hg : Blk W g 3 #[.int .i64 x]) =>
    ((show ((scalN (tagB nonceS (numB x ++ l)) : Nat) : Int) = k from hk) ▸ hash1 nonceS A n c g l x W (by decide) (h.below hb) hn hg (hT.ext hb) :
      Calls Tryd.prog 67 #[.string ⟨nonceS.toArray⟩, .slice A n c, .slice (some ⟨g, 0, none⟩) 1 1] W fun e w' => e = .returned (.int .i64 k) ∧ Below W.heap.size W w')
  have CH2 := Lib.hid fun (W : World) (g : Nat) (hb : Below w.heap.size w W) (hg : Blk W g 3 #[.int .i64 R, .int .i64 p]) =>
    ((show ((scalN (tagB signS (numB R ++ numB p ++ l)) : Nat) : Int) = ch from hche) ▸ hash2 signS A n c g l R p W (by decide) (h.below hb) hn hg (hT.ext hb) :
      Calls Tryd.prog 67 #[.string ⟨signS.toArray⟩, .slice A n c, .slice (some ⟨g, 0, none⟩) 2 2] W fun e w' => e = .returned (.int .i64 ch) ∧ Below W.heap.size W w')
  rw [hR, hS, hSe]
  clear c0 hks hch hpr h hT hk hp hR hche hm hS hSe
  go_enter Tryd.func24, Tryd.ntmps24
  go_wp2_with fail
  refine (C0.out _).mono ?_
  rintro e w1 ⟨rfl, rfl⟩
  go_wp2_with fail
  have hS0 : Blk ((w.alloc (.cells #[.int .i64 0, .int .i64 0] 29)).alloc (.cells #[.int .i64 x] 3)) w.heap.size 29 #[.int .i64 0, .int .i64 0] := (Blk.new _ _ _).alloc _
  have hX0 : Blk ((w.alloc (.cells #[.int .i64 0, .int .i64 0] 29)).alloc (.cells #[.int .i64 x] 3)) (w.heap.size + 1) 3 #[.int .i64 x] := by
    have := Blk.new (w.alloc (.cells #[.int .i64 0, .int .i64 0] 29)) 3 #[.int .i64 x]
    rwa [World.size_alloc] at this
  have hb0 : Below w.heap.size w ((w.alloc (.cells #[.int .i64 0, .int .i64 0] 29)).alloc (.cells #[.int .i64 x] 3)) := ((Below.refl _ w).alloc (Nat.le_refl _) _).alloc (by simp) _
  generalize (w.alloc (.cells #[.int .i64 0, .int .i64 0] 29)).alloc (.cells #[.int .i64 x] 3) = w1 at hS0 hX0 hb0 ⊢
  refine (CH.out w1 _ hb0 hX0).mono ?_
  rintro e w2 ⟨rfl, hb2⟩
  have hS2 := hS0.below hb2 hS0.lt
  have hb2 := bl hb0 hb2
  clear hS0 hX0 hb0
  go_wp2_with fail
  refine (CB.out w2).mono ?_
  rintro e w3 ⟨rfl, hb3⟩
  have hS3 := hS2.below hb3 hS2.lt
  have hb3 := bl hb2 hb3
  have f3 := hS3.frozen 0
  have c3 := hS3.cell 0
  go_wp2_with fail
  have hS4 : Blk (w3.setCell ⟨w.heap.size, 0, none⟩ (.int .i64 R)) w.heap.size 29 #[.int .i64 R, .int .i64 0] := hS3.set_ 0 _
  have hb4 := hb3.setCell (p := ⟨w.heap.size, 0, none⟩) (Nat.le_refl _) (.int .i64 R)
  generalize w3.setCell ⟨w.heap.size, 0, none⟩ (.int .i64 R) = w4 at hS4 hb4 ⊢
  clear f3 c3 hS3 hb3 hS2 hb2 C0 CB CH
  have c4 : w4.cell? ⟨w.heap.size, 0, none⟩ = some (.int .i64 R) := hS4.cell 0
  go_region_held3 (fun W => W.cell? ⟨w.heap.size, 0, none⟩ = some (.int .i64 R) ∧ Below w.heap.size w W ∧ Blk W w.heap.size 29 #[.int .i64 R, .int .i64 0])
    (first | exact ⟨c4, below_drewN hb4 1, hS4⟩ | exact held_next (by assumption) (by assumption) | exact held_alloc (by assumption) _)
    (first | (go_at_call 66; refine (CP.out _).mono ?_; rintro e w5 ⟨rfl, b5⟩) | (go_at_call 67; refine (CH2.out _ _ (by exact held_mid (R := R) (by assumption)) (Blk.new _ _ _)).mono ?_; rintro e w6 ⟨rfl, b6⟩) | (go_at_call 25; refine (C25.out _).mono ?_; rintro e w7 ⟨rfl, b7⟩))
  obtain ⟨_, hb8, hS8⟩ : w7.cell? ⟨w.heap.size, 0, none⟩ = some (.int .i64 R) ∧ Below w.heap.size w w7 ∧ Blk w7 w.heap.size 29 #[.int .i64 R, .int .i64 0] := by assumption
  clear b5 b6 b7 hb4 hS4 c4
  go_wp2_with fail
  refine (C32.out _).mono ?_
  rintro e w9 ⟨rfl, hb9⟩
  have hS9 := hS8.below hb9 hS8.lt
  have hb9 := bl hb8 hb9
  have f9 := hS9.frozen 1
  have c9 := hS9.cell 1
  go_upto_region 9 with fail
  have hS10 : Blk (w9.setCell ⟨w.heap.size, 1, none⟩ (.int .i64 S)) w.heap.size 29 #[.int .i64 R, .int .i64 S] := hS9.set_ 1 _
  have hb10 := hb9.setCell (p := ⟨w.heap.size, 1, none⟩) (Nat.le_refl _) (.int .i64 S)
  generalize w9.setCell ⟨w.heap.size, 1, none⟩ (.int .i64 S) = w10 at hS10 hb10 ⊢
  clear f9 c9
  have c0 := hS10.cell 0
  have c1 := hS10.cell 1
  have f0 := hS10.frozen 0
  have f1 := hS10.frozen 1
  go_wp2_with fail
  have hS11 : Blk ((w10.setCell ⟨w.heap.size, 0, none⟩ (.int .i64 R)).setCell ⟨w.heap.size, 1, none⟩ (.int .i64 S)) w.heap.size 29 #[.int .i64 R, .int .i64 S] := (hS10.set_ 0 _).set_ 1 _
  have hb11 := (hb10.setCell (p := ⟨w.heap.size, 0, none⟩) (Nat.le_refl _) (.int .i64 R)).setCell (p := ⟨w.heap.size, 1, none⟩) (Nat.le_refl _) (.int .i64 S)
  generalize (w10.setCell ⟨w.heap.size, 0, none⟩ (.int .i64 R)).setCell ⟨w.heap.size, 1, none⟩ (.int .i64 S) = w11 at hS11 hb11 ⊢
  refine bodyPost_ret (v := .tuple #[.agg #[.int .i64 R, .int .i64 S], .int .i64 0]) ?_ rfl ⟨rfl, hb11⟩
  exact results_sig hS11 rfl rfl
end Go.Proofs.YtedokiemlkccaaaDoor
