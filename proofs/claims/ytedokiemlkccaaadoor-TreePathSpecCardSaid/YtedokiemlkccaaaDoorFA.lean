/- The reference of codec, of lists of integers. -/
import Derived.Test.YtedokiemlkccaaaDoorTN
import Derived.Lib.Zigzag
import Derived.Deep.RegionLaw
set_option linter.all false
namespace Go.Proofs.YtedokiemlkccaaaDoor
open Go.RowKit
open Go.RowKit Go.Shelf
attribute [local go_sem] Oper.semAt_some
theorem own_one (w : World) (b : UInt8) (k : Int) (hk : k = ((b.toNat : Nat) : Int)) : (w.alloc (.cells #[.int .u8 k] 5)).ownsRow w.heap.size 5 1 (.slice (some ⟨w.heap.size, 0, none⟩) 1 1) 1 (u8s [b]) := by
  subst hk
  exact ⟨rfl, .inr ⟨w.heap.size, 1, _, rfl, Nat.le_refl _, heap_alloc_new w _, Nat.le_refl _, by decide, rfl, rfl⟩⟩
set_option maxRecDepth 100000 in
/-- numeral of the reference. -/
theorem rnumeral_any (u : Nat) : ∀ (w : World), u < 18446744073709551616 → Calls Tryd.prog 140 #[.int .u64 u] w fun e w' => ∃ v', e = .returned v' ∧ w'.ownsRow w.heap.size 5 1 v' (numer u).length (u8s (numer u)) ∧ Below w.heap.size w w' := by
  induction u using Nat.strongRecOn with
  | ind u ih =>
    intro w hu
    by_cases hlt : u < 128
    · have t1 : (u : Int) < 128 := by omega
      have hw : IntKind.u8.wrap (u : Int) = (u : Int) := by rw [IntWalk.u8_in _ (by omega)]
      have hm : (u : Int) = (((UInt8.ofNat u).toNat : Nat) : Int) := by rw [UInt8.toNat_ofNat']; omega
      have ho := own_one w (UInt8.ofNat u) u hm
      rw [numer_small hlt]
      have hb : Below w.heap.size w (w.alloc (.cells #[.int .u8 (u : Int)] 5)) := (Below.refl _ w).alloc (Nat.le_refl _) _
      have HO := Lib.hid ho
      have HB := Lib.hid hb
      clear ho hb hm hlt ih
      go_enter Tryd.func140, Tryd.ntmps140
      go_wp2_with fail
      go_ret
      exact ⟨_, rfl, HO.out, HB.out⟩
    · have t1 : ¬ (u : Int) < 128 := by omega
      have cN := fun (W : World) => ih (u / 128) (by omega) W (by omega)
      rw [show ((u / 128 : Nat) : Int) = (u : Int) / 128 by omega] at cN
      have hm : ((u : Int) % 128 + 128) = (((UInt8.ofNat (u % 128 + 128)).toNat : Nat) : Int) := by rw [UInt8.toNat_ofNat']; omega
      have ho := own_one w (UInt8.ofNat (u % 128 + 128)) _ hm
      have h10 := numer_ten (u := u / 128) (by omega)
      have h0 := numer_pos (u / 128)
      have hb : Below w.heap.size w (w.alloc (.cells #[.int .u8 ((u : Int) % 128 + 128)] 5)) := (Below.refl _ w).alloc (Nat.le_refl _) _
      rw [numer_big hlt]
      have e1 : (UInt8.ofNat (u % 128 + 128) :: numer (u / 128)).length = 1 + (numer (u / 128)).length := by rw [List.length_cons]; omega
      rw [e1]
      obtain ⟨L, hL⟩ : ∃ L, numer (u / 128) = L := ⟨_, rfl⟩
      rw [hL] at cN h10 h0 ⊢
      obtain ⟨x, hx⟩ : ∃ x, UInt8.ofNat (u % 128 + 128) = x := ⟨_, rfl⟩
      rw [hx] at ho ⊢
      obtain ⟨ln, hln⟩ : ∃ ln, L.length = ln := ⟨_, rfl⟩
      rw [hln] at h10 h0 ⊢
      simp only [hln] at cN
      clear hln
      have CN := Lib.hid cN
      have HO := Lib.hid ho
      clear ih cN hL hx hm ho e1
      go_enter Tryd.func140, Tryd.ntmps140
      go_wp2_with fail
      generalize w.alloc (.cells #[.int .u8 ((u : Int) % 128 + 128)] 5) = w1 at hb HO ⊢
      refine (CN.out w1).mono ?_
      rintro e w2 ⟨v2, rfl, ho2, k⟩
      obtain ⟨A2, c2, rfl, hs2⟩ := ownsRow_bs ho2 h0
      have hown := owns_below k HO.out
      have b2 := bl hb k
      have hbz := b2.size
      clear ho2 k hb HO h0
      go_wp2_with (at_builtin; refine wpList_append_bs rfl (.tmp 12) (.tmp 15) rfl w.heap.size 1 ln c2 _ _ [x] L rfl rfl hown hs2 (by omega) hbz ?_)
      intro v3 w3 ho3 hb3
      have b3 := hb3 w b2
      clear hb3 hown hs2
      go_wp2_with fail
      go_ret
      exact ⟨v3, rfl, ho3, b3⟩
open Go.RowKit Go.Shelf
attribute [local go_sem] Oper.semAt_some
theorem unsig_pos {z : Int} (h0 : 0 ≤ z) (h1 : z < 9223372036854775808) : unsigV z = 2 * z := by
  obtain ⟨n, rfl⟩ : ∃ n : Nat, z = n := ⟨z.toNat, by omega⟩
  unfold unsigV
  have e1 : IntKind.u64.wrap (IntKind.u64.wrap (n : Int) * 2) = ((2 * n : Nat) : Int) := by
    rw [IntKind.wrap_u64, IntKind.wrap_u64]; omega
  have e2 : IntKind.u64.wrap ((n : Int) / 9223372036854775808) = ((0 : Nat) : Int) := by
    rw [IntKind.wrap_u64]; omega
  rw [e1, e2, bits_xor_u64_nat _ _ (by omega) (by decide), Nat.xor_zero]
  omega
theorem unsig_neg {z : Int} (h0 : -9223372036854775808 ≤ z) (h1 : z < 0) : unsigV z = 2 * (-(z + 1)) + 1 := by
  obtain ⟨n, hn⟩ : ∃ n : Nat, z + 9223372036854775808 = n := ⟨(z + 9223372036854775808).toNat, by omega⟩
  obtain rfl : z = (n : Int) - 9223372036854775808 := by omega
  unfold unsigV
  have e1 : IntKind.u64.wrap (IntKind.u64.wrap ((n : Int) - 9223372036854775808) * 2) = ((2 * n : Nat) : Int) := by
    rw [IntKind.wrap_u64, IntKind.wrap_u64]; omega
  have e2 : IntKind.u64.wrap (((n : Int) - 9223372036854775808) / 9223372036854775808) = ((2 ^ 64 - 1 : Nat) : Int) := by
    rw [IntKind.wrap_u64]; omega
  rw [e1, e2, bits_xor_u64_nat _ _ (by omega) (by decide), Nat.xor_comm, Lib.xor_ones64 _ (by omega)]
  omega
/-- unsigned of the reference. -/
theorem runsig_any (z : Int) (w : World) (h0 : -9223372036854775808 ≤ z) (h1 : z < 9223372036854775808) : Calls Tryd.prog 141 #[.int .i64 z] w fun e w' => e = .returned (.int .u64 (unsigV z)) ∧ w = w' := by
  by_cases h : 0 ≤ z
  · have e := unsig_pos h h1
    have hw : IntKind.u64.wrap z = z := by rw [IntKind.wrap_u64]; omega
    have hw2 : IntKind.u64.wrap (2 * z) = 2 * z := by rw [IntKind.wrap_u64]; omega
    rw [e]
    clear e
    go_enter Tryd.func141, Tryd.ntmps141
    go_wp2_with fail
    go_ret
    exact ⟨rfl, rfl⟩
  · have e := unsig_neg h0 (by omega)
    have hw1 : IntKind.i64.wrap (z + 1) = z + 1 := IntWalk.i64_in _ (by omega)
    have hw2 : IntKind.i64.wrap (-(z + 1)) = -(z + 1) := IntWalk.i64_in _ (by omega)
    have hw3 : IntKind.u64.wrap (-(z + 1)) = -(z + 1) := by rw [IntKind.wrap_u64]; omega
    have hw4 : IntKind.u64.wrap (2 * (-(z + 1))) = 2 * (-(z + 1)) := by rw [IntKind.wrap_u64]; omega
    have hw5 : IntKind.u64.wrap (2 * (-(z + 1)) + 1) = 2 * (-(z + 1)) + 1 := by rw [IntKind.wrap_u64]; omega
    have t1 : ¬ 0 ≤ z := h
    rw [e]
    clear e
    go_enter Tryd.func141, Tryd.ntmps141
    go_wp2_with fail
    go_ret
    exact ⟨rfl, rfl⟩
/-- an integer's value in a block. -/
theorem vi_cells {W : World} {g : Nat} {z : Int} (h : Blk W g 113 (valI z)) : W.cell? ⟨g, 0, none⟩ = some (.int .i64 1) ∧ W.cell? ⟨g, 1, none⟩ = some (.int .i64 z) ∧ W.cell? ⟨g, 2, none⟩ = some (.string ByteArray.empty) ∧ W.cell? ⟨g, 3, none⟩ = some (.slice none 0 0) := ⟨h.cell 0, h.cell 1, h.cell 2, h.cell 3⟩
theorem vl_cells {W : World} {g : Nat} {A : Option Addr} {k c : Nat} (h : Blk W g 113 (valL A k c)) : W.cell? ⟨g, 0, none⟩ = some (.int .i64 3) ∧ W.cell? ⟨g, 1, none⟩ = some (.int .i64 0) ∧ W.cell? ⟨g, 2, none⟩ = some (.string ByteArray.empty) ∧ W.cell? ⟨g, 3, none⟩ = some (.slice A k c) := ⟨h.cell 0, h.cell 1, h.cell 2, h.cell 3⟩
theorem vat_cells {w wr : World} {ga : Nat} {zs : List Int} (hV : VAt w ga zs) (hga : ga < w.heap.size) (hB : Below w.heap.size w wr) {i : Nat} (hi : i < zs.length) :
    wr.cell? ⟨ga, i * 4, none⟩ = some (.int .i64 1) ∧ wr.cell? ⟨ga, i * 4 + 1, none⟩ = some (.int .i64 zs[i]) ∧ wr.cell? ⟨ga, i * 4 + 2, none⟩ = some (.string ByteArray.empty) ∧ wr.cell? ⟨ga, i * 4 + 3, none⟩ = some (.slice none 0 0) := by
  have hcell : ∀ j, j < 4 → wr.cell? ⟨ga, i * 4 + j, none⟩ = (valI zs[i])[j]? := fun j hj => by
    rcases hV i hi j with h | h
    · rw [← h]
      exact hB.cell (p := ⟨ga, i * 4 + j, none⟩) hga
    · omega
  exact ⟨hcell 0 (by omega), hcell 1 (by omega), hcell 2 (by omega), hcell 3 (by omega)⟩
set_option maxRecDepth 100000 in
set_option maxHeartbeats 1000000 in
theorem rformed_int (z : Int) (w : World) : Calls Tryd.prog 138 #[.agg (valI z)] w fun e w' => e = .returned (.bool true) ∧ Below w.heap.size w w' := by
  obtain ⟨x0, x1, x2, x3⟩ := vi_cells (Blk.new w 113 (valI z))
  have hb : Below w.heap.size w (w.alloc (.cells (valI z) 113)) := (Below.refl _ w).alloc (Nat.le_refl _) _
  go_enter Tryd.func138, Tryd.ntmps138
  go_upto_region 1 with fail
  generalize hW2 : w.alloc (Obj.cells _ 113) = W2
  have hz : w.alloc (.cells (valI z) 113) = W2 := hW2
  rw [hz] at x0 x1 x2 x3 hb
  clear hW2 hz
  obtain ⟨gx, hgx⟩ : ∃ g, w.heap.size = g := ⟨_, rfl⟩
  rw [hgx] at x0 x1 x2 x3 ⊢
  clear hgx
  go_wp2_with fail
  go_ret
  exact ⟨rfl, hb⟩
set_option maxRecDepth 100000 in
set_option maxHeartbeats 1000000 in
theorem rdepth_int (z : Int) (w : World) : Calls Tryd.prog 139 #[.agg (valI z)] w fun e w' => e = .returned (.int .i64 0) ∧ Below w.heap.size w w' := by
  obtain ⟨x0, x1, x2, x3⟩ := vi_cells (Blk.new w 113 (valI z))
  have hb : Below w.heap.size w (w.alloc (.cells (valI z) 113)) := (Below.refl _ w).alloc (Nat.le_refl _) _
  go_enter Tryd.func139, Tryd.ntmps139
  go_upto_region 1 with fail
  generalize hW2 : w.alloc (Obj.cells _ 113) = W2
  have hz : w.alloc (.cells (valI z) 113) = W2 := hW2
  rw [hz] at x0 x1 x2 x3 hb
  clear hW2 hz
  obtain ⟨gx, hgx⟩ : ∃ g, w.heap.size = g := ⟨_, rfl⟩
  rw [hgx] at x0 x1 x2 x3 ⊢
  clear hgx
  go_wp2_with fail
  go_ret
  exact ⟨rfl, hb⟩
set_option maxRecDepth 100000 in
set_option maxHeartbeats 1000000 in
theorem rformed_list (ga k c : Nat) (zs : List Int) (w : World) (hk : zs.length = k) (hkc : k ≤ c) (hc : c ≤ 9223372036854775807) (hk9 : k ≤ 1000) (hV : VAt w ga zs) (hga : ga < w.heap.size) :
    Calls Tryd.prog 138 #[.agg (valL (some ⟨ga, 0, none⟩) k c)] w fun e w' => e = .returned (.bool true) ∧ Below w.heap.size w w' := by
  have hX := Blk.new w 113 (valL (some ⟨ga, 0, none⟩) k c)
  have hb : Below w.heap.size w (w.alloc (.cells (valL (some ⟨ga, 0, none⟩) k c) 113)) := (Below.refl _ w).alloc (Nat.le_refl _) _
  have HV := Lib.hid hV
  have HK := Lib.hid hk
  clear hk hV
  go_enter Tryd.func138, Tryd.ntmps138
  go_upto_region 1 with fail
  generalize hW2 : w.alloc (Obj.cells _ 113) = W2
  have hz : w.alloc (.cells (valL (some ⟨ga, 0, none⟩) k c) 113) = W2 := hW2
  rw [hz] at hX hb
  clear hW2 hz
  obtain ⟨gx, hgx⟩ : ∃ g, w.heap.size = g := ⟨_, rfl⟩
  rw [hgx] at hX ⊢
  clear hgx
  have HX := Lib.hid hX
  obtain ⟨x0, x1, x2, x3⟩ := vl_cells hX
  clear hX
  go_wp2_with fail
  clear x0 x1 x2 x3
  go_loopw [3] (fun y wr => ∃ i : Nat, i ≤ k ∧ y = .int .i64 i ∧ Below w.heap.size w wr ∧ Blk wr gx 113 (valL (some ⟨ga, 0, none⟩) k c)) (fun y _ => k - (intOf y).toNat)
  case atStart => exact ⟨0, by omega, rfl, hb, HX.out⟩
  case round =>
    obtain ⟨i, hik, rfl, hB, hXr⟩ := hrel
    obtain ⟨x0, x1, x2, x3⟩ := vl_cells hXr
    have HXr := Lib.hid hXr
    clear hXr
    by_cases hlt : i < k
    · have hlt' : (i : Int) < k := by omega
      have i0 : 0 ≤ (i : Int) := by omega
      have hiz : i < zs.length := by rw [HK.out]; exact hlt
      obtain ⟨v0, v1, v2, v3⟩ := vat_cells HV.out hga hB hiz
      obtain ⟨z, hze⟩ : ∃ z, zs[i] = z := ⟨_, rfl⟩
      rw [hze] at v1
      have CF := Lib.hid fun W => rformed_int z W
      clear hze hiz hb
      go_wp2_with fail
      refine (CF.out _).mono ?_
      rintro e w7 ⟨rfl, k7⟩
      have b7 := bl hB k7
      have h7 := HXr.out.below k7 HXr.out.lt
      clear k7 hB x0 x1 x2 x3 v0 v1 v2 v3
      go_wp2_with fail
      go_roundw
      case rel => exact ⟨i + 1, by omega, by go_num, b7, h7⟩
      case measure => simp [intOf]; omega
    · obtain rfl : i = k := by omega
      go_wp2_with fail
      go_ret
      exact ⟨rfl, hB⟩
set_option maxRecDepth 100000 in
set_option maxHeartbeats 1000000 in
theorem rdepth_list (ga k c : Nat) (zs : List Int) (w : World) (hk : zs.length = k) (hkc : k ≤ c) (hc : c ≤ 9223372036854775807) (hk9 : k ≤ 1000) (hV : VAt w ga zs) (hga : ga < w.heap.size) :
    Calls Tryd.prog 139 #[.agg (valL (some ⟨ga, 0, none⟩) k c)] w fun e w' => e = .returned (.int .i64 1) ∧ Below w.heap.size w w' := by
  have hX := Blk.new w 113 (valL (some ⟨ga, 0, none⟩) k c)
  have hb : Below w.heap.size w (w.alloc (.cells (valL (some ⟨ga, 0, none⟩) k c) 113)) := (Below.refl _ w).alloc (Nat.le_refl _) _
  have HV := Lib.hid hV
  have HK := Lib.hid hk
  clear hk hV
  go_enter Tryd.func139, Tryd.ntmps139
  go_upto_region 1 with fail
  generalize hW2 : w.alloc (Obj.cells _ 113) = W2
  have hz : w.alloc (.cells (valL (some ⟨ga, 0, none⟩) k c) 113) = W2 := hW2
  rw [hz] at hX hb
  clear hW2 hz
  obtain ⟨gx, hgx⟩ : ∃ g, w.heap.size = g := ⟨_, rfl⟩
  rw [hgx] at hX ⊢
  clear hgx
  have HX := Lib.hid hX
  obtain ⟨x0, x1, x2, x3⟩ := vl_cells hX
  clear hX
  go_wp2_with fail
  clear x0 x1 x2 x3
  go_loopw [3, 4] (fun x y wr => ∃ i : Nat, i ≤ k ∧ x = .int .i64 0 ∧ y = .int .i64 i ∧ Below w.heap.size w wr ∧ Blk wr gx 113 (valL (some ⟨ga, 0, none⟩) k c)) (fun _ y _ => k - (intOf y).toNat)
  case atStart => exact ⟨0, by omega, rfl, rfl, hb, HX.out⟩
  case round =>
    obtain ⟨i, hik, rfl, rfl, hB, hXr⟩ := hrel
    obtain ⟨x0, x1, x2, x3⟩ := vl_cells hXr
    have HXr := Lib.hid hXr
    clear hXr
    by_cases hlt : i < k
    · have hlt' : (i : Int) < k := by omega
      have i0 : 0 ≤ (i : Int) := by omega
      have hiz : i < zs.length := by rw [HK.out]; exact hlt
      obtain ⟨v0, v1, v2, v3⟩ := vat_cells HV.out hga hB hiz
      obtain ⟨z, hze⟩ : ∃ z, zs[i] = z := ⟨_, rfl⟩
      rw [hze] at v1
      have CF := Lib.hid fun W => rdepth_int z W
      clear hze hiz hb
      go_wp2_with fail
      refine (CF.out _).mono ?_
      rintro e w7 ⟨rfl, k7⟩
      have b7 := bl hB k7
      have h7 := HXr.out.below k7 HXr.out.lt
      clear k7 hB x0 x1 x2 x3 v0 v1 v2 v3
      go_wp2_with fail
      go_roundw
      case rel => exact ⟨i + 1, by omega, rfl, by go_num, b7, h7⟩
      case measure => simp [intOf]; omega
    · obtain rfl : i = k := by omega
      go_wp2_with fail
      go_ret
      exact ⟨rfl, hB⟩
open Go.RowKit Go.Shelf
attribute [local go_sem] Oper.semAt_some
theorem own_low {w : World} {B B' n sz : Nat} {E : TypeId} {v : Value} {xs : List Value} (h : w.ownsRow B E sz v n xs) (hB : B' ≤ B) : w.ownsRow B' E sz v n xs := by
  refine ⟨h.1, ?_⟩
  rcases h.2 with hn | ⟨g, cap, cur, rfl, hb, hgg, rest⟩
  · exact .inl hn
  · exact .inr ⟨g, cap, cur, rfl, Nat.le_trans hB hb, hgg, rest⟩
/-- Check of the reference, of a list of integers. -/
theorem rcheck_list (ga k c : Nat) (zs : List Int) (w : World) (hk : zs.length = k) (hkc : k ≤ c) (hc : c ≤ 9223372036854775807) (hk9 : k ≤ 1000) (hV : VAt w ga zs) (hga : ga < w.heap.size) :
    Calls Tryd.prog 127 #[.agg (valL (some ⟨ga, 0, none⟩) k c)] w fun e w' => e = .returned (.int .i64 0) ∧ Below w.heap.size w w' := by
  have hX := Blk.new w 113 (valL (some ⟨ga, 0, none⟩) k c)
  have hb : Below w.heap.size w (w.alloc (.cells (valL (some ⟨ga, 0, none⟩) k c) 113)) := (Below.refl _ w).alloc (Nat.le_refl _) _
  have CF := Lib.hid fun (W : World) (hB : Below w.heap.size w W) => rformed_list ga k c zs W hk hkc hc hk9 (hV.below hB hga) (Nat.lt_of_lt_of_le hga hB.size)
  have CD := Lib.hid fun (W : World) (hB : Below w.heap.size w W) => rdepth_list ga k c zs W hk hkc hc hk9 (hV.below hB hga) (Nat.lt_of_lt_of_le hga hB.size)
  clear hV
  go_enter Tryd.func127, Tryd.ntmps127
  go_upto_region 1 with fail
  generalize hW2 : w.alloc (Obj.cells _ 113) = W2
  have hz : w.alloc (.cells (valL (some ⟨ga, 0, none⟩) k c) 113) = W2 := hW2
  rw [hz] at hX hb
  clear hW2 hz
  obtain ⟨gx, hgx⟩ : ∃ g, w.heap.size = g := ⟨_, rfl⟩
  rw [hgx] at hX ⊢
  clear hgx
  obtain ⟨x0, x1, x2, x3⟩ := vl_cells hX
  go_wp2_with fail
  refine (CF.out _ hb).mono ?_
  rintro e w3 ⟨rfl, k3⟩
  have b3 := bl hb k3
  replace hX := hX.below k3 hX.lt
  clear x0 x1 x2 x3 k3
  obtain ⟨x0, x1, x2, x3⟩ := vl_cells hX
  go_wp2_with fail
  refine (CD.out _ b3).mono ?_
  rintro e w4 ⟨rfl, k4⟩
  have b4 := bl b3 k4
  go_wp2_with fail
  go_ret
  exact ⟨rfl, b4⟩
set_option maxRecDepth 100000 in
set_option maxHeartbeats 1000000 in
/-- encode of the reference, of an integer. -/
theorem renc_int (z : Int) (w : World) (h0 : -9223372036854775808 ≤ z) (h1 : z < 9223372036854775808) : Calls Tryd.prog 128 #[.agg (valI z)] w fun e w' => ∃ v', e = .returned v' ∧ w'.ownsRow w.heap.size 5 1 v' (encI z).length (u8s (encI z)) ∧ Below w.heap.size w w' := by
  have CU := Lib.hid fun W => runsig_any z W h0 h1
  obtain ⟨u, hu, hul⟩ := unsig_nat z
  have hul10 := numer_ten hul
  rw [hu] at CU
  have CN := Lib.hid fun W => rnumeral_any u W hul
  have hE : encI z = 1 :: numer u := by unfold encI; rw [hu, Int.toNat_natCast]
  have hp := numer_pos u
  rw [hE]
  have el : (1 :: numer u).length = 1 + (numer u).length := by rw [List.length_cons]; omega
  rw [el]
  obtain ⟨L, hL⟩ : ∃ L, numer u = L := ⟨_, rfl⟩
  rw [hL] at hul10 hp ⊢
  simp only [hL] at CN
  obtain ⟨ln, hln⟩ : ∃ ln, L.length = ln := ⟨_, rfl⟩
  rw [hln] at hul10 hp ⊢
  simp only [hln] at CN
  have hX := Blk.new w 113 (valI z)
  have hb : Below w.heap.size w (w.alloc (.cells (valI z) 113)) := (Below.refl _ w).alloc (Nat.le_refl _) _
  have ho := own_one (w.alloc (.cells (valI z) 113)) 1 1 rfl
  have hsz : (w.alloc (.cells (valI z) 113)).heap.size = w.heap.size + 1 := by simp
  clear hE hL hln hu el
  go_enter Tryd.func128, Tryd.ntmps128
  go_upto_region 1 with fail
  generalize hW2 : w.alloc (Obj.cells _ 113) = W2
  have hz : w.alloc (.cells (valI z) 113) = W2 := hW2
  rw [hz] at hX hb ho hsz
  clear hW2 hz
  have hb2 := hb.alloc hb.size (.cells #[.int .u8 1] 5)
  have ho2 := own_low ho (B' := w.heap.size) (by omega)
  clear ho
  obtain ⟨gx, hgx⟩ : ∃ g, w.heap.size = g := ⟨_, rfl⟩
  rw [hgx] at hX hsz ⊢
  rw [hsz] at ho2
  have HB := Lib.hid hb2
  obtain ⟨x0, x1, x2, x3⟩ := vi_cells (hX.alloc (.cells #[.int .u8 1] 5))
  obtain ⟨y0, y1, y2, y3⟩ := vi_cells hX
  have HGX := Lib.hid hgx
  have HO := Lib.hid ho2
  clear hX hb hb2 ho2 hgx
  go_wp2_with fail
  refine (CU.out _).mono ?_
  rintro e w3 ⟨rfl, rfl⟩
  go_wp2_with fail
  refine (CN.out _).mono ?_
  rintro e w4 ⟨v4, rfl, ho4, k4⟩
  obtain ⟨A4, c4, rfl, hs4⟩ := ownsRow_bs ho4 hp
  have hown := owns_below k4 HO.out
  have b4 := bl HB.out k4
  have hbz := b4.size
  clear ho4 k4 HB HO x0 x1 x2 x3 y0 y1 y2 y3
  go_wp2_with (at_builtin; refine wpList_append_bs rfl (.tmp 9) (.tmp 13) rfl w.heap.size 1 ln c4 _ _ [1] L rfl rfl hown hs4 (by omega) hbz ?_)
  intro v5 w5 ho5 hb5
  have b5 := hb5 w b4
  clear hb5 hown hs4
  go_wp2_with fail
  go_ret
  exact ⟨v5, rfl, ho5, b5⟩
set_option maxRecDepth 100000 in
set_option maxHeartbeats 1000000 in
/-- encode of the reference, of a list of integers. -/
theorem renc_list (ga k c : Nat) (zs : List Int) (w : World) (hk : zs.length = k) (hkc : k ≤ c) (hc : c ≤ 9223372036854775807) (hk9 : k ≤ 1000) (hV : VAt w ga zs) (hga : ga < w.heap.size) (hz : ∀ z ∈ zs, -9223372036854775808 ≤ z ∧ z < 9223372036854775808) :
    Calls Tryd.prog 128 #[.agg (valL (some ⟨ga, 0, none⟩) k c)] w fun e w' => ∃ v', e = .returned v' ∧ w'.ownsRow w.heap.size 5 1 v' (encL zs).length (u8s (encL zs)) ∧ Below w.heap.size w w' := by
  have CN := Lib.hid fun W => rnumeral_any k W (by omega)
  have hul10 := numer_ten (u := k) (by omega)
  have hp := numer_pos k
  have hX := Blk.new w 113 (valL (some ⟨ga, 0, none⟩) k c)
  have hb : Below w.heap.size w (w.alloc (.cells (valL (some ⟨ga, 0, none⟩) k c) 113)) := (Below.refl _ w).alloc (Nat.le_refl _) _
  have ho := own_one (w.alloc (.cells (valL (some ⟨ga, 0, none⟩) k c) 113)) 3 3 rfl
  have hsz : (w.alloc (.cells (valL (some ⟨ga, 0, none⟩) k c) 113)).heap.size = w.heap.size + 1 := by simp
  have hel : encL zs = 3 :: (numer k ++ zs.flatMap encI) := by unfold encL; rw [hk]
  obtain ⟨R, hR⟩ : ∃ R, encL zs = R := ⟨_, rfl⟩
  rw [hR] at hel ⊢
  have hw0 : IntKind.u64.wrap (k : Int) = (k : Int) := by rw [IntKind.wrap_u64]; omega
  have HV := Lib.hid hV; have HK := Lib.hid hk; have HZ := Lib.hid hz; have HR := Lib.hid hel
  clear hV hk hz hel hR
  go_enter Tryd.func128, Tryd.ntmps128
  go_upto_region 1 with fail
  generalize hW2 : w.alloc (Obj.cells _ 113) = W2
  have hz : w.alloc (.cells (valL (some ⟨ga, 0, none⟩) k c) 113) = W2 := hW2
  rw [hz] at hX hb ho hsz
  clear hW2 hz
  have hb2 := hb.alloc hb.size (.cells #[.int .u8 3] 5)
  obtain ⟨gx, hgx⟩ : ∃ g, w.heap.size = g := ⟨_, rfl⟩
  have hgw : gx < W2.heap.size := by omega
  have ho2 := own_low ho (B' := gx + 1) (by omega)
  rw [hgx] at hX hsz ⊢
  rw [hsz] at ho2
  have HB := Lib.hid hb2
  have hX2 := hX.alloc (.cells #[.int .u8 3] 5)
  obtain ⟨x0, x1, x2, x3⟩ := vl_cells hX2
  obtain ⟨y0, y1, y2, y3⟩ := vl_cells hX
  have HGX := Lib.hid hgx
  have HO := Lib.hid ho2
  have HX := Lib.hid hX2
  clear hX hb hb2 ho2 hgx hX2 ho
  go_wp2_with fail
  refine (CN.out _).mono ?_
  rintro e w4 ⟨v4, rfl, ho4, k4⟩
  obtain ⟨A4, c4, rfl, hs4⟩ := ownsRow_bs ho4 hp
  have hown := owns_below k4 HO.out
  have b4 := bl HB.out k4
  have h4 := HX.out.below k4 HX.out.lt
  have hbz : gx + 1 ≤ w4.heap.size := by have := k4.size; have := World.size_alloc W2 (.cells #[.int .u8 3] 5); omega
  clear ho4 k4 HB HO HX x0 x1 x2 x3 y0 y1 y2 y3
  obtain ⟨x0, x1, x2, x3⟩ := vl_cells h4
  go_wp2_with (at_builtin; refine wpList_append_bs rfl (.tmp 27) (.tmp 32) rfl (gx + 1) 1 (numer k).length c4 _ _ [3] (numer k) rfl rfl hown hs4 (by omega) hbz ?_)
  intro v5 w5 ho5 hb5
  have kb : Below (gx + 1) w4 w5 := hb5 w4 (Below.refl _ _)
  have b5 : Below w.heap.size w w5 := b4.trans (kb.mono (by have := HGX.out; omega))
  have h5 := h4.below kb (by omega)
  have z5 : gx + 1 ≤ w5.heap.size := Nat.le_trans hbz kb.size
  clear hb5 kb h4 b4 hown hs4 x0 x1 x2 x3 hbz
  go_wp2_with fail
  go_loopw [3, 4] (fun v y wr => ∃ (i n : Nat), i ≤ k ∧ y = .int .i64 i ∧ n ≤ 11 + 11 * i ∧ wr.ownsRow (gx + 1) 5 1 v n (u8s (3 :: (numer k ++ (zs.take i).flatMap encI))) ∧ Below (gx + 1) w5 wr) (fun _ y _ => k - (intOf y).toNat)
  case atStart => exact ⟨0, 1 + (numer k).length, by omega, rfl, by omega, by rw [List.take_zero, List.flatMap_nil, List.append_nil]; exact ho5, Below.refl _ _⟩
  case round =>
    obtain ⟨i, n, hik, rfl, hnb, hown, hbr⟩ := hrel
    have hbw : Below w.heap.size w wr := b5.trans (hbr.mono (by have := HGX.out; omega))
    have hxr := h5.below hbr (by omega)
    have zr : gx + 1 ≤ wr.heap.size := Nat.le_trans z5 hbr.size
    obtain ⟨x0, x1, x2, x3⟩ := vl_cells hxr
    by_cases hlt : i < k
    · have hlt' : (i : Int) < k := by omega
      have i0 : 0 ≤ (i : Int) := by omega
      have hiz : i < zs.length := by rw [HK.out]; exact hlt
      obtain ⟨v0, v1, v2, v3⟩ := vat_cells HV.out hga hbw hiz
      have hft := flat_take zs i hiz
      have hzb := HZ.out _ (List.getElem_mem hiz)
      obtain ⟨z, hze⟩ : ∃ z, zs[i] = z := ⟨_, rfl⟩
      rw [hze] at v1 hft hzb
      have CF := Lib.hid fun W => renc_int z W hzb.1 hzb.2
      have hl := encI_length z
      have hl0 : 0 < (encI z).length := by unfold encI; simp
      have HFT := Lib.hid hft
      clear hze hiz hzb hft hxr hbw ho5
      go_wp2_with fail
      refine (CF.out _).mono ?_
      rintro e w7 ⟨v7, rfl, ho7, k7⟩
      obtain ⟨A7, c7, rfl, hs7⟩ := ownsRow_bs ho7 hl0
      have hown7 := owns_below k7 hown
      have z7 : gx + 1 ≤ w7.heap.size := Nat.le_trans zr k7.size
      have b7 : Below (gx + 1) w5 w7 := hbr.trans (k7.mono zr)
      clear ho7 k7 hown x0 x1 x2 x3 v0 v1 v2 v3 hbr CF
      go_wp2_with (at_builtin; refine wpList_append_bs rfl (.tmp 41) (.tmp 47) rfl (gx + 1) n (encI z).length c7 _ _ _ (encI z) rfl rfl hown7 hs7 (by omega) z7 ?_)
      intro v8 w8 ho8 hb8
      have b8 := hb8 _ b7
      rw [← HFT.out] at ho8
      clear hb8 b7 hown7 hs7
      go_wp2_with fail
      go_roundw
      case rel => exact ⟨i + 1, n + (encI z).length, by omega, by go_num, by omega, ho8, b8⟩
      case measure => simp [intOf]; omega
    · obtain rfl : i = k := by omega
      rw [List.take_of_length_le (by have := HK.out; omega), ← HR.out] at hown
      have hn : n = R.length := by have := hown.1; rw [u8s_length] at this; omega
      subst hn
      have hown2 := own_low hown (B' := w.heap.size) (by have := HGX.out; omega)
      clear hown hxr
      go_wp2_with fail
      go_ret
      exact ⟨_, rfl, hown2, hbw⟩
/-- Encode of the reference, of a list of integers. -/
theorem rEncode_any (ga k c : Nat) (zs : List Int) (w : World) (hk : zs.length = k) (hkc : k ≤ c) (hc : c ≤ 9223372036854775807) (hk9 : k ≤ 1000) (hV : VAt w ga zs) (hga : ga < w.heap.size) (hz : ∀ z ∈ zs, -9223372036854775808 ≤ z ∧ z < 9223372036854775808) :
    Calls Tryd.prog 115 #[.agg (valL (some ⟨ga, 0, none⟩) k c)] w fun e w' => ∃ v', e = .returned (.tuple #[v', .int .i64 0]) ∧ w'.ownsRow w.heap.size 5 1 v' (encL zs).length (u8s (encL zs)) ∧ Below w.heap.size w w' := by
  have hX := Blk.new w 113 (valL (some ⟨ga, 0, none⟩) k c)
  have hb : Below w.heap.size w (w.alloc (.cells (valL (some ⟨ga, 0, none⟩) k c) 113)) := (Below.refl _ w).alloc (Nat.le_refl _) _
  have CF := Lib.hid fun (W : World) (hB : Below w.heap.size w W) => rcheck_list ga k c zs W hk hkc hc hk9 (hV.below hB hga) (Nat.lt_of_lt_of_le hga hB.size)
  have CD := Lib.hid fun (W : World) (hB : Below w.heap.size w W) => renc_list ga k c zs W hk hkc hc hk9 (hV.below hB hga) (Nat.lt_of_lt_of_le hga hB.size) hz
  clear hV hz
  go_enter Tryd.func115, Tryd.ntmps115
  go_upto_region 1 with fail
  generalize hW2 : w.alloc (Obj.cells _ 113) = W2
  have hz : w.alloc (.cells (valL (some ⟨ga, 0, none⟩) k c) 113) = W2 := hW2
  rw [hz] at hX hb
  clear hW2 hz
  obtain ⟨gx, hgx⟩ : ∃ g, w.heap.size = g := ⟨_, rfl⟩
  rw [hgx] at hX ⊢
  clear hgx
  obtain ⟨x0, x1, x2, x3⟩ := vl_cells hX
  go_wp2_with fail
  refine (CF.out _ hb).mono ?_
  rintro e w3 ⟨rfl, k3⟩
  have b3 := bl hb k3
  replace hX := hX.below k3 hX.lt
  clear x0 x1 x2 x3 k3
  obtain ⟨x0, x1, x2, x3⟩ := vl_cells hX
  go_wp2_with fail
  refine (CD.out _ b3).mono ?_
  rintro e w4 ⟨v4, rfl, ho4, k4⟩
  have b4 := bl b3 k4
  have ho := own_low ho4 b3.size
  clear ho4 k4 x0 x1 x2 x3
  go_wp2_with fail
  go_ret2
  exact ⟨v4, rfl, ho, b4⟩
/-- append at a step of a region that draws its order. -/
theorem step_append_own {w : World} {ops : Array Oper} {o : Oper} {a : Act} {K : Act → World → Prop} {Q : Exit → Act → World → Prop} {E : Prop} (hgd : o.guard = none) (s x : Operand) (t : TypeId)
    (ho : o.op = .call { callee := .builtin .append, args := #[s, x], argTypes := #[t, t] })
    (base : Nat) (e : TypeId) (i : TypeInfo) (z : Value) (size bytes : Nat) (ht : Tryd.prog.underlying t = some (.slice e)) (hi : Tryd.prog.info? e = some i) (hz : i.zero = some z)
    (hsize : i.size = size) (hby : i.bytes = bytes) (hzs : z.cells.size = size) (hsz : 0 < size)
    (v : Value) (n : Nat) (xs : List Value) (hs : a.eval s = v) (hown : w.ownsRow base e size v n xs)
    (ad : Addr) (m c : Nat) (news : List Value) (hx : a.eval x = .slice (some ad) m c) (hl : news.length = m * size) (hnews : ∀ j u, news[j]? = some u → w.cell? (ad.add j) = some u) (h1 : ∀ u ∈ news, u.oneCell' = true)
    (h63 : n + m ≤ maxLen) (hbytes : (n + m) * bytes ≤ 140737488355328) (hbase : base ≤ w.heap.size)
    (h : ∀ v' w', w'.ownsRow base e size v' (n + m) (xs ++ news) → Below base w w' → K (a.put o.dst v') w') : if Region.wanted o (yielded ops a.tmps) = true then Oper.wp Tryd.prog o a w K Q else E := by
  have hw : Region.wanted o (yielded ops a.tmps) = true := by simp [Region.wanted, hgd]
  rw [if_pos hw]
  exact wp_append_own w s x t ho base e i z size bytes ht hi hz hsize hby hzs hsz v n xs hs hown ad m c news hx hl hnews h1 h63 hbytes hbase (fun v' w' h2 h3 _ => h v' w' h2 ((Below.refl base w).grown h3 hbase (fun k e => (hown.lt k e).1)))
open Go.RowKit Go.Shelf
attribute [local go_sem] Oper.semAt_some
set_option maxRecDepth 100000 in
set_option maxHeartbeats 2000000 in
/-- ints of the reference of tree. -/
theorem rints_any (gz k : Nat) (zs : List Int) (w : World) (hk : zs.length = k) (h0 : 0 < k) (hk9 : k ≤ 100) (hz : Blk w gz 3 (ints zs)) (hzb : ∀ z ∈ zs, -9223372036854775808 ≤ z ∧ z < 9223372036854775808) :
    Calls Tryd.prog 89 #[.slice (some ⟨gz, 0, none⟩) k k] w fun e w' => ∃ v', e = .returned v' ∧ w'.ownsRow w.heap.size 5 1 v' (encL zs).length (u8s (encL zs)) ∧ Below w.heap.size w w' := by
  obtain ⟨inf, hi, hzr, hsize, hby⟩ := info_parts info113
  have hgz := hz.lt
  have hX := Blk.new w 113 (valX (.slice none 0 0))
  have hb1 : Below w.heap.size w (w.alloc (.cells (valX (.slice none 0 0)) 113)) := (Below.refl _ w).alloc (Nat.le_refl _) _
  have hsz : (w.alloc (.cells (valX (.slice none 0 0)) 113)).heap.size = w.heap.size + 1 := by simp
  have HZ := Lib.hid hz; have HK := Lib.hid hk; have HZB := Lib.hid hzb
  clear hz hk hzb
  go_enter Tryd.func89, Tryd.ntmps89
  go_upto_region 2 with fail
  generalize hW0 : w.alloc (Obj.cells _ 113) = W1
  have hzz : w.alloc (.cells (valX (.slice none 0 0)) 113) = W1 := hW0
  rw [hzz] at hb1 hX hsz
  clear hW0 hzz
  obtain ⟨g3, hg3⟩ : ∃ g, w.heap.size = g := ⟨_, rfl⟩
  rw [hg3] at hX hsz ⊢
  have HG3 := Lib.hid hg3
  clear hg3
  go_wp2_with fail
  have hor : W1.ownsRow (g3 + 1) 113 4 (.slice none 0 0) 0 (flatV (zs.take 0)) := World.ownsRow_nil _ _ _ _
  go_loopw [4] (fun y wr => ∃ (i : Nat) (V : Value), i ≤ k ∧ y = .int .i64 i ∧ Below w.heap.size w wr ∧ Blk wr g3 113 (valX V) ∧ wr.ownsRow (g3 + 1) 113 4 V i (flatV (zs.take i)) ∧ g3 + 1 ≤ wr.heap.size) (fun y _ => k - (intOf y).toNat)
  case atStart => exact ⟨0, _, by omega, rfl, hb1, hX, hor, by omega⟩
  case round =>
    obtain ⟨i, V, hik, rfl, hB, hX, hown, hsz2⟩ := hrel
    clear hb1 hor
    by_cases hlt : i < k
    · have hlt' : (i : Int) < k := by omega
      have i0 : 0 ≤ (i : Int) := by omega
      have hiz : i < zs.length := by rw [HK.out]; exact hlt
      have cz := ((hB.cell (p := ⟨gz, i, none⟩) hgz).trans ((HZ.out).cell i)).trans (ints_get zs i hiz)
      have hft := flatV_take zs i hiz
      obtain ⟨z, hze⟩ : ∃ z, zs[i] = z := ⟨_, rfl⟩
      rw [hze] at cz hft
      have HFT := Lib.hid hft
      have y3 : wr.cell? ⟨g3, 3, none⟩ = some V := hX.cell 3
      have f3 : wr.frozen? ⟨g3, 3, none⟩ = false := hX.frozen 3
      have hwx : Below (g3 + 1) wr (wr.alloc (.cells (valI z) 113)) := (Below.refl _ _).alloc hsz2 _
      have hXx := hX.alloc (.cells (valI z) 113)
      have y3x : (wr.alloc (.cells #[.int .i64 1, .int .i64 z, .string ⟨#[]⟩, .slice none 0 0] 113)).cell? ⟨g3, 3, none⟩ = some V := hXx.cell 3
      have hownx := hown.alloc (.cells (valI z) 113)
      have hnx : ∀ (j : Nat) (u : Value), (valI z).toList[j]? = some u → (wr.alloc (.cells (valI z) 113)).drew.cell? ((⟨wr.heap.size, 0, none⟩ : Addr).add j) = some u := by
        intro j u hu
        show (wr.alloc (.cells (valI z) 113)).cell? _ = _
        rw [addr_mid, Nat.zero_add, cell_of_row _ _ j _ 113 (0, 0) (heap_new wr _), ← Array.getElem?_toList]; exact hu
      have hbx : g3 + 1 ≤ (wr.alloc (.cells (valI z) 113)).heap.size := by rw [World.size_alloc]; omega
      have hone : ∀ u ∈ (valI z).toList, u.oneCell' = true := by
        intro u hu
        have hu : u ∈ [Value.int .i64 1, .int .i64 z, .string ByteArray.empty, .slice none 0 0] := hu
        simp only [List.mem_cons, List.not_mem_nil, or_false] at hu
        rcases hu with rfl | rfl | rfl | rfl <;> rfl
      have k1 : i + 1 ≤ maxLen := by unfold maxLen; omega
      have k2 : (i + 1) * 56 ≤ 140737488355328 := by omega
      have hownd : (wr.alloc (.cells (valI z) 113)).drew.ownsRow (g3 + 1) 113 4 V i (flatV (zs.take i)) := hownx
      have HXX := Lib.hid hXx; have HWX := Lib.hid hwx; have HNX := Lib.hid hnx; have HONE := Lib.hid hone; have HOWN := Lib.hid hownd
      clear hft hze hiz hXx hwx hnx hone hownx hownd hown
      go_upto_region 5 with fail
      go_region_law (refine step_append_own (by rfl) (.tmp 15) (.tmp 21) 111 (by rfl) (g3 + 1) 113 inf _ 4 56 Tryd.underlying111 hi hzr hsize hby rfl (by decide) V i _ (by rfl) HOWN.out ⟨wr.heap.size, 0, none⟩ 1 1 (valI z).toList (by rfl) rfl HNX.out HONE.out k1 k2 hbx ?_; intro v2 w2 ho2 hb2; have hX2 : Blk w2 g3 113 (valX V) := HXX.out.below (below_drew_of hb2) (by omega); obtain ⟨gv, cp2, rfl⟩ := own_form ho2 (by omega); have z3 : w2.cell? ⟨g3, 3, none⟩ = some V := hX2.cell 3; have zf3 : w2.frozen? ⟨g3, 3, none⟩ = false := hX2.frozen 3)
      all_goals (
        have kb : Below (g3 + 1) wr w2 := HWX.out.trans (below_drew_of hb2)
        have hB2 : Below w.heap.size w w2 := hB.trans (kb.mono (by have := HG3.out; omega))
        have hs2 : g3 + 1 ≤ w2.heap.size := Nat.le_trans hsz2 kb.size
        have hg9 : w.heap.size ≤ g3 := by have := HG3.out; omega
        rw [← HFT.out] at ho2
        clear HXX HWX HNX HONE HOWN kb hb2 z3 zf3 y3 y3x f3 hB hX cz
        go_wp2_with fail
        go_roundw
        case rel =>
          exact ⟨i + 1, _, by omega, by go_num, hB2.setCell (p := ⟨g3, 3, none⟩) hg9 _, hX2.set_ 3 _, own_set (p := ⟨g3, 3, none⟩) ho2 (Nat.lt_succ_self g3) _, by rw [World.size_setCell]; exact hs2⟩
        case measure => simp [intOf]; omega)
    · obtain rfl : i = k := by omega
      rw [List.take_of_length_le (by have := HK.out; omega)] at hown
      obtain ⟨ga, ca, rfl, hkc, hca, hV, hga⟩ := own_vat hown HK.out h0
      have y0 : wr.cell? ⟨g3, 0, none⟩ = some (.int .i64 3) := hX.cell 0
      have y1 : wr.cell? ⟨g3, 1, none⟩ = some (.int .i64 0) := hX.cell 1
      have y2 : wr.cell? ⟨g3, 2, none⟩ = some (.string ByteArray.empty) := hX.cell 2
      have y3 : wr.cell? ⟨g3, 3, none⟩ = some (.slice (some ⟨ga, 0, none⟩) i ca) := hX.cell 3
      have CE := Lib.hid (rEncode_any ga i ca zs wr HK.out hkc hca (by omega) hV hga HZB.out)
      clear hown hV hX
      go_wp2_with fail
      refine CE.out.mono ?_
      rintro e w3 ⟨v3, rfl, ho3, k3⟩
      have b3 := bl hB k3
      have ho := own_low ho3 hB.size
      clear CE ho3 k3 hB
      go_wp2_with fail
      go_ret
      exact ⟨v3, rfl, ho, b3⟩
end Go.Proofs.YtedokiemlkccaaaDoor
