/- The walk of the reference's Sum and Tagged. -/
import Derived.Test.YtedokiemlkccaaaDoorR
import Derived.Outline
import Derived.Deep.DeepCutAuto
import Derived.StillTailTactics
set_option linter.all false
namespace Go.Proofs.YtedokiemlkccaaaDoor
open Go.RowKit
theorem bs_one (W : World) (b : UInt8) (v : Int) (hv : v = (b.toNat : Int)) : BS (W.alloc (.cells #[.int .u8 v] 5)) (some ⟨W.heap.size, 0, none⟩) 1 1 [b] :=
  ⟨rfl, by omega, by omega, fun e => (by cases e), fun _ => ⟨_, 0, rfl, ⟨fun i hi => by
    have : i = 0 := by simp at hi; omega
    subst this
    exact (cell_of_row _ _ 0 _ 5 (0, 0) (heap_new W _)).trans (by rw [hv]; rfl), fun _ => by simp⟩⟩⟩
theorem own_base {w : World} {B n m c : Nat} {A : Option Addr} {xs : List Value} (h : w.ownsRow B 5 1 (.slice A m c) n xs) (h0 : 0 < n) : ∃ b, A = some ⟨b, 0, none⟩ ∧ B ≤ b := by
  rcases h.2 with ⟨_, hn⟩ | ⟨g, cap, cur, hv, hb, _⟩
  · have := h.1; omega
  · cases hv; exact ⟨g, rfl, hb⟩
/-- how many zeros fill up a list of n bytes. -/
def padZ (n : Nat) : Nat := (119 - n % 64) % 64
theorem padZ_step (n j : Nat) (h : j < padZ n) : ¬ (n + 1 + j) % 64 = 56 := by unfold padZ at h; omega
theorem padZ_end (n : Nat) : (n + 1 + padZ n) % 64 = 56 := by unfold padZ; omega
theorem padZ_lt (n : Nat) : padZ n < 64 := by unfold padZ; omega
set_option maxRecDepth 100000 in
set_option maxHeartbeats 1000000 in
/-- sizarref02.padded. -/
theorem padded_any (A : Option Addr) (n c : Nat) (l : List UInt8) (w : World) (h : BS w A n c l) (hn : n ≤ 1000000) :
    Calls Tryd.prog 121 #[.slice A n c] w fun e w' => ∃ b c', e = .returned (.slice (some ⟨b, 0, none⟩) (pad l).length c') ∧ BS w' (some ⟨b, 0, none⟩) (pad l).length c' (pad l) ∧ w.heap.size ≤ b ∧ Below w.heap.size w w' := by
  have hz := padZ_lt n
  have hb1 : Below w.heap.size w (w.alloc (.cells #[] 5)) := (Below.refl _ w).alloc (Nat.le_refl _) _
  have hown : (w.alloc (.cells #[] 5)).ownsRow w.heap.size 5 1 (.slice (some ⟨w.heap.size, 0, none⟩) 0 0) 0 (u8s []) := World.ownsRow_made w #[] 0 (Nat.le_refl _) (by unfold maxLen; omega) rfl
  have hs1 := h.below hb1
  have HS := Lib.hid hs1
  have HL := Lib.hid h.len
  clear h hs1
  go_enter Tryd.func121, Tryd.ntmps121
  go_upto_region 1 with fail
  go_wp2_with (at_builtin; refine wpList_append_bs rfl (.tmp 6) (.tmp 7) rfl w.heap.size 0 n c _ _ _ _ rfl rfl hown HS.out (by omega) hb1.size ?_)
  intro v2 w2 ho2 hb2
  have hb2 := hb2 _ hb1
  clear hown hb1
  have hB3 := hb2.alloc hb2.size (.cells #[.int .u8 128] 5)
  have ho3 := ho2.alloc (.cells #[.int .u8 128] 5)
  clear ho2
  go_wp2_with (at_builtin; refine wpList_append_bs rfl (.tmp 8) (.tmp 9) rfl w.heap.size n 1 1 _ _ _ [128] rfl rfl ho3 (bs_one _ 128 _ rfl) (by omega) hB3.size ?_)
  intro v4 w4 ho4 hb4
  have hb4 := hb4 _ hB3
  clear ho3 hB3 hb2
  go_wp2_with fail
  go_loopw [3] (fun v wr => ∃ j : Nat, j ≤ padZ n ∧ wr.ownsRow w.heap.size 5 1 v (n + 1 + j) (u8s (l ++ [128] ++ List.replicate j 0)) ∧ Below w.heap.size w wr) (fun v _ => match v with | .slice _ m _ => n + 1 + padZ n - m | _ => 0)
  case atStart => exact ⟨0, by omega, by simpa using ho4, hb4⟩
  case round =>
    obtain ⟨j, hj, hown, hB⟩ := hrel
    obtain ⟨A5, c5, rfl, hs5⟩ := ownsRow_bs hown (by omega)
    by_cases hlt : j < padZ n
    · have hne := padZ_step n j hlt
      have t1 : (((n : Int) + 1 + (j : Nat)) % 64 == 56) = false := by
        have : ¬ ((n : Int) + 1 + (j : Nat)) % 64 = 56 := by omega
        simpa using this
      have t2 : (((n : Int) + 1 + (j : Nat)) % 64 != 56) = true := by
        have : ¬ ((n : Int) + 1 + (j : Nat)) % 64 = 56 := by omega
        simpa using this
      have hB3 := hB.alloc hB.size (.cells #[.int .u8 0] 5)
      have ho3 := hown.alloc (.cells #[.int .u8 0] 5)
      go_wp2_with (at_builtin; refine wpList_append_bs rfl (.tmp 15) (.tmp 16) rfl w.heap.size (n + 1 + j) 1 1 _ _ _ [0] rfl rfl ho3 (bs_one _ 0 _ rfl) (by omega) hB3.size ?_)
      intro v6 w6 ho6 hb6
      have hb6 := hb6 _ hB3
      obtain ⟨A6, c6, rfl, _⟩ := ownsRow_bs ho6 (by omega)
      clear hown ho3 hB3 hB
      go_wp2_with fail
      go_roundw
      case rel => exact ⟨j + 1, by omega, by rw [List.replicate_succ', List.append_assoc]; exact ho6, hb6⟩
      case measure => show n + 1 + padZ n - (n + 1 + j + 1) < n + 1 + padZ n - (n + 1 + j); omega
    · obtain rfl : j = padZ n := by omega
      have he := padZ_end n
      have t1 : (((n : Int) + 1 + (padZ n : Nat)) % 64 == 56) = true := by
        have : ((n : Int) + 1 + (padZ n : Nat)) % 64 = 56 := by omega
        simpa using this
      have t2 : (((n : Int) + 1 + (padZ n : Nat)) % 64 != 56) = false := by
        have : ((n : Int) + 1 + (padZ n : Nat)) % 64 = 56 := by omega
        simpa using this
      obtain ⟨z, hze⟩ : ∃ z, padZ n = z := ⟨_, rfl⟩
      rw [hze] at hown hs5 t1 t2 hz ⊢
      have hZ := Lib.hid hze
      clear hze he hlt hj hs5
      have hpl : (pad l).length = n + 1 + z + 8 := by
        unfold pad
        rw [List.length_append, List.length_cons, List.length_append, List.length_replicate, beB_length, HL.out, ← hZ.out]; unfold padZ; omega
      have hpd : l ++ [128] ++ List.replicate z 0 ++ beB (n * 8) 8 = pad l := by
        unfold pad
        rw [HL.out, ← hZ.out]; simp [padZ]
      have HPL := Lib.hid hpl
      have HPD := Lib.hid hpd
      obtain ⟨m, hm⟩ : ∃ m, l ++ [128] ++ List.replicate z 0 = m := ⟨_, rfl⟩
      rw [hm] at HPD hown
      clear hpl hpd hm
      go_wp2_with fail
      go_loopw [5, 3] (fun x v wq => ∃ j : Nat, j ≤ 8 ∧ x = .int .i64 (7 - (j : Int)) ∧ Below w.heap.size w wq ∧ wq.ownsRow w.heap.size 5 1 v (n + 1 + z + j) (u8s (m ++ (beB (n * 8) 8).take j))) (fun x _ _ => (intOf x + 1).toNat)
      case atStart => exact ⟨0, by omega, rfl, hB, by rw [List.take_zero, List.append_nil]; exact hown⟩
      case round =>
        obtain ⟨j, hj, rfl, hB, hown⟩ := hrel
        by_cases hlt : j < 8
        · have e0 : 0 ≤ 7 - (j : Int) := by omega
          have e1 : 7 - (j : Int) ≤ 7 := by omega
          have e2 : (8 * (7 - (j : Int))).toNat = 56 - 8 * j := by omega
          have htb := beB_take (n * 8) 8 j hlt
          have hb := byte_of (n * 8) (7 - j)
          rw [show 8 - 1 - j = 7 - j by omega] at htb
          rw [show 8 * (7 - j) = 56 - 8 * j by omega, Int.natCast_mul] at hb
          obtain ⟨b, hbe⟩ : ∃ b, UInt8.ofNat (n * 8 / 256 ^ (7 - j)) = b := ⟨_, rfl⟩
          rw [hbe] at hb htb
          have hb : (n : Int) * 8 / 2 ^ (56 - 8 * j) % 256 = (b.toNat : Int) := hb
          have HTB := Lib.hid htb
          have hbs := bs_one wr b ((n : Int) * 8 / 2 ^ (56 - 8 * j) % 256) hb
          have hB1 := hB.alloc hB.size (.cells #[.int .u8 ((n : Int) * 8 / 2 ^ (56 - 8 * j) % 256)] 5)
          have hown1 := hown.alloc (.cells #[.int .u8 ((n : Int) * 8 / 2 ^ (56 - 8 * j) % 256)] 5)
          clear hbe htb hb hown hB t1 t2
          go_wp2_with (at_builtin; refine wpList_append_bs rfl (.tmp 26) (.tmp 32) rfl w.heap.size (n + 1 + z + j) 1 1 _ _ _ [b] rfl rfl hown1 hbs (by omega) hB1.size ?_)
          intro v2 w2 hown2 hb2
          have hB2 := hb2 _ hB1
          clear hb2 hown1 hB1 hbs
          go_wp2_with fail
          go_roundw
          case rel =>
            refine ⟨j + 1, by omega, by go_num, hB2, ?_⟩
            rw [HTB.out]
            exact hown2
          case measure => simp [intOf]; omega
        · obtain rfl : j = 8 := by omega
          have e0 : ¬ 0 ≤ 7 - ((8 : Nat) : Int) := by decide
          rw [List.take_of_length_le (l := beB (n * 8) 8) (by rw [beB_length]; omega), HPD.out] at hown
          obtain ⟨A7, c7, rfl, hbs⟩ := ownsRow_bs hown (by omega)
          obtain ⟨b7, rfl, hb7⟩ := own_base hown (by omega)
          rw [← HPL.out] at hbs
          clear hown t1 t2
          go_wp2_with fail
          go_ret
          exact ⟨b7, c7, by rw [HPL.out]; rfl, hbs, hb7, hB⟩
theorem beB_getD (n : Nat) : ∀ k j, j < k → (beB n k).getD j 0 = UInt8.ofNat (n / 256 ^ (k - 1 - j))
  | 0, _, h => absurd h (by omega)
  | k + 1, 0, _ => by rw [beB, show k + 1 - 1 - 0 = k by omega]; rfl
  | k + 1, j + 1, h => by
    rw [beB, List.getD_cons_succ, beB_getD n k j (by omega), show k + 1 - 1 - (j + 1) = k - 1 - j by omega]
theorem outB_getD (S : S8) : ∀ n i, i < 4 * n → (outB S n).getD i 0 = UInt8.ofNat ((S.get (i / 4)).toNat / 256 ^ (3 - i % 4))
  | 0, _, h => absurd h (by omega)
  | n + 1, i, h => by
    rw [outB]
    by_cases hi : i < 4 * n
    · rw [List.getD_eq_getElem?_getD, List.getElem?_append_left (by rw [outB_length]; exact hi), ← List.getD_eq_getElem?_getD]; exact outB_getD S n i hi
    · rw [List.getD_eq_getElem?_getD, List.getElem?_append_right (by rw [outB_length]; omega), ← List.getD_eq_getElem?_getD, outB_length, beB_getD _ 4 _ (by omega), show i / 4 = n by omega, show 4 - 1 - (i - 4 * n) = 3 - i % 4 by omega]
theorem out_byte (S : S8) (hS : S.Ok) (i : Nat) (hi : i < 32) : S.get (i / 4) / 2 ^ (8 * (3 - i % 4)) % 256 = (((outB S 8).getD i 0).toNat : Int) := by
  have h := hS (i / 4) (by omega)
  have hb := byte_of (S.get (i / 4)).toNat (3 - i % 4)
  rw [Int.toNat_of_nonneg h.1] at hb
  rw [hb, outB_getD S 8 i (by omega)]
/-- the first i bytes of a digest, filled up by zeros. -/
def fillD (d : List UInt8) (i : Nat) : List UInt8 := d.take i ++ List.replicate (32 - i) 0
theorem fillD_length (d : List UInt8) (hd : d.length = 32) (i : Nat) (hi : i ≤ 32) : (fillD d i).length = 32 := by
  unfold fillD; rw [List.length_append, List.length_take, List.length_replicate, hd]; omega
theorem fillD_set (d : List UInt8) (hd : d.length = 32) (i : Nat) (hi : i < 32) : (fillD d i).set i (d.getD i 0) = fillD d (i + 1) := by
  unfold fillD
  rw [List.set_append_right _ _ (by rw [List.length_take]; omega), List.length_take, Nat.min_eq_left (by omega), Nat.sub_self, show 32 - i = (32 - (i + 1)) + 1 by omega, List.replicate_succ, List.set_cons_zero,
    List.take_succ_eq_append_getElem (by omega), List.append_assoc, List.getD_eq_getElem?_getD, List.getElem?_eq_getElem (by omega)]
  rfl
theorem start_all : startS.arr.all (·.oneCell') = true := S8.arr_all _
theorem BytesAt.far {w w' : World} {b o : Nat} {l : List UInt8} (h : BytesAt w b o l) (hh : w'.heap[b]? = w.heap[b]?) (hs : w.heap.size ≤ w'.heap.size) : BytesAt w' b o l := by
  refine ⟨fun i hi => ?_, fun h0 => Nat.lt_of_lt_of_le (h.lt h0) hs⟩
  rw [← h.cell i hi]
  simp only [World.cell?, hh]
theorem blk_bytes {W : World} {g : Nat} {t : TypeId} {l : List UInt8} (h : Blk W g t (u8s l).toArray) : BytesAt W g 0 l :=
  ⟨fun i hi => by rw [Nat.zero_add, h.cell i, List.getElem?_toArray]; exact u8s_get l i hi, fun _ => h.lt⟩
set_option maxRecDepth 100000 in
set_option maxHeartbeats 4000000 in
/-- sizarref02.Sum. -/
theorem rsum_any (A : Option Addr) (n c : Nat) (l : List UInt8) (w : World) (h : BS w A n c l) (hn : n ≤ 1000000) :
    Calls Tryd.prog 108 #[.slice A n c] w fun e w' => e = .returned (.agg (u8s (sha l)).toArray) ∧ Below w.heap.size w w' := by
  have CP := Lib.hid fun (W : World) (hb : Below w.heap.size w W) => padded_any A n c l W (h.below hb) hn
  have hpl : 64 * ((pad l).length / 64) = (pad l).length := by
    have : (pad l).length % 64 = 0 := by unfold pad; rw [List.length_append, List.length_cons, List.length_append, List.length_replicate, beB_length]; omega
    omega
  have hpn : (pad l).length ≤ 1000200 := by
    unfold pad; rw [List.length_append, List.length_cons, List.length_append, List.length_replicate, beB_length, h.len]; omega
  have HPL := Lib.hid hpl
  clear h hpl
  go_enter Tryd.func108, Tryd.ntmps108
  go_upto_region 1 with fail
  have hD : Blk (w.alloc (.cells z32 41)) w.heap.size 41 z32 := Blk.new _ _ _
  have hb1 : Below w.heap.size w (w.alloc (.cells z32 41)) := (Below.refl _ w).alloc (Nat.le_refl _) _
  generalize hW0 : w.alloc (Obj.cells _ 41) = W0
  have hz : w.alloc (.cells z32 41) = W0 := hW0
  rw [hz] at hD hb1
  clear hW0 hz
  apply wp_region_lit
  refine Great.wpList_runTo rfl (some 8) rfl (.agg startS.arr) W0 (by kernel_rfl) ?_
  refine Great.wpList_allocTo rfl (some 3) rfl (.pointer (some ⟨W0.heap.size, 0, none⟩)) (.cells z8 127) (by kernel_rfl) ?_
  have hS1 : Blk (W0.alloc (.cells z8 127)) W0.heap.size 127 z8 := Blk.new _ _ _
  refine wpList_store_row rfl 127 (.tmp 3) (.tmp 8) rfl W0.heap.size startS.arr (by rfl) (by rfl) 127 z8 hS1 (by kernel_rfl) rfl start_all ?_
  have hS2 : Blk ((W0.alloc (.cells z8 127)).setRow W0.heap.size startS.arr) W0.heap.size 127 startS.arr := setRow_heap _ _ _ _ _ _ hS1
  have hb2 : Below W0.heap.size W0 ((W0.alloc (.cells z8 127)).setRow W0.heap.size startS.arr) := below_setRow ((Below.refl _ _).alloc (Nat.le_refl _) _) (Nat.le_refl _) _
  generalize (W0.alloc (.cells z8 127)).setRow W0.heap.size startS.arr = W2 at hS2 hb2 ⊢
  have hD2 := hD.below hb2 hD.lt
  have hB2 := bl hb1 hb2
  have hne : w.heap.size ≠ W0.heap.size := by have := hD.lt; omega
  have hle : w.heap.size ≤ W0.heap.size := by have := hD.lt; omega
  obtain ⟨g3, hg3⟩ : ∃ g, W0.heap.size = g := ⟨_, rfl⟩
  rw [hg3] at hS2 hne hle ⊢
  have hgl : g3 < W2.heap.size := hS2.lt
  clear hg3 hS1 hb2 hD hb1
  apply wpList_nil
  go_wp2_with fail
  refine (CP.out _ hB2).mono ?_
  rintro e w3 ⟨b3, c3, rfl, hbs, hb3, c4⟩
  have hS3 := hS2.below c4 hS2.lt
  have hD3 := hD2.below c4 hD2.lt
  have hB3 := bl hB2 c4
  clear hS2 hD2 hB2 c4 CP
  obtain ⟨q, hq⟩ : ∃ q, (pad l).length / 64 = q := ⟨_, rfl⟩
  have hql : (pad l).length = 64 * q := by rw [← hq]; exact HPL.out.symm
  have HQ := Lib.hid hq
  rw [hql] at hbs hpn ⊢
  have HQL := Lib.hid hql
  clear hql hq
  go_wp2_with fail
  have hg3b : g3 < b3 := by omega
  have hcap := hbs.cap
  have hmax := hbs.max
  have hby : BytesAt w3 b3 0 (pad l) := by
    by_cases h0 : 0 < 64 * q
    · obtain ⟨b, o, e, h⟩ := hbs.at_ h0
      cases e; exact h
    · have : (pad l).length = 0 := by rw [HQL.out]; omega
      exact ⟨fun i hi => by omega, fun h => by omega⟩
  clear hbs
  go_loopw [5] (fun x wq => ∃ k : Nat, k ≤ q ∧ x = .int .i64 (64 * (k : Int)) ∧ Below w.heap.size w wq ∧ Blk wq w.heap.size 41 z32 ∧ Blk wq g3 127 (absorbN startS (pad l) k).arr ∧ BytesAt wq b3 0 (pad l)) (fun x _ => 64 * q - (intOf x).toNat)
  case atStart => exact ⟨0, by omega, rfl, hB3, hD3, hS3, hby⟩
  case round =>
    obtain ⟨k, hk, rfl, hB, hD, hS, hby⟩ := hrel
    clear hB3 hD3 hS3
    by_cases hlt : k < q
    · have t1 : 64 * (k : Int) < 64 * (q : Int) := by omega
      have t2 : 64 * (k : Int) + 64 ≤ 64 * (q : Int) := by omega
      have t3 : 64 * (q : Int) ≤ 64009600 := by omega
      have t4 : (64 * (k : Int)).toNat = 64 * k := by omega
      have t5 : (64 * (k : Int) + 64).toNat = 64 * k + 64 := by omega
      have t6 : 0 ≤ 64 * (k : Int) := by omega
      have t7 : 0 ≤ 64 * (k : Int) + 64 := by omega
      have t8 : 64 * (k : Int) ≤ 64 * (k : Int) + 64 := by omega
      have t9 : 64 * (k : Int) + 64 ≤ (c3 : Int) := by omega
      have u1 : IntKind.i64.wrap (64 * (k : Int) + 64) = 64 * (k : Int) + 64 := by rw [IntWalk.i64_in _ (by omega)]
      have u2 : max (64 * (k : Int) + 64) 0 = 64 * (k : Int) + 64 := by omega
      have u3 : ¬ c3 = 64 * k := by omega
      have u4 : 64 * k + 64 - 64 * k = 64 := by omega
      have hnx : compress Kc (absorbN startS (pad l) k) (((pad l).drop (64 * k)).take 64) = absorbN startS (pad l) (k + 1) := rfl
      have hbk : BytesAt wr b3 (64 * k) (((pad l).drop (64 * k)).take 64) := by
        have := (hby.drop (64 * k)).take 64
        rwa [Nat.zero_add] at this
      have cb := block_any b3 (64 * k) (c3 - 64 * k) (((pad l).drop (64 * k)).take 64) (wr.drewN 1) (by rw [List.length_take, List.length_drop, HQL.out]; omega) (by omega) (by omega) ⟨hbk.cell, hbk.lt⟩ (absorbN startS (pad l) k)
      rw [hnx] at cb
      obtain ⟨S, hSe⟩ : ∃ S, absorbN startS (pad l) k = S := ⟨_, rfl⟩
      obtain ⟨S', hSe'⟩ : ∃ S, absorbN startS (pad l) (k + 1) = S := ⟨_, rfl⟩
      rw [hSe, hSe'] at cb
      rw [hSe] at hS
      have HSE' := Lib.hid hSe'
      obtain ⟨sa, hsa⟩ : ∃ sa, S'.arr = sa := ⟨_, rfl⟩
      have hall : sa.all (·.oneCell') = true := by rw [← hsa]; exact S8.arr_all _
      have hsz : sa.size = 8 := by rw [← hsa]; rfl
      rw [hsa] at cb
      have HSA := Lib.hid hsa
      have CB := Lib.hid cb
      have s0 := hS.cell 0
      have s1 := hS.cell 1
      have s2 := hS.cell 2
      have s3 := hS.cell 3
      have s4 := hS.cell 4
      have s5 := hS.cell 5
      have s6 := hS.cell 6
      have s7 := hS.cell 7
      simp only [S8.arr, List.getElem?_toArray, List.getElem?_cons_zero, List.getElem?_cons_succ] at s0 s1 s2 s3 s4 s5 s6 s7
      clear hnx hbk cb hSe hSe' hsa
      go_upto_region 6 with fail
      refine wp_region_still_tail 6 (by kernel_rfl) (by kernel_rfl) ?_
      simp only [List.take_succ_cons, List.take_zero, List.drop_succ_cons, List.drop_zero]
      generalize hwq : ({ wr with drawn := wr.drawn + 1 } : World) = wq
      have hwq' : wr.drewN 1 = wq := hwq
      have hS := hS.drewN 1
      have hD := hD.drewN 1
      have hB := below_dr hB 1
      have hby : BytesAt (wr.drewN 1) b3 0 (pad l) := ⟨hby.cell, hby.lt⟩
      have s0 : (wr.drewN 1).cell? _ = _ := s0
      have s1 : (wr.drewN 1).cell? _ = _ := s1
      have s2 : (wr.drewN 1).cell? _ = _ := s2
      have s3 : (wr.drewN 1).cell? _ = _ := s3
      have s4 : (wr.drewN 1).cell? _ = _ := s4
      have s5 : (wr.drewN 1).cell? _ = _ := s5
      have s6 : (wr.drewN 1).cell? _ = _ := s6
      have s7 : (wr.drewN 1).cell? _ = _ := s7
      rw [hwq'] at hS hD hB hby s0 s1 s2 s3 s4 s5 s6 s7 CB
      clear hwq hwq'
      iterate 6 still_step
      refine wpStill_nil ?_
      go_wp2_with fail
      refine CB.out.mono ?_
      rintro e w5 ⟨rfl, c5⟩
      have hS5 := hS.below c5 hS.lt
      have hD5 := hD.below c5 hD.lt
      have hB5 := bl hB c5
      have hby5 := hby.below c5
      clear hS hD hB hby c5 CB
      dsimp only
      go_step
      refine wpList_store_row rfl 127 (.tmp 3) (.tmp 23) rfl g3 sa (by rfl) (by rfl) 127 S.arr hS5 (by rw [hsz]; kernel_rfl) (by rw [hsz]; rfl) hall ?_
      have hS6 : Blk (w5.setRow g3 sa) g3 127 sa := setRow_heap _ _ _ _ _ _ hS5
      have hD6 : Blk (w5.setRow g3 sa) w.heap.size 41 z32 := (setRow_other _ _ _ _ hne).trans hD5
      have hB6 : Below w.heap.size w (w5.setRow g3 sa) := below_setRow hB5 hle _
      have hby6 : BytesAt (w5.setRow g3 sa) b3 0 (pad l) := hby5.far (setRow_other _ _ _ _ (by omega)) (by simp)
      generalize w5.setRow g3 sa = w6 at hS6 hD6 hB6 hby6 ⊢
      rw [← HSA.out, ← HSE'.out] at hS6
      clear hS5 hD5 hB5 hby5 s0 s1 s2 s3 s4 s5 s6 s7
      apply wpList_nil
      go_wp2_with fail
      go_roundw
      case rel => exact ⟨k + 1, by omega, by go_num, hB6, hD6, hS6, hby6⟩
      case measure => simp [intOf]; omega
    · obtain rfl : k = q := by omega
      clear hby hg3b hb3
      have hS : Blk wr g3 127 (absorbN startS (pad l) ((pad l).length / 64)).arr := by rw [HQ.out]; exact hS
      obtain ⟨S, hSe⟩ : ∃ S, absorbN startS (pad l) ((pad l).length / 64) = S := ⟨_, rfl⟩
      have hsl : sha l = outB S 8 := by unfold sha; rw [hSe]
      have hok : S.Ok := by rw [← hSe]; exact absorbN_ok _ _
      rw [hSe] at hS
      have HOK := Lib.hid hok
      have HSL := Lib.hid hsl
      clear hSe hok hsl
      go_upto_region 7 with fail
      apply wp_region_lit
      refine Great.wpList_runTo rfl (some 24) rfl (.agg z32) wr (by kernel_rfl) ?_
      refine Great.wpList_allocTo rfl (some 6) rfl (.pointer (some ⟨wr.heap.size, 0, none⟩)) (.cells z32 41) (by kernel_rfl) ?_
      have hO : Blk (wr.alloc (.cells z32 41)) wr.heap.size 41 z32 := Blk.new _ _ _
      refine wpList_store_row rfl 41 (.tmp 6) (.tmp 24) rfl wr.heap.size z32 (by rfl) (by rfl) 41 z32 hO (by kernel_rfl) rfl (u8s_all _) ?_
      rw [hO.setRow_same]
      have hS7 := hS.alloc (.cells z32 41)
      have hD7 := hD.alloc (.cells z32 41)
      have hB7 := hB.alloc hB.size (.cells z32 41)
      have hgo : g3 ≠ wr.heap.size := by have := hS.lt; omega
      have hwo : w.heap.size ≠ wr.heap.size := by have := hD.lt; omega
      have hwl : w.heap.size ≤ wr.heap.size := hB.size
      generalize wr.alloc (.cells z32 41) = w7 at hO hS7 hD7 hB7 ⊢
      obtain ⟨g6, hg6⟩ : ∃ g, wr.heap.size = g := ⟨_, rfl⟩
      rw [hg6] at hO hgo hwo hwl ⊢
      clear hg6 hS hD hB
      have hO : Blk w7 g6 41 (u8s (fillD (sha l) 0)).toArray := hO
      apply wpList_nil
      go_wp2_with fail
      go_loopw [7] (fun x wq => ∃ i : Nat, i ≤ 32 ∧ x = .int .i64 i ∧ Below w.heap.size w wq ∧ Blk wq w.heap.size 41 z32 ∧ Blk wq g3 127 S.arr ∧ Blk wq g6 41 (u8s (fillD (sha l) i)).toArray) (fun x _ => 32 - (intOf x).toNat)
      case atStart => exact ⟨0, by omega, rfl, hB7, hD7, hS7, hO⟩
      case round =>
        obtain ⟨i, hi, rfl, hB, hD, hS, hO⟩ := hrel
        clear hB7 hD7 hS7
        by_cases hlt : i < 32
        · have i0 : (0 : Int) ≤ (i : Int) := by omega
          have i1 : (i : Int) < 32 := by omega
          have i2 : ((i : Int) / 4).toNat = i / 4 := by omega
          have i3 : (24 - 8 * ((i : Int) % 4)).toNat = 8 * (3 - i % 4) := by omega
          have i4 : (i : Int) / 4 < 8 := by omega
          have i5 : 0 ≤ (i : Int) / 4 := by omega
          have i6 : 0 ≤ 24 - 8 * ((i : Int) % 4) := by omega
          have i7 : 24 - 8 * ((i : Int) % 4) ≤ 24 := by omega
          have hb := out_byte S HOK.out i hlt
          rw [← HSL.out] at hb
          have cs := (hS.cell (i / 4)).trans (S8.arr_get S (i / 4) (by omega))
          obtain ⟨X, hX⟩ : ∃ X, S.get (i / 4) = X := ⟨_, rfl⟩
          rw [hX] at cs hb
          have hfl := fillD_length (sha l) (sha_length l) i hi
          obtain ⟨v0, c1⟩ : ∃ v, wr.cell? ⟨g6, i, none⟩ = some v := ⟨_, (hO.cell i).trans (by rw [List.getElem?_toArray]; exact u8s_get _ _ (by omega))⟩
          have fr := hO.frozen i
          have HBY := Lib.hid hb
          clear hb hX hfl
          go_wp2_with fail
          go_roundw
          case rel =>
            refine ⟨i + 1, by omega, by go_num, hB.setCell (p := ⟨g6, i, none⟩) hwl _, hD.far (p := ⟨g6, i, none⟩) hwo _, hS.far (p := ⟨g6, i, none⟩) hgo _, ?_⟩
            have h := hO.set_ i (.int .u8 (X / 2 ^ (8 * (3 - i % 4)) % 256))
            rw [List.setIfInBounds_toArray, HBY.out, ← u8s_set, fillD_set _ (sha_length l) i hlt] at h
            rw [HBY.out]
            exact h
          case measure => simp [intOf]; omega
        · obtain rfl : i = 32 := by omega
          rw [show ((32 : Nat) : Int) = 32 from rfl]
          have hO : Blk wr g6 41 (u8s (sha l)).toArray := by
            have e : fillD (sha l) 32 = sha l := by
              unfold fillD
              rw [List.take_of_length_le (by rw [sha_length]; omega)]; exact List.append_nil _
            rwa [e] at hO
          have hsz : (u8s (sha l)).toArray.size = 32 := by rw [List.size_toArray, u8s_length, sha_length]
          have hall := u8s_all (sha l)
          obtain ⟨ds, hds⟩ : ∃ ds, (u8s (sha l)).toArray = ds := ⟨_, rfl⟩
          rw [hds] at hO hsz hall
          have HDS := Lib.hid hds
          clear hds
          go_upto_region 12 with fail
          apply wp_region_lit
          refine wpList_load_row rfl 41 (.tmp 6) rfl g6 rfl 41 ds _ _ hO Tryd.underlying41 rfl (by rw [hsz]; kernel_rfl) ?_
          refine wpList_store_row rfl 41 (.tmp 2) (.tmp 41) rfl w.heap.size ds (by rfl) (by rfl) 41 z32 hD (by rw [hsz]; kernel_rfl) (by rw [hsz]; rfl) hall ?_
          have hD9 : Blk (wr.setRow w.heap.size ds) w.heap.size 41 ds := setRow_heap _ _ _ _ _ _ hD
          have hB9 : Below w.heap.size w (wr.setRow w.heap.size ds) := below_setRow hB (Nat.le_refl _) _
          generalize wr.setRow w.heap.size ds = w9 at hD9 hB9 ⊢
          apply wpList_nil
          go_wp2_with fail
          rw [HDS.out]
          refine bodyPost_ret (v := .agg ds) ?_ rfl ⟨rfl, hB9⟩
          exact results_cell_row (p := 2) (ty := 41) rfl _ w9 w.heap.size 41 ds (0, 0) _ rfl hD9 Tryd.underlying41 rfl (by rw [hsz]; kernel_rfl)
/-- a string's bytes as a new slice. -/
theorem conv_str (tag : List UInt8) (ht : tag.length ≤ 100000) (W : World) : ∃ G w1, (convert 9 22 (.string ⟨tag.toArray⟩)).run Tryd.prog W = .ok (.slice (some ⟨W.heap.size, 0, none⟩) tag.length G) w1 ∧ BS w1 (some ⟨W.heap.size, 0, none⟩) tag.length G tag ∧ Below W.heap.size W w1 := by
  have := run_bytes_of_string (P := Tryd.prog) W 9 22 5 ⟨tag.toArray⟩ Tryd.underlying9 Tryd.underlying22 Tryd.underlying5
  refine ⟨_, _, this, ⟨rfl, grownCap_ge W _ _ _, grownCap_le_maxLen W _ 0 5 (by unfold maxLen; simp only [ByteArray.size, List.size_toArray]; omega), fun e => (by cases e), fun _ => ⟨_, 0, rfl, ⟨fun i hi => ?_, fun _ => by simp⟩⟩⟩, (below_dr (Below.refl _ W) 1).alloc (Nat.le_refl _) _⟩
  rw [Nat.zero_add]
  exact (cell_of_row _ _ i _ 5 _ (heap_new W.drew _)).trans (bytesRow_get tag _ i hi)
theorem z32_blk_bytes {W : World} {g : Nat} {t : TypeId} {l : List UInt8} (h : Blk W g t (u8s l).toArray) (hl : l.length = 32) : BS W (some ⟨g, 0, none⟩) 32 32 l :=
  ⟨hl, Nat.le_refl _, by omega, fun e => (by cases e), fun _ => ⟨g, 0, rfl, blk_bytes h⟩⟩
set_option maxRecDepth 100000 in
set_option maxHeartbeats 1000000 in
/-- sizarref02.Tagged. -/
theorem rtagged_any (tag : List UInt8) (A : Option Addr) (n c : Nat) (l : List UInt8) (w : World) (ht : tag.length ≤ 100000) (h : BS w A n c l) (hn : n ≤ 100000) :
    Calls Tryd.prog 77 #[.string ⟨tag.toArray⟩, .slice A n c] w fun e w' => e = .returned (.agg (u8s (tagB tag l)).toArray) ∧ Below w.heap.size w w' := by
  have hcv := conv_str tag ht
  have HBS := Lib.hid h
  have htl : (tagB tag l).length = 32 := tagB_length _ _
  have htd : tagB tag l = sha (sha tag ++ l) := rfl
  have HTD := Lib.hid htd
  have HTL := Lib.hid htl
  clear h htd htl
  go_enter Tryd.func77, Tryd.ntmps77
  go_upto_region 1 with fail
  have hb0 : Below w.heap.size w (w.alloc (.cells z32 41)) := (Below.refl _ w).alloc (Nat.le_refl _) _
  have hd0 : Blk (w.alloc (.cells z32 41)) w.heap.size 41 z32 := Blk.new _ _ _
  change Code.wp _ _ _ _ (w.alloc (.cells z32 41))
  generalize w.alloc (.cells z32 41) = W0 at *
  obtain ⟨G, w1, hc1, hbs1, hb1⟩ := hcv W0
  have cs := rsum_any (some ⟨W0.heap.size, 0, none⟩) tag.length G tag w1 hbs1 (by omega)
  have CS := Lib.hid cs
  have hd1 := hd0.below hb1 hd0.lt
  have hB1 : Below w.heap.size w w1 := bl hb0 hb1
  clear cs hcv hbs1 hb1 hb0 hd0
  go_wp2_with fail
  refine CS.out.mono ?_
  rintro e w2 ⟨rfl, hb2⟩
  have hd2 := hd1.below hb2 hd1.lt
  have hB2 : Below w.heap.size w w2 := bl hB1 hb2
  clear CS hb2 hd1 hB1 hc1
  have hsz : (u8s (sha tag)).toArray.size = 32 := by rw [List.size_toArray, u8s_length, sha_length]
  have hall := u8s_all (sha tag)
  obtain ⟨d1, hd1e⟩ : ∃ d, sha tag = d := ⟨_, rfl⟩
  have hdl : d1.length = 32 := by rw [← hd1e]; exact sha_length _
  rw [hd1e] at hsz hall ⊢
  have HD1 := Lib.hid hd1e
  clear hd1e
  obtain ⟨ds, hds⟩ : ∃ ds, (u8s d1).toArray = ds := ⟨_, rfl⟩
  rw [hds] at hsz hall ⊢
  have HDS := Lib.hid hds
  clear hds
  dsimp only
  go_step
  refine Great.wpList_allocTo rfl (some 5) rfl (.pointer (some ⟨w2.heap.size, 0, none⟩)) (.cells z32 41) (by kernel_rfl) ?_
  have ht3 : Blk (w2.alloc (.cells z32 41)) w2.heap.size 41 z32 := Blk.new _ _ _
  refine wpList_store_row rfl 41 (.tmp 5) (.tmp 8) rfl w2.heap.size ds (by rfl) (by rfl) 41 z32 ht3 (by rw [hsz]; kernel_rfl) (by rw [hsz]; rfl) hall ?_
  have ht4 : Blk ((w2.alloc (.cells z32 41)).setRow w2.heap.size ds) w2.heap.size 41 ds := setRow_heap _ _ _ _ _ _ ht3
  have hb4 : Below w2.heap.size w2 ((w2.alloc (.cells z32 41)).setRow w2.heap.size ds) := below_setRow ((Below.refl _ _).alloc (Nat.le_refl _) _) (Nat.le_refl _) _
  generalize (w2.alloc (.cells z32 41)).setRow w2.heap.size ds = w4 at ht4 hb4 ⊢
  have hd4 := hd2.below hb4 hd2.lt
  have hB4 := bl hB2 hb4
  obtain ⟨g, hg⟩ : ∃ g, w2.heap.size = g := ⟨_, rfl⟩
  rw [hg] at ht4 ⊢
  rw [← HDS.out] at ht4
  have hs4 := z32_blk_bytes ht4 hdl
  clear hB2 hd2 ht3 hg hb4 ht4 hall hsz
  apply wpList_nil
  go_upto_region 2 with fail
  have hown : (w4.alloc (.cells #[] 5)).ownsRow w4.heap.size 5 1 (.slice (some ⟨w4.heap.size, 0, none⟩) 0 0) 0 (u8s []) := World.ownsRow_made w4 #[] 0 (Nat.le_refl _) (by unfold maxLen; omega) rfl
  have hb5 : Below w4.heap.size w4 (w4.alloc (.cells #[] 5)) := (Below.refl _ _).alloc (Nat.le_refl _) _
  have hs5 := hs4.below hb5
  go_wp2_with (at_builtin; refine wpList_append_bs rfl (.tmp 9) (.tmp 10) rfl w4.heap.size 0 32 32 _ _ _ _ rfl rfl hown hs5 (by omega) hb5.size ?_)
  intro v6 w6 ho6 hb6
  have hb6 := hb6 _ hb5
  have hs6 := (HBS.out).below (bl hB4 hb6)
  have hz6 := hb6.size
  clear hown hb5 hs5
  go_wp2_with (at_builtin; refine wpList_append_bs rfl (.tmp 11) (.tmp 12) rfl w4.heap.size 32 n c _ _ _ _ rfl rfl ho6 hs6 (by omega) hz6 ?_)
  intro v7 w7 ho7 hb7
  have hb7 := hb7 _ hb6
  obtain ⟨A8, c8, rfl, hs8⟩ := ownsRow_bs ho7 (by omega)
  have cs := rsum_any A8 (32 + n) c8 (d1 ++ l) w7 hs8 (by omega)
  rw [← HD1.out, ← HTD.out] at cs
  have hd7 := hd4.below hb7 hd4.lt
  have hB7 := bl hB4 hb7
  have CS := Lib.hid cs
  clear cs hs8 ho7 ho6 hs6 hz6 hb6 hb7 hB4 hd4 hs4
  go_wp2_with fail
  refine CS.out.mono ?_
  rintro e w8 ⟨rfl, hb8⟩
  have hB8 := bl hB7 hb8
  have hd8 := hd7.below hb8 hd7.lt
  clear CS hb8 hB7 hd7
  have hsz2 : (u8s (tagB tag l)).toArray.size = 32 := by rw [List.size_toArray, u8s_length, HTL.out]
  have hall2 := u8s_all (tagB tag l)
  obtain ⟨es, hes⟩ : ∃ es, (u8s (tagB tag l)).toArray = es := ⟨_, rfl⟩
  rw [hes] at hsz2 hall2 ⊢
  have HES := Lib.hid hes
  clear hes
  dsimp only
  go_step
  refine wpList_store_row rfl 41 (.tmp 4) (.tmp 14) rfl w.heap.size es (by rfl) (by rfl) 41 z32 hd8 (by rw [hsz2]; kernel_rfl) (by rw [hsz2]; rfl) hall2 ?_
  have hd9 : Blk (w8.setRow w.heap.size es) w.heap.size 41 es := setRow_heap _ _ _ _ _ _ hd8
  have hB9 : Below w.heap.size w (w8.setRow w.heap.size es) := below_setRow hB8 (Nat.le_refl _) _
  generalize w8.setRow w.heap.size es = w9 at hd9 hB9 ⊢
  apply wpList_nil
  go_wp2_with fail
  refine bodyPost_ret (v := .agg es) ?_ rfl ⟨by rw [HES.out], hB9⟩
  exact results_cell_row (p := 4) (ty := 41) rfl _ w9 w.heap.size 41 es (0, 0) _ rfl hd9 Tryd.underlying41 rfl (by rw [hsz2]; kernel_rfl)
end Go.Proofs.YtedokiemlkccaaaDoor
