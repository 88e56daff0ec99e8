/- Two digests compared; the walk of GroupDetermined. -/
import Derived.Test.YtedokiemlkccaaaDoorX
import Derived.Test.YtedokiemlkccaaaDoorE
import Derived.Outline
import Derived.ChangeKeysEq
set_option linter.all false
namespace Go.Proofs.YtedokiemlkccaaaDoor
open Go.RowKit
theorem eqItems_u8 (a b : List UInt8) (W : World) (d : Nat) : ∀ is : List Nat, (∀ i ∈ is, i < a.length ∧ i < b.length) →
    (Op.eqItems (d + 1) 5 1 (u8s a).toArray (u8s b).toArray is).run Tryd.prog W = .ok (is.all fun i => bI a i == bI b i) W
  | [], _ => rfl
  | i :: is, h => by
    obtain ⟨h1, h2⟩ := h i List.mem_cons_self
    have ga : (u8s a).toArray[i * 1]? = some (.int .u8 (bI a i)) := by rw [Nat.mul_one, List.getElem?_toArray]; exact u8s_get a i h1
    have gb : (u8s b).toArray[i * 1]? = some (.int .u8 (bI b i)) := by rw [Nat.mul_one, List.getElem?_toArray]; exact u8s_get b i h2
    have pk : Tryd.prog.plainKey 5 = true := by kernel_rfl
    have ih := eqItems_u8 a b W d is (fun j hj => h j (List.mem_cons_of_mem _ hj))
    simp only [Op.eqItems, Sem.run_bind, run_part_plain W pk ga, run_part_plain W pk gb, run_equalIn_int W d 5 .u8 .u8 _ _ Tryd.underlying5, Result.andThen_ok]
    cases hr : bI a i == bI b i
    · simp only [Bool.not_false, if_true, List.all_cons, hr, Bool.false_and]; rfl
    · simp only [Bool.not_true, Bool.false_eq_true, if_false, List.all_cons, hr, Bool.true_and, ih]
theorem bI_inj {a b : List UInt8} (hl : a.length = b.length) (h : ∀ i, i < a.length → bI a i = bI b i) : a = b := by
  apply List.ext_getElem hl
  intro i h1 h2
  have := h i h1
  unfold bI at this
  rw [List.getD_eq_getElem?_getD, List.getD_eq_getElem?_getD, List.getElem?_eq_getElem h1, List.getElem?_eq_getElem h2] at this
  simp only [Option.getD_some] at this
  exact UInt8.toNat_inj.1 (by omega)
theorem eq_digest (a b : List UInt8) (ha : a.length = 32) (hb : b.length = 32) (W : World) :
    (Op.equalIn 10000 41 (.agg (u8s a).toArray) (.agg (u8s b).toArray)).run Tryd.prog W = .ok (decide (a = b)) W := by
  obtain ⟨i, hi, _⟩ := info_parts info5
  have hall : ((List.range 32).all fun i => bI a i == bI b i) = decide (a = b) := by
    by_cases h : a = b
    · rw [decide_eq_true h, List.all_eq_true, h]
      intro i _; simp
    · rw [decide_eq_false h]
      apply Bool.eq_false_iff.2
      intro hall
      apply h
      apply bI_inj (by omega)
      intro i hi
      have := List.all_eq_true.1 hall i (List.mem_range.2 (by omega))
      simpa using this
  have hc : Tryd.prog.cellsOf 5 = 1 := by kernel_rfl
  have h1 := run_equalIn_array (P := Tryd.prog) W 9999 (u8s a).toArray (u8s b).toArray Tryd.underlying41 hi
  have h2 := eqItems_u8 a b W 9998 (List.range 32) (fun i hi => by have := List.mem_range.1 hi; omega)
  rw [hall] at h2
  rw [hc] at h1
  exact h1.trans h2
/-- a power of the base whose exponent is a private key. -/
theorem base_scal {k : Int} (h1 : 1 ≤ k) (h2 : k < 2305843009213688669) : expE 4 k = 0 ∧ elemB (expV 4 k) = true ∧ expV 4 k ≠ 1 := by
  have hs : scalB k = true := scalB_mk ⟨by omega, h2⟩
  have he := exp_elem e4 hs
  refine ⟨by unfold expE; rw [e4, hs]; rfl, he.1, ?_⟩
  rw [he.2]
  have := Grp.base_ne_one (k := k.toNat) (by omega) (by rw [Grp.Q_eq]; omega)
  intro h
  apply this
  have h4 : (4 : Int).toNat = 4 := rfl
  rw [h4] at h
  omega
set_option maxRecDepth 1000000 in
theorem det_yes (tag other : List UInt8) (A1 A2 : Option Addr) (n1 c1 n2 c2 : Nat) (b c : List UInt8) (w : World) (ht : tag.length + other.length ≤ 300) (hn : n1 + n2 ≤ 1000) (h1 : BS w A1 n1 c1 b) (h2 : BS w A2 n2 c2 c) (hT : Tabs w) :
    Calls Tryd.prog 6 #[.string ⟨tag.toArray⟩, .string ⟨other.toArray⟩, .slice A1 n1 c1, .slice A2 n2 c2] w fun e w' => e = .returned (.bool true) ∧ Below w.heap.size w w' := by
  have t1 : ¬ (300 : Int) < (tag.length : Int) + other.length := by omega
  have t2 : ¬ (1000 : Int) < (n1 : Int) + n2 := by omega
  have C0 := Lib.hid (sane_any w)
  have hp := scalN_pos (tagB tag b)
  obtain ⟨k, hk⟩ : ∃ k, scalN (tagB tag b) = k := ⟨_, rfl⟩
  have C1 := Lib.hid fun (W : World) (hb : Below w.heap.size w W) => hk ▸ scalar_any tag A1 n1 c1 b W (by omega) (h1.below hb) (by omega) (hT.ext hb)
  obtain ⟨k', hk'⟩ : ∃ k, scalN (tagB other c) = k := ⟨_, rfl⟩
  have C4 := Lib.hid fun (W : World) (hb : Below w.heap.size w W) => hk' ▸ scalar_any other A2 n2 c2 c W (by omega) (h2.below hb) (by omega) (hT.ext hb)
  obtain ⟨d, hd⟩ : ∃ d, tagB tag b = d := ⟨_, rfl⟩
  obtain ⟨d', hd'⟩ : ∃ d, tagB other c = d := ⟨_, rfl⟩
  have C2 := Lib.hid fun (W : World) (hb : Below w.heap.size w W) => (hd ▸ tagged_any tag A1 n1 c1 b W (by omega) (h1.below hb) (by omega) (hT.ext hb) : Calls Tryd.prog 40 #[.string ⟨tag.toArray⟩, .slice A1 n1 c1] W fun e w' => e = .returned (.agg (u8s d).toArray) ∧ Below W.heap.size W w')
  have C3 := Lib.hid fun (W : World) (hb : Below w.heap.size w W) => (hd' ▸ tagged_any other A2 n2 c2 c W (by omega) (h2.below hb) (by omega) (hT.ext hb) : Calls Tryd.prog 40 #[.string ⟨other.toArray⟩, .slice A2 n2 c2] W fun e w' => e = .returned (.agg (u8s d').toArray) ∧ Below W.heap.size W w')
  have heq := fun W => eq_digest d d' (by rw [← hd]; exact tagB_length _ _) (by rw [← hd']; exact tagB_length _ _) W
  have hkk : d = d' → (k : Int) = k' := fun e => by rw [← hk, ← hk', hd, hd', e]
  have HKK := Lib.hid hkk
  rw [hk] at hp
  have hbs := base_scal (k := k) (by omega) (by omega)
  obtain ⟨y, hy⟩ : ∃ y, expV 4 k = y := ⟨_, rfl⟩
  have hb := fun W => base_any k W
  simp only [hy, hbs.1] at hb
  rw [hy] at hbs
  have CB := Lib.hid hb
  have CC := Lib.hid fun W => check_el hbs.2.1 W
  have y1 : (y == 1) = false := by simpa using hbs.2.2
  obtain ⟨K, hK⟩ : ∃ K : Int, (k : Int) = K := ⟨_, rfl⟩
  obtain ⟨K', hK'⟩ : ∃ K : Int, (k' : Int) = K := ⟨_, rfl⟩
  rw [hK] at HKK
  simp only [hK] at CB
  rw [hK'] at HKK
  simp only [hK] at C1
  simp only [hK'] at C4
  have k1 : ¬ (K : Int) < 1 := by omega
  have k2 : ¬ (2305843009213688669 : Int) ≤ K := by omega
  obtain ⟨D, hD⟩ : ∃ D, (u8s d).toArray = D := ⟨_, rfl⟩
  obtain ⟨D', hD'⟩ : ∃ D, (u8s d').toArray = D := ⟨_, rfl⟩
  simp only [hD] at C2 heq
  simp only [hD'] at C3 heq
  have HEQ := Lib.hid heq
  clear heq
  clear hb hbs hp hK hK' hk hk' hd hd' hkk h1 h2 hT ht hn hy hD hD'
  go_enter Tryd.func6, Tryd.ntmps6
  go_wp2_with fail
  refine C0.out.mono ?_
  rintro e w1 ⟨rfl, b1⟩
  go_wp2_with fail
  refine (C1.out w1 b1).mono ?_
  rintro e w2 ⟨rfl, b2⟩
  have b2 := bl b1 b2
  go_wp2_with fail
  refine (CB.out w2).mono ?_
  rintro e w3 ⟨rfl, b3⟩
  have b3 := bl b2 b3
  go_wp2_with fail
  refine (CC.out w3).mono ?_
  rintro e w4 ⟨rfl, b4⟩
  have b4 := bl b3 b4
  go_wp2_with fail
  refine (C2.out w4 b4).mono ?_
  rintro e w5 ⟨rfl, b5⟩
  have b5 := bl b4 b5
  go_wp2_with fail
  refine (C3.out w5 b5).mono ?_
  rintro e w6 ⟨rfl, b6⟩
  have b6 := bl b5 b6
  go_wp2_with fail
  by_cases hdd : d = d'
  · have hq := HEQ.out w6
    rw [decide_eq_true hdd] at hq
    rw [hq]
    have hKK := HKK.out hdd
    clear hq HEQ hdd HKK
    simp only [Result.andThen_ok, Bool.not_true]
    go_wp2_with fail
    refine (C4.out w6 b6).mono ?_
    rintro e w7 ⟨rfl, b7⟩
    have b7 := bl b6 b7
    go_wp2_with fail
    go_ret
    subst hKK
    exact ⟨by simp, b7⟩
  · have hq := HEQ.out w6
    rw [decide_eq_false hdd] at hq
    rw [hq]
    clear hq HEQ hdd HKK
    simp only [Result.andThen_ok, Bool.not_false]
    go_wp2_with fail
    go_ret
    exact ⟨rfl, b6⟩
theorem det_no1 (tag other : List UInt8) (A1 A2 : Option Addr) (n1 c1 n2 c2 : Nat) (w : World) (ht : 300 < tag.length + other.length) (h1 : tag.length ≤ 140737488351232) (h2 : other.length ≤ 140737488351232) :
    Calls Tryd.prog 6 #[.string ⟨tag.toArray⟩, .string ⟨other.toArray⟩, .slice A1 n1 c1, .slice A2 n2 c2] w fun e w' => e = .returned (.bool true) ∧ Below w.heap.size w w' := by
  have t1 : (300 : Int) < (tag.length : Int) + other.length := by omega
  have t2 : (tag.length : Int) + other.length ≤ 281474976702464 := by omega
  have C0 := Lib.hid (sane_any w)
  clear ht h1 h2
  go_enter Tryd.func6, Tryd.ntmps6
  go_wp2_with fail
  refine C0.out.mono ?_
  rintro e w1 ⟨rfl, b1⟩
  go_wp2_with fail
  go_ret
  exact ⟨rfl, b1⟩
theorem det_no2 (tag other : List UInt8) (A1 A2 : Option Addr) (n1 c1 n2 c2 : Nat) (w : World) (ht : tag.length + other.length ≤ 300) (hn : 1000 < n1 + n2) (h1 : n1 ≤ 140737488351232) (h2 : n2 ≤ 140737488351232) :
    Calls Tryd.prog 6 #[.string ⟨tag.toArray⟩, .string ⟨other.toArray⟩, .slice A1 n1 c1, .slice A2 n2 c2] w fun e w' => e = .returned (.bool true) ∧ Below w.heap.size w w' := by
  have t1 : ¬ (300 : Int) < (tag.length : Int) + other.length := by omega
  have t2 : (1000 : Int) < (n1 : Int) + n2 := by omega
  have t3 : (n1 : Int) + n2 ≤ 281474976702464 := by omega
  have C0 := Lib.hid (sane_any w)
  clear ht hn h1 h2
  go_enter Tryd.func6, Tryd.ntmps6
  go_wp2_with fail
  refine C0.out.mono ?_
  rintro e w1 ⟨rfl, b1⟩
  go_wp2_with fail
  go_ret
  exact ⟨rfl, b1⟩
/-- GroupDetermined, of whatever comes in. -/
theorem det_walk (tag other : List UInt8) (A1 A2 : Option Addr) (n1 c1 n2 c2 : Nat) (b c : List UInt8) (w : World) (ht1 : tag.length ≤ 140737488351232) (ht2 : other.length ≤ 140737488351232) (hn1 : n1 ≤ 140737488351232) (hn2 : n2 ≤ 140737488351232)
    (h1 : BS w A1 n1 c1 b) (h2 : BS w A2 n2 c2 c) (hT : Tabs w) :
    Calls Tryd.prog 6 #[.string ⟨tag.toArray⟩, .string ⟨other.toArray⟩, .slice A1 n1 c1, .slice A2 n2 c2] w fun e w' => e = .returned (.bool true) ∧ Below w.heap.size w w' := by
  by_cases ht : tag.length + other.length ≤ 300
  · by_cases hn : n1 + n2 ≤ 1000
    · exact det_yes tag other A1 A2 n1 c1 n2 c2 b c w ht hn h1 h2 hT
    · exact det_no2 tag other A1 A2 n1 c1 n2 c2 w ht (by omega) hn1 hn2
  · exact det_no1 tag other A1 A2 n1 c1 n2 c2 w (by omega) ht1 ht2
end Go.Proofs.YtedokiemlkccaaaDoor
