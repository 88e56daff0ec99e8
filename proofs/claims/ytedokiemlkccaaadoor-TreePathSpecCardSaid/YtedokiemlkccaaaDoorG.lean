/- The walks of package group: Check, Mul, Exp, Inv, Base, Sum and Product return what the plain functions elemB, mulV, expV, sumV and prodV say; nothing that lay in memory has changed. -/
import Derived.Test.YtedokiemlkccaaaDoorP
import Derived.Deep.QuietTactic
import Derived.BigQuiet
set_option linter.all false
namespace Go.Proofs.YtedokiemlkccaaaDoor
open Go.RowKit

/-- is a number an element? -/
def elemB (a : Int) : Bool := decide (1 ≤ a ∧ a < 4611686018427377339 ∧ Grp.pw a.toNat Grp.Q = 1)
/-- the error of a number that is to be an element. -/
def errG (a : Int) : Int := if elemB a then 0 else 30
theorem elemB_true {a : Int} (h : elemB a = true) : 1 ≤ a ∧ a < 4611686018427377339 ∧ Grp.pw a.toNat Grp.Q = 1 := of_decide_eq_true h
theorem elemB_mk {a : Int} (h : 1 ≤ a ∧ a < 4611686018427377339 ∧ Grp.pw a.toNat Grp.Q = 1) : elemB a = true := decide_eq_true h
theorem errG_true {a : Int} (h : elemB a = true) : errG a = 0 := by unfold errG; rw [h]; rfl
theorem errG_false {a : Int} (h : elemB a = false) : errG a = 30 := by unfold errG; rw [h]; rfl
/-- is a number a scalar? -/
def scalB (k : Int) : Bool := decide (0 ≤ k ∧ k < 2305843009213688669)
theorem scalB_true {k : Int} (h : scalB k = true) : 0 ≤ k ∧ k < 2305843009213688669 := of_decide_eq_true h
theorem scalB_mk {k : Int} (h : 0 ≤ k ∧ k < 2305843009213688669) : scalB k = true := decide_eq_true h
theorem scalB_false {k : Int} (h : ¬ (0 ≤ k ∧ k < 2305843009213688669)) : scalB k = false := decide_eq_false h

/-- what lay in memory has not changed: twice. -/
theorem bl {a b c : World} (h : Below a.heap.size a b) (k : Below b.heap.size b c) : Below a.heap.size a c := h.trans (k.mono h.size)

theorem check_any (a : Int) (w : World) :
    Calls Tryd.prog 39 #[.int .i64 a] w fun e w' => e = .returned (.int .i64 (errG a)) ∧ Below w.heap.size w w' := by
  by_cases ha : a < 1
  · have hf : errG a = 30 := by unfold errG elemB; rw [decide_eq_false]; rfl; omega
    have hF := Lib.hid hf
    clear hf
    go_enter Tryd.func39, Tryd.ntmps39
    go_wp2_with fail
    go_ret
    exact ⟨ret_int hF.out.symm, Below.refl _ _⟩
  · by_cases hb : 4611686018427377339 ≤ a
    · have hf : errG a = 30 := by unfold errG elemB; rw [decide_eq_false]; rfl; omega
      have hF := Lib.hid hf
      clear hf
      go_enter Tryd.func39, Tryd.ntmps39
      go_wp2_with fail
      go_ret
      exact ⟨ret_int hF.out.symm, Below.refl _ _⟩
    · obtain ⟨n, rfl⟩ := Int.eq_ofNat_of_zero_le (show 0 ≤ a by omega)
      have c := power_any n Grp.Q w (by omega) (by rw [Grp.Q_eq]; omega)
      rw [Grp.Q_eq, show ((2305843009213688669 : Nat) : Int) = 2305843009213688669 from rfl, ← Grp.Q_eq] at c
      by_cases hp : Grp.pw n Grp.Q = 1
      · have hf : errG n = 0 := errG_true (elemB_mk ⟨by omega, by omega, by rw [Int.toNat_natCast]; exact hp⟩)
        have hF := Lib.hid hf
        rw [hp, show ((1 : Nat) : Int) = 1 from rfl] at c
        have C := Lib.hid c; clear c
        clear hf hp
        go_enter Tryd.func39, Tryd.ntmps39
        go_wp2_with fail
        refine C.out.mono ?_
        rintro e w' ⟨rfl, hb1⟩
        go_wp2_with fail
        go_ret
        exact ⟨ret_int hF.out.symm, hb1⟩
      · have hf : errG n = 30 := by unfold errG elemB; rw [decide_eq_false]; rfl; rintro ⟨_, _, h⟩; rw [Int.toNat_natCast] at h; exact hp h
        have hF := Lib.hid hf
        obtain ⟨x, hx⟩ : ∃ x, Grp.pw n Grp.Q = x := ⟨_, rfl⟩
        rw [hx] at c hp
        have hp1 : ((x : Int) != 1) = true := by rw [bne_iff_ne]; omega
        have C := Lib.hid c; clear c
        clear hf hx
        go_enter Tryd.func39, Tryd.ntmps39
        go_wp2_with fail
        refine C.out.mono ?_
        rintro e w' ⟨rfl, hb1⟩
        go_wp2_with fail
        go_ret
        exact ⟨ret_int hF.out.symm, hb1⟩

theorem ret_bool {a b : Bool} (h : a = b) : Ending.returned (.bool a) = .returned (.bool b) := by rw [h]
theorem ret_ii {a b c d : Int} (h : a = b) (h' : c = d) : Ending.returned (.tuple #[.int .i64 a, .int .i64 c]) = .returned (.tuple #[.int .i64 b, .int .i64 d]) := by rw [h, h']
theorem all_false {zs : List Int} {p : Int → Bool} {k : Nat} {z : Int} (hk : k < zs.length) (hz : zs.getD k 0 = z) (h : p z = false) : zs.all p = false := by
  refine List.all_eq_false.2 ⟨z, ?_, by rw [h]; decide⟩
  rw [← hz, List.getD_eq_getElem?_getD, List.getElem?_eq_getElem hk, Option.getD_some]; exact List.getElem_mem hk
theorem all_take {zs : List Int} {p : Int → Bool} {k : Nat} {z : Int} (hk : k < zs.length) (hz : zs.getD k 0 = z) (h : p z = true) (hp : (zs.take k).all p = true) : (zs.take (k + 1)).all p = true := by
  rw [List.getD_eq_getElem?_getD, List.getElem?_eq_getElem hk, Option.getD_some] at hz
  rw [List.take_succ_eq_append_getElem hk, List.all_append, hp, hz]; simp [h]

/-- group.scalars over a list of numbers in memory. -/
theorem scalars_any (zs : List Int) (b : Nat) (w : World) (hl : zs.length ≤ 1000) (hc : ∀ i, i < zs.length → w.cell? ⟨b, i, none⟩ = some (.int .i64 (zs.getD i 0))) :
    Calls Tryd.prog 68 #[.slice (some ⟨b, 0, none⟩) zs.length zs.length] w fun e w' => e = .returned (.bool (zs.all scalB)) ∧ w = w' := by
  have Hc := Lib.hid hc; clear hc
  obtain ⟨n, hn⟩ : ∃ n, zs.length = n := ⟨_, rfl⟩
  rw [hn] at hl ⊢
  have Hn := Lib.hid hn; clear hn
  go_enter Tryd.func68, Tryd.ntmps68
  go_wp2_with fail
  go_loop [7] (fun x => ∃ k : Nat, k ≤ n ∧ x = .int .i64 k ∧ Hid ((zs.take k).all scalB = true)) (fun x => n - (intOf x).toNat)
  case atStart => exact ⟨0, Nat.zero_le _, rfl, Lib.hid (by simp)⟩
  case round =>
    obtain ⟨k, hk, rfl, hinv⟩ := hrel
    by_cases hlt : k < n
    · have hck := Hc.out k (by rw [Hn.out]; exact hlt)
      obtain ⟨z, hz⟩ : ∃ z, zs.getD k 0 = z := ⟨_, rfl⟩
      rw [hz] at hck
      have Hz := Lib.hid hz; clear hz
      by_cases h1 : z < 0
      · have hf : zs.all scalB = false := all_false (by rw [Hn.out]; exact hlt) Hz.out (scalB_false (by omega))
        have HF := Lib.hid hf; clear hf
        go_wp2_with fail
        go_ret
        exact ⟨ret_bool HF.out.symm, rfl⟩
      · by_cases h2 : 2305843009213688669 ≤ z
        · have hf : zs.all scalB = false := all_false (by rw [Hn.out]; exact hlt) Hz.out (scalB_false (by omega))
          have HF := Lib.hid hf; clear hf
          go_wp2_with fail
          go_ret
          exact ⟨ret_bool HF.out.symm, rfl⟩
        · have hf : (zs.take (k + 1)).all scalB = true := all_take (by rw [Hn.out]; exact hlt) Hz.out (scalB_mk (by omega)) hinv.out
          have HF := Lib.hid hf; clear hf
          go_wp2_with fail
          go_round
          case rel => exact ⟨k + 1, by omega, by go_num, HF⟩
          case measure => simp [intOf]; omega
    · obtain rfl : k = n := by omega
      go_wp2_with fail
      go_ret
      exact ⟨ret_bool (by rw [← hinv.out, List.take_of_length_le (by rw [Hn.out]; exact Nat.le_refl _)]), rfl⟩

/-- group.Sum. -/
theorem gsum_yes (a b : Int) (w : World) (ha : scalB a = true) (hb : scalB b = true) :
    Calls Tryd.prog 32 #[.int .i64 a, .int .i64 b] w fun e w' => e = .returned (.tuple #[.int .i64 ((a + b) % 2305843009213688669), .int .i64 0]) ∧ Below w.heap.size w w' := by
  obtain ⟨a1, a2⟩ := scalB_true ha
  obtain ⟨b1, b2⟩ := scalB_true hb
  have c := scalars_any [a, b] w.heap.size (w.alloc (.cells #[.int .i64 a, .int .i64 b] 3)) (by simp) (by
    intro i hi
    match i, hi with
    | 0, _ => simp [World.cell?_alloc_new]
    | 1, _ => simp [World.cell?_alloc_new])
  rw [show [a, b].all scalB = true by simp [ha, hb], show [a, b].length = 2 from rfl] at c
  have C := Lib.hid c; clear c ha hb
  go_enter Tryd.func32, Tryd.ntmps32
  go_wp2_with fail
  refine C.out.mono ?_
  rintro e w' ⟨rfl, rfl⟩
  go_wp2_with fail
  go_ret2
  exact ⟨rfl, (Below.refl _ _).alloc (Nat.le_refl _) _⟩
theorem gsum_no (a b : Int) (w : World) (h : (scalB a && scalB b) = false) :
    Calls Tryd.prog 32 #[.int .i64 a, .int .i64 b] w fun e w' => e = .returned (.tuple #[.int .i64 0, .int .i64 1]) ∧ Below w.heap.size w w' := by
  have c := scalars_any [a, b] w.heap.size (w.alloc (.cells #[.int .i64 a, .int .i64 b] 3)) (by simp) (by
    intro i hi
    match i, hi with
    | 0, _ => simp [World.cell?_alloc_new]
    | 1, _ => simp [World.cell?_alloc_new])
  rw [show [a, b].all scalB = false by simpa using h, show [a, b].length = 2 from rfl] at c
  have C := Lib.hid c; clear c h
  go_enter Tryd.func32, Tryd.ntmps32
  go_wp2_with fail
  refine C.out.mono ?_
  rintro e w' ⟨rfl, rfl⟩
  go_wp2_with fail
  go_ret2
  exact ⟨rfl, (Below.refl _ _).alloc (Nat.le_refl _) _⟩

/-- group.Product. -/
theorem gprod_yes (a b : Int) (w : World) (ha : scalB a = true) (hb : scalB b = true) :
    Calls Tryd.prog 25 #[.int .i64 a, .int .i64 b] w fun e w' => e = .returned (.tuple #[.int .i64 ((a * b) % 2305843009213688669), .int .i64 0]) ∧ Below w.heap.size w w' := by
  obtain ⟨a1, a2⟩ := scalB_true ha
  obtain ⟨b1, b2⟩ := scalB_true hb
  have c := scalars_any [a, b] w.heap.size (w.alloc (.cells #[.int .i64 a, .int .i64 b] 3)) (by simp) (by
    intro i hi
    match i, hi with
    | 0, _ => simp [World.cell?_alloc_new]
    | 1, _ => simp [World.cell?_alloc_new])
  rw [show [a, b].all scalB = true by simp [ha, hb], show [a, b].length = 2 from rfl] at c
  have C := Lib.hid c; clear c ha hb
  obtain ⟨a, rfl⟩ := Int.eq_ofNat_of_zero_le a1
  obtain ⟨b, rfl⟩ := Int.eq_ofNat_of_zero_le b1
  have c1 := fun W => mul64_any a b W (by omega) (by omega)
  have hh : a * b / 18446744073709551616 < 2305843009213688669 := by
    rw [Nat.div_lt_iff_lt_mul (by omega)]
    have h2 := Nat.mul_le_mul (show a ≤ 2305843009213688668 by omega) (show b ≤ 2305843009213688668 by omega)
    omega
  have c2 := fun W => div64_any (a * b / 18446744073709551616) (a * b % 18446744073709551616) 2305843009213688669 W hh (Nat.mod_lt _ (by omega)) (by omega) (by omega)
  rw [Nat.div_add_mod' (a * b) 18446744073709551616, show ((2305843009213688669 : Nat) : Int) = 2305843009213688669 from rfl] at c2
  have hr := Nat.mod_lt (a * b) (show 0 < 2305843009213688669 by omega)
  have he : ((a * b % 2305843009213688669 : Nat) : Int) = (a : Int) * b % 2305843009213688669 := by rw [Int.natCast_emod, Int.natCast_mul]; rfl
  obtain ⟨q, hq⟩ : ∃ q, a * b / 2305843009213688669 = q := ⟨_, rfl⟩
  obtain ⟨r, hre⟩ : ∃ r, a * b % 2305843009213688669 = r := ⟨_, rfl⟩
  rw [hq, hre] at c2
  rw [hre] at he hr
  obtain ⟨hi, hhe⟩ : ∃ q, a * b / 18446744073709551616 = q := ⟨_, rfl⟩
  obtain ⟨lo, hle⟩ : ∃ r, a * b % 18446744073709551616 = r := ⟨_, rfl⟩
  rw [hhe, hle] at c1 c2
  have C1 := Lib.hid c1; clear c1
  have C2 := Lib.hid c2; clear c2
  have He := Lib.hid he; clear he hh hq hre hhe hle
  go_enter Tryd.func25, Tryd.ntmps25
  go_wp2_with fail
  refine C.out.mono ?_
  rintro e w' ⟨rfl, rfl⟩
  go_wp2_with fail
  refine (C1.out _).mono ?_
  rintro e w' ⟨rfl, rfl⟩
  go_wp2_with fail
  refine (C2.out _).mono ?_
  rintro e w' ⟨rfl, n, rfl⟩
  go_wp2_with fail
  go_ret2
  exact ⟨ret_ii He.out rfl, below_drewN ((Below.refl _ _).alloc (Nat.le_refl _) _) _⟩
theorem gprod_no (a b : Int) (w : World) (h : (scalB a && scalB b) = false) :
    Calls Tryd.prog 25 #[.int .i64 a, .int .i64 b] w fun e w' => e = .returned (.tuple #[.int .i64 0, .int .i64 1]) ∧ Below w.heap.size w w' := by
  have c := scalars_any [a, b] w.heap.size (w.alloc (.cells #[.int .i64 a, .int .i64 b] 3)) (by simp) (by
    intro i hi
    match i, hi with
    | 0, _ => simp [World.cell?_alloc_new]
    | 1, _ => simp [World.cell?_alloc_new])
  rw [show [a, b].all scalB = false by simpa using h, show [a, b].length = 2 from rfl] at c
  have C := Lib.hid c; clear c h
  go_enter Tryd.func25, Tryd.ntmps25
  go_wp2_with fail
  refine C.out.mono ?_
  rintro e w' ⟨rfl, rfl⟩
  go_wp2_with fail
  go_ret2
  exact ⟨rfl, (Below.refl _ _).alloc (Nat.le_refl _) _⟩

def sumV (a b : Int) : Int := if scalB a && scalB b then (a + b) % 2305843009213688669 else 0
def prodV (a b : Int) : Int := if scalB a && scalB b then (a * b) % 2305843009213688669 else 0
def scalE (a b : Int) : Int := if scalB a && scalB b then 0 else 1
def expV (a k : Int) : Int := if elemB a && scalB k then ((Grp.pw a.toNat k.toNat : Nat) : Int) else 0
def expE (a k : Int) : Int := if elemB a then (if scalB k then 0 else 1) else 30
def mulV (a b : Int) : Int := if elemB a && elemB b then a * b % 4611686018427377339 else 0
def mulE (a b : Int) : Int := if elemB a then errG b else 30

/-- group.Sum. -/
theorem gsum_any (a b : Int) (w : World) :
    Calls Tryd.prog 32 #[.int .i64 a, .int .i64 b] w fun e w' => e = .returned (.tuple #[.int .i64 (sumV a b), .int .i64 (scalE a b)]) ∧ Below w.heap.size w w' := by
  unfold sumV scalE
  by_cases h : (scalB a && scalB b) = true
  · rw [if_pos h, if_pos h]; rw [Bool.and_eq_true] at h; exact gsum_yes a b w h.1 h.2
  · rw [if_neg h, if_neg h]; exact gsum_no a b w (by simpa using h)
/-- group.Product. -/
theorem gprod_any (a b : Int) (w : World) :
    Calls Tryd.prog 25 #[.int .i64 a, .int .i64 b] w fun e w' => e = .returned (.tuple #[.int .i64 (prodV a b), .int .i64 (scalE a b)]) ∧ Below w.heap.size w w' := by
  unfold prodV scalE
  by_cases h : (scalB a && scalB b) = true
  · rw [if_pos h, if_pos h]; rw [Bool.and_eq_true] at h; exact gprod_yes a b w h.1 h.2
  · rw [if_neg h, if_neg h]; exact gprod_no a b w (by simpa using h)

/-- group.Exp. -/
theorem exp_any (a k : Int) (w : World) :
    Calls Tryd.prog 38 #[.int .i64 a, .int .i64 k] w fun e w' => e = .returned (.tuple #[.int .i64 (expV a k), .int .i64 (expE a k)]) ∧ Below w.heap.size w w' := by
  have c0 := check_any a w
  by_cases ha : elemB a = true
  · rw [errG_true ha] at c0
    have C0 := Lib.hid c0; clear c0
    have c1 := fun (W : World) => scalars_any [k] W.heap.size (W.alloc (.cells #[.int .i64 k] 3)) (by simp) (by
      intro i hi
      match i, hi with
      | 0, _ => simp [World.cell?_alloc_new])
    by_cases hk : scalB k = true
    · have e1 : expV a k = ((Grp.pw a.toNat k.toNat : Nat) : Int) := by unfold expV; rw [ha, hk]; rfl
      have e2 : expE a k = 0 := by unfold expE; rw [ha, hk]; rfl
      rw [show [k].all scalB = true by simp [hk], show [k].length = 1 from rfl] at c1
      rw [e1, e2]
      obtain ⟨a1, a2, _⟩ := elemB_true ha
      obtain ⟨k1, k2⟩ := scalB_true hk
      obtain ⟨a, rfl⟩ := Int.eq_ofNat_of_zero_le (show 0 ≤ a by omega)
      obtain ⟨k, rfl⟩ := Int.eq_ofNat_of_zero_le k1
      rw [Int.toNat_natCast, Int.toNat_natCast]
      have c2 := fun W => power_any a k W (by omega) (by omega)
      have hp := Grp.pw_lt a k
      rw [Grp.P_eq] at hp
      obtain ⟨p, hpe⟩ : ∃ p, Grp.pw a k = p := ⟨_, rfl⟩
      rw [hpe] at c2 hp ⊢
      have C1 := Lib.hid c1; clear c1
      have C2 := Lib.hid c2; clear c2
      clear hpe e1 e2 ha hk
      go_enter Tryd.func38, Tryd.ntmps38
      go_wp2_with fail
      refine C0.out.mono ?_
      rintro e w1 ⟨rfl, hb1⟩
      go_wp2_with fail
      refine (C1.out w1).mono ?_
      rintro e w2 ⟨rfl, rfl⟩
      go_wp2_with fail
      refine (C2.out _).mono ?_
      rintro e w2 ⟨rfl, hb2⟩
      go_wp2_with fail
      go_ret2
      exact ⟨rfl, bl hb1 (((Below.refl _ _).alloc (Nat.le_refl _) _).trans (hb2.mono (by simp)))⟩
    · have hk : scalB k = false := by simpa using hk
      have e1 : expV a k = 0 := by unfold expV; rw [hk, Bool.and_false]; rfl
      have e2 : expE a k = 1 := by unfold expE; rw [ha, hk]; rfl
      rw [show [k].all scalB = false by simp [hk], show [k].length = 1 from rfl] at c1
      rw [e1, e2]
      have C1 := Lib.hid c1; clear c1
      clear e1 e2 ha hk
      go_enter Tryd.func38, Tryd.ntmps38
      go_wp2_with fail
      refine C0.out.mono ?_
      rintro e w1 ⟨rfl, hb1⟩
      go_wp2_with fail
      refine (C1.out w1).mono ?_
      rintro e w2 ⟨rfl, rfl⟩
      go_wp2_with fail
      go_ret2
      exact ⟨rfl, bl hb1 ((Below.refl _ _).alloc (Nat.le_refl _) _)⟩
  · have ha : elemB a = false := by simpa using ha
    have e1 : expV a k = 0 := by unfold expV; rw [ha]; rfl
    have e2 : expE a k = 30 := by unfold expE; rw [ha]; rfl
    rw [errG_false ha] at c0
    have C0 := Lib.hid c0; clear c0
    rw [e1, e2]
    clear e1 e2 ha
    go_enter Tryd.func38, Tryd.ntmps38
    go_wp2_with fail
    refine C0.out.mono ?_
    rintro e w1 ⟨rfl, hb1⟩
    go_wp2_with fail
    go_ret2
    exact ⟨rfl, hb1⟩
/-- group.Inv. -/
theorem inv_any (a : Int) (w : World) :
    Calls Tryd.prog 36 #[.int .i64 a] w fun e w' => e = .returned (.tuple #[.int .i64 (expV a 2305843009213688668), .int .i64 (expE a 2305843009213688668)]) ∧ Below w.heap.size w w' := by
  go_enter Tryd.func36, Tryd.ntmps36
  go_wp2_with fail
  refine (exp_any _ _ _).mono ?_
  rintro e w1 ⟨rfl, hb1⟩
  go_wp2_with fail
  go_ret2
  exact ⟨rfl, hb1⟩
/-- group.Base. -/
theorem base_any (k : Int) (w : World) :
    Calls Tryd.prog 28 #[.int .i64 k] w fun e w' => e = .returned (.tuple #[.int .i64 (expV 4 k), .int .i64 (expE 4 k)]) ∧ Below w.heap.size w w' := by
  go_enter Tryd.func28, Tryd.ntmps28
  go_wp2_with fail
  refine (exp_any _ _ _).mono ?_
  rintro e w1 ⟨rfl, hb1⟩
  go_wp2_with fail
  go_ret2
  exact ⟨rfl, hb1⟩
/-- group.Mul. -/
theorem mul_any (a b : Int) (w : World) :
    Calls Tryd.prog 37 #[.int .i64 a, .int .i64 b] w fun e w' => e = .returned (.tuple #[.int .i64 (mulV a b), .int .i64 (mulE a b)]) ∧ Below w.heap.size w w' := by
  have c0 := fun W => check_any a W
  have c1 := fun W => check_any b W
  have i0 : ∀ w, (Instr.index 92 (.agg #[.int .i64 a, .int .i64 b]) (.int .i64 0)).run Tryd.prog w = .ok (.int .i64 a) w := fun _ => by kernel_rfl
  have i1 : ∀ w, (Instr.index 92 (.agg #[.int .i64 a, .int .i64 b]) (.int .i64 1)).run Tryd.prog w = .ok (.int .i64 b) w := fun _ => by kernel_rfl
  by_cases ha : elemB a = true
  · by_cases hb : elemB b = true
    · have e1 : mulV a b = a * b % 4611686018427377339 := by unfold mulV; rw [ha, hb]; rfl
      have e2 : mulE a b = 0 := by unfold mulE; rw [ha, errG_true hb]; rfl
      simp only [errG_true ha] at c0
      simp only [errG_true hb] at c1
      rw [e1, e2]
      obtain ⟨a1, a2, _⟩ := elemB_true ha
      obtain ⟨b1, b2, _⟩ := elemB_true hb
      clear ha hb e1 e2
      obtain ⟨a, rfl⟩ := Int.eq_ofNat_of_zero_le (show 0 ≤ a by omega)
      obtain ⟨b, rfl⟩ := Int.eq_ofNat_of_zero_le (show 0 ≤ b by omega)
      have c2 := fun W => times_any a b W (by omega) (by omega)
      have he : ((a * b % 4611686018427377339 : Nat) : Int) = (a : Int) * b % 4611686018427377339 := by rw [Int.natCast_emod, Int.natCast_mul]; rfl
      have hr := Nat.mod_lt (a * b) (show 0 < 4611686018427377339 by omega)
      obtain ⟨r, hre⟩ : ∃ r, a * b % 4611686018427377339 = r := ⟨_, rfl⟩
      simp only [hre] at c2
      rw [hre] at he hr
      have C0 := Lib.hid c0; clear c0
      have C1 := Lib.hid c1; clear c1
      have C2 := Lib.hid c2; clear c2
      have He := Lib.hid he; clear he hre
      go_enter Tryd.func37, Tryd.ntmps37
      go_wp2_with fail
      refine wp_loop_rounds 3 ?_
      rw [rounds_succ]
      go_wp2_with fail
      refine (C0.out _).mono ?_
      rintro e w1 ⟨rfl, hb1⟩
      go_wp2_with fail
      rw [rounds_succ]
      go_wp2_with fail
      refine (C1.out _).mono ?_
      rintro e w2 ⟨rfl, hb2⟩
      go_wp2_with fail
      rw [rounds_succ]
      go_wp2_with fail
      refine (C2.out _).mono ?_
      rintro e w3 ⟨rfl, n, rfl⟩
      go_wp2_with fail
      go_ret2
      exact ⟨ret_ii He.out rfl, below_drewN (bl hb1 hb2) _⟩
    · have hb : elemB b = false := by simpa using hb
      have e1 : mulV a b = 0 := by unfold mulV; rw [hb, Bool.and_false]; rfl
      have e2 : mulE a b = 30 := by unfold mulE; rw [ha, errG_false hb]; rfl
      simp only [errG_true ha] at c0
      simp only [errG_false hb] at c1
      have C0 := Lib.hid c0; clear c0
      have C1 := Lib.hid c1; clear c1
      rw [e1, e2]
      clear e1 e2 ha hb
      go_enter Tryd.func37, Tryd.ntmps37
      go_wp2_with fail
      refine wp_loop_rounds 2 ?_
      rw [rounds_succ]
      go_wp2_with fail
      refine (C0.out _).mono ?_
      rintro e w1 ⟨rfl, hb1⟩
      go_wp2_with fail
      rw [rounds_succ]
      go_wp2_with fail
      refine (C1.out _).mono ?_
      rintro e w2 ⟨rfl, hb2⟩
      go_wp2_with fail
      go_ret2
      exact ⟨rfl, bl hb1 hb2⟩
  · have ha : elemB a = false := by simpa using ha
    have e1 : mulV a b = 0 := by unfold mulV; rw [ha]; rfl
    have e2 : mulE a b = 30 := by unfold mulE; rw [ha]; rfl
    simp only [errG_false ha] at c0
    have C0 := Lib.hid c0; clear c0 c1
    rw [e1, e2]
    clear e1 e2 ha
    go_enter Tryd.func37, Tryd.ntmps37
    go_wp2_with fail
    refine wp_loop_rounds 1 ?_
    rw [rounds_succ]
    go_wp2_with fail
    refine (C0.out _).mono ?_
    rintro e w1 ⟨rfl, hb1⟩
    go_wp2_with fail
    go_ret2
    exact ⟨rfl, hb1⟩
end Go.Proofs.YtedokiemlkccaaaDoor
