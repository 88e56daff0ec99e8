/- The examples of the chapter on the group: computed powers, and the walk of the examples' function. -/
import Derived.Test.YtedokiemlkccaaaDoorG
set_option linter.all false
namespace Go.Proofs.YtedokiemlkccaaaDoor
open Go.RowKit
theorem is_any (c e v : Int) (w : World) : Calls Tryd.prog 72 #[.int .i64 c, .int .i64 e, .int .i64 v] w fun r w' => r = .returned (.bool (e == 0 && c == v)) ∧ w = w' := by
  by_cases h : e = 0
  · subst h
    go_enter Tryd.func72, Tryd.ntmps72
    go_wp2_with fail
    go_ret
    exact ⟨rfl, rfl⟩
  · have h' : (e == 0) = false := by rw [beq_eq_false_iff_ne]; exact h
    have H' := Lib.hid h'
    go_enter Tryd.func72, Tryd.ntmps72
    go_wp2_with fail
    go_ret
    exact ⟨ret_bool (by rw [H'.out]; rfl), rfl⟩

/-! ### the examples -/
theorem pw_run (a k : Nat) (h : k < 2 ^ 64) : Grp.pw a k = Num.powMod Grp.P 64 a k := by
  rw [Num.powMod_eq Grp.P 64 a k h]; rfl
theorem elem_run (n : Nat) (h1 : 1 ≤ n) (h2 : n < 4611686018427377339) (h : Num.powMod Grp.P 64 n Grp.Q = 1) : elemB (n : Int) = true :=
  elemB_mk ⟨by omega, by omega, by rw [Int.toNat_natCast, pw_run _ _ (by decide)]; exact h⟩
theorem elem_not (n : Nat) (h : Num.powMod Grp.P 64 n Grp.Q ≠ 1) : errG (n : Int) = 30 := by
  refine errG_false (decide_eq_false ?_)
  rintro ⟨_, _, h'⟩
  rw [Int.toNat_natCast, pw_run _ _ (by decide)] at h'
  exact h h'
theorem e4 : elemB 4 = true := elem_run 4 (by decide) (by decide) (by decide +kernel)
theorem e1 : elemB 1 = true := elem_run 1 (by decide) (by decide) (by decide +kernel)
theorem e16 : elemB 16 = true := elem_run 16 (by decide) (by decide) (by decide +kernel)
theorem g1 : errG 1 = 0 := errG_true e1
theorem g4 : errG 4 = 0 := errG_true e4
theorem g16 : errG 16 = 0 := errG_true e16
theorem g2 : errG 2 = 30 := elem_not 2 (by decide +kernel)
theorem gP1 : errG 4611686018427377338 = 30 := elem_not 4611686018427377338 (by decide +kernel)
theorem gP : errG 4611686018427377339 = 30 := errG_false (decide_eq_false (by rintro ⟨_, h, _⟩; omega))
theorem g0 : errG 0 = 30 := errG_false (decide_eq_false (by rintro ⟨h, _⟩; omega))
theorem gm4 : errG (-4) = 30 := errG_false (decide_eq_false (by rintro ⟨h, _⟩; omega))
theorem m44 : mulV 4 4 = 16 := by unfold mulV; rw [e4]; rfl
theorem me44 : mulE 4 4 = 0 := by unfold mulE; rw [e4, g4]; rfl
theorem x43 : expV 4 3 = 64 := by unfold expV; rw [e4, scalB_mk (by omega)]; decide
theorem xe43 : expE 4 3 = 0 := by unfold expE; rw [e4, scalB_mk (by omega)]; rfl
theorem xe4m : expE 4 (-1) = 1 := by unfold expE; rw [e4, scalB_false (by omega)]; rfl
theorem xe4q : expE 4 2305843009213688669 = 1 := by unfold expE; rw [e4, scalB_false (by omega)]; rfl
theorem x4i : expV 4 2305843009213688668 = 1152921504606844335 := by
  unfold expV; rw [e4, scalB_mk (by omega)]
  show ((Grp.pw 4 2305843009213688668 : Nat) : Int) = 1152921504606844335
  rw [pw_run _ _ (by decide)]; decide +kernel
theorem xe4i : expE 4 2305843009213688668 = 0 := by unfold expE; rw [e4, scalB_mk (by omega)]; rfl
theorem s1 : sumV 2305843009213688668 2 = 1 := by unfold sumV; rw [scalB_mk (by omega), scalB_mk (by omega)]; rfl
theorem se1 : scalE 2305843009213688668 2 = 0 := by unfold scalE; rw [scalB_mk (by omega), scalB_mk (by omega)]; rfl
theorem p1 : prodV 2305843009213688668 2305843009213688668 = 1 := by unfold prodV; rw [scalB_mk (by omega)]; rfl
theorem pe1 : scalE 2305843009213688668 2305843009213688668 = 0 := by unfold scalE; rw [scalB_mk (by omega)]; rfl
theorem seq : scalE 2305843009213688669 0 = 1 := by unfold scalE; rw [scalB_false (by omega)]; rfl

theorem is_yes (c : Int) (w : World) : Calls Tryd.prog 72 #[.int .i64 c, .int .i64 0, .int .i64 c] w fun r w' => r = .returned (.bool true) ∧ w = w' :=
  (is_any c 0 c w).mono fun _ _ ⟨he, hw⟩ => ⟨by rw [he]; simp, hw⟩
theorem check1 (w : World) : Calls Tryd.prog 39 #[.int .i64 1] w fun e w' => e = .returned (.int .i64 0) ∧ Below w.heap.size w w' := g1 ▸ check_any 1 w
theorem check4 (w : World) : Calls Tryd.prog 39 #[.int .i64 4] w fun e w' => e = .returned (.int .i64 0) ∧ Below w.heap.size w w' := g4 ▸ check_any 4 w
theorem check16 (w : World) : Calls Tryd.prog 39 #[.int .i64 16] w fun e w' => e = .returned (.int .i64 0) ∧ Below w.heap.size w w' := g16 ▸ check_any 16 w

set_option maxRecDepth 100000 in
/-- the examples of the chapter hold. -/
theorem sane_any (w : World) : Calls Tryd.prog 31 #[] w fun e w' => e = .returned (.bool true) ∧ Below w.heap.size w w' := by
  have c1 := fun W => mul_any 4 4 W
  have c2 := fun W => base_any 3 W
  have c3 := fun W => exp_any 4 (-1) W
  have c4 := fun W => exp_any 4 2305843009213688669 W
  have c5 := fun W => inv_any 4 W
  have c6 := fun W => gsum_any 2305843009213688668 2 W
  have c7 := fun W => gprod_any 2305843009213688668 2305843009213688668 W
  have c8 := fun W => gsum_any 2305843009213688669 0 W
  simp only [m44, me44, x43, xe43, xe4m, xe4q, x4i, xe4i, s1, se1, p1, pe1, seq] at c1 c2 c3 c4 c5 c6 c7 c8
  have C1 := Lib.hid c1; have C2 := Lib.hid c2; have C3 := Lib.hid c3; have C4 := Lib.hid c4; have C5 := Lib.hid c5; have C6 := Lib.hid c6; have C7 := Lib.hid c7; have C8 := Lib.hid c8
  clear c1 c2 c3 c4 c5 c6 c7 c8
  go_enter Tryd.func31, Tryd.ntmps31
  go_wp2_with fail
  refine (C1.out _).mono ?_
  rintro e w1 ⟨rfl, b1⟩
  go_wp2_with fail
  refine (C2.out _).mono ?_
  rintro e w2 ⟨rfl, b2⟩
  go_wp2_with fail
  refine (C3.out _).mono ?_
  rintro e w3 ⟨rfl, b3⟩
  go_wp2_with fail
  refine (C4.out _).mono ?_
  rintro e w4 ⟨rfl, b4⟩
  go_wp2_with fail
  refine (C5.out _).mono ?_
  rintro e w5 ⟨rfl, b5⟩
  go_wp2_with fail
  refine (C6.out _).mono ?_
  rintro e w6 ⟨rfl, b6⟩
  go_wp2_with fail
  refine (C7.out _).mono ?_
  rintro e w7 ⟨rfl, b7⟩
  go_wp2_with fail
  refine (C8.out _).mono ?_
  rintro e w8 ⟨rfl, b8⟩
  go_wp2_with fail
  have hcell : ∀ i, i < 5 → (w8.alloc (.cells #[.int .i64 0, .int .i64 4611686018427377339, .int .i64 4611686018427377338, .int .i64 2, .int .i64 (-4)] 3)).cell? ⟨w8.heap.size, i, none⟩ = some (.int .i64 ([0, 4611686018427377339, 4611686018427377338, 2, -4].getD i 0)) := by
    intro i hi
    match i, hi with
    | 0, _ => simp [World.cell?_alloc_new]
    | 1, _ => simp [World.cell?_alloc_new]
    | 2, _ => simp [World.cell?_alloc_new]
    | 3, _ => simp [World.cell?_alloc_new]
    | 4, _ => simp [World.cell?_alloc_new]
  have hg : ∀ i, i < 5 → errG ([0, 4611686018427377339, 4611686018427377338, 2, -4].getD i 0) = 30 := by
    intro i hi
    match i, hi with
    | 0, _ => exact g0
    | 1, _ => exact gP
    | 2, _ => exact gP1
    | 3, _ => exact g2
    | 4, _ => exact gm4
  have hsz : w8.heap.size < (w8.alloc (.cells #[.int .i64 0, .int .i64 4611686018427377339, .int .i64 4611686018427377338, .int .i64 2, .int .i64 (-4)] 3)).heap.size := by simp
  have hB0 : Below w8.heap.size w8 (w8.alloc (.cells #[.int .i64 0, .int .i64 4611686018427377339, .int .i64 4611686018427377338, .int .i64 2, .int .i64 (-4)] 3)) := (Below.refl _ _).alloc (Nat.le_refl _) _
  obtain ⟨W0, hW0⟩ : ∃ W0, w8.alloc (.cells #[.int .i64 0, .int .i64 4611686018427377339, .int .i64 4611686018427377338, .int .i64 2, .int .i64 (-4)] 3) = W0 := ⟨_, rfl⟩
  rw [hW0] at hcell hsz hB0 ⊢
  clear hW0
  obtain ⟨zs, hzs⟩ : ∃ zs : List Int, [0, 4611686018427377339, 4611686018427377338, 2, -4] = zs := ⟨_, rfl⟩
  rw [hzs] at hcell hg
  clear hzs
  have HC := Lib.hid hcell; clear hcell
  have HG := Lib.hid hg; clear hg
  go_loopw [53] (fun x wr => ∃ k : Nat, k ≤ 5 ∧ x = .int .i64 k ∧ Below W0.heap.size W0 wr) (fun x _ => 5 - (intOf x).toNat)
  case atStart => exact ⟨0, by omega, rfl, Below.refl _ _⟩
  case round =>
    obtain ⟨k, hk, rfl, hB⟩ := hrel
    by_cases hlt : k < 5
    · have hz := (hB.cell (p := ⟨w8.heap.size, k, none⟩) hsz).trans (HC.out k hlt)
      have hg := HG.out k hlt
      obtain ⟨z, hze⟩ : ∃ z, zs.getD k 0 = z := ⟨_, rfl⟩
      rw [hze] at hz hg
      have c9 := check_any z wr
      rw [hg] at c9
      have C9 := Lib.hid c9
      clear c9 hg hze
      go_wp2_with fail
      refine C9.out.mono ?_
      rintro e w9 ⟨rfl, b9⟩
      go_wp2_with fail
      go_roundw
      case rel => exact ⟨k + 1, by omega, by go_num, hB.trans (b9.mono hB.size)⟩
      case measure => simp [intOf]; omega
    · obtain rfl : k = 5 := by omega
      go_wp2_with fail
      refine (is_yes _ _).mono ?_
      rintro e w9 ⟨rfl, rfl⟩
      go_wp2_with fail
      refine (is_yes _ _).mono ?_
      rintro e w9 ⟨rfl, rfl⟩
      go_wp2_with fail
      refine (is_yes _ _).mono ?_
      rintro e w9 ⟨rfl, rfl⟩
      go_wp2_with fail
      refine (is_yes _ _).mono ?_
      rintro e w9 ⟨rfl, rfl⟩
      go_wp2_with fail
      refine (is_yes _ _).mono ?_
      rintro e w9 ⟨rfl, rfl⟩
      go_wp2_with fail
      refine (check1 _).mono ?_
      rintro e w9 ⟨rfl, b9⟩
      go_wp2_with fail
      refine (check4 _).mono ?_
      rintro e w10 ⟨rfl, b10⟩
      go_wp2_with fail
      refine (check16 _).mono ?_
      rintro e w11 ⟨rfl, b11⟩
      go_wp2_with fail
      go_ret
      exact ⟨rfl, bl b1 (bl b2 (bl b3 (bl b4 (bl b5 (bl b6 (bl b7 (bl b8 (bl (hB0.trans (hB.mono hB0.size)) (bl b9 (bl b10 b11))))))))))⟩
end Go.Proofs.YtedokiemlkccaaaDoor
