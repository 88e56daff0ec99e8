/- The walk of TreePathSpec. -/
import Derived.Test.YtedokiemlkccaaaDoorFI
import Derived.Test.YtedokiemlkccaaaDoorTH
set_option linter.all false
namespace Go.Proofs.YtedokiemlkccaaaDoor
open Go.RowKit
open Go.RowKit Go.Shelf
attribute [local go_sem] Oper.semAt_some
attribute [local go_sem ↓] ld46_in st46_in bs46_in bd46_in
attribute [local go_sem] st_new st_any sl_one sl_two sl_three
set_option maxRecDepth 100000 in
set_option maxHeartbeats 1000000 in
theorem pathspec_skip (A : Option Addr) (n c : Nat) (b : Array Value) (at_ many : Int) (A' : Option Addr) (n' c' : Nat) (w : World) (hle : n ≤ c) (hc : c ≤ 9223372036854775807) (hle' : n' ≤ c') (hc' : c' ≤ 9223372036854775807) (hT : Tabs w) (h1 : 100 < n ∨ (n ≤ 100 ∧ 20 < n')) :
    Calls Tryd.prog 8 #[.slice A n c, .agg b, .int .i64 at_, .int .i64 many, .slice A' n' c'] w fun e w' => e = .returned (.bool true) ∧ Below w.heap.size w w' := by
  have C0 := Lib.hid fun (W : World) (hb : Below w.heap.size w W) => sane41_any W (hT.ext hb)
  have b : Below w.heap.size w (w.alloc (.cells b 46)) := (Below.refl _ w).alloc (Nat.le_refl _) _
  have ht : ((100 : Int) < n) ∨ ((n : Int) ≤ 100 ∧ (20 : Int) < n') := by omega
  clear hT h1
  rcases ht with ht | ⟨ht, ht2⟩
  all_goals (
    go_enter Tryd.func8, Tryd.ntmps8
    go_wp2_with fail
    refine (C0.out _ b).mono ?_
    rintro e w1 ⟨rfl, k⟩
    have b := bl b k
    go_wp2_with fail
    go_ret
    exact ⟨rfl, b⟩)
set_option maxRecDepth 100000 in
set_option maxHeartbeats 2000000 in
theorem pathspec_go (A : Option Addr) (n c : Nat) (ns : List Nd) (x : Nd) (at_ many : Int) (A' : Option Addr) (n' c' : Nat) (path : List Nd) (w : World) (h : NS w A n c ns) (hx : x.d.length = 32) (hp : NS w A' n' c' path) (hT : Tabs w) (h1 : n ≤ 100) (h2 : n' ≤ 20) :
    Calls Tryd.prog 8 #[.slice A n c, .agg x.arr, .int .i64 at_, .int .i64 many, .slice A' n' c'] w fun e w' => e = .returned (.bool true) ∧ Below w.heap.size w w' := by
  have C0 := Lib.hid fun (W : World) (hb : Below w.heap.size w W) => sane41_any W (hT.ext hb)
  have c1 := fun (W : World) (hb : Below w.heap.size w W) => path_any A n c ns at_ W (h.below hb) (hT.ext hb)
  have c2 := fun (W : World) (hb : Below w.heap.size w W) => rPath_any A n c ns at_ W (h.below hb)
  have c3 := fun (W : World) (hb : Below w.heap.size w W) => climb_any x at_ many A' n' c' path W hx (hp.below hb) (hT.ext hb)
  have c4 := fun (W : World) (hb : Below w.heap.size w W) => rClimb_any x at_ many A' n' c' path W hx (hp.below hb)
  have C5 := Lib.hid fun (A1 : Option Addr) (m1 c1 : Nat) (L1 : List Nd) (A2 : Option Addr) (m2 c2 : Nat) (W : World) (h1 : NS W A1 m1 c1 L1) (h2 : NS W A2 m2 c2 L1) => (sameN_iff L1 L1).2 rfl ▸ same_any A1 m1 c1 L1 A2 m2 c2 L1 W h1 h2
  have oA := okX x hx
  have lY := climbV_len x at_ many path hx
  have oY := okX _ lY
  have hE := fun W => eqN_self (climbV x at_ many path).1 ▸ eq_node (climbV x at_ many path).1 (climbV x at_ many path).1 lY lY W
  have hle := h.le
  have hcap := h.cap
  have hle' := hp.le
  have hcap' := hp.cap
  obtain ⟨Y, hY⟩ : ∃ X, (climbV x at_ many path).1.arr = X := ⟨_, rfl⟩
  obtain ⟨F, hF⟩ : ∃ X, (climbV x at_ many path).2 = X := ⟨_, rfl⟩
  obtain ⟨E, hEE⟩ : ∃ E : Int, pathE ns at_ = E := ⟨_, rfl⟩
  obtain ⟨L, hL⟩ : ∃ L, pathL ns at_ = L := ⟨_, rfl⟩
  obtain ⟨X, hX⟩ : ∃ X, x.arr = X := ⟨_, rfl⟩
  simp only [hEE, hL] at c1 c2
  simp only [hY, hF, hX] at c3 c4 oY hE
  rw [hX] at oA ⊢
  have C1 := Lib.hid c1; have C2 := Lib.hid c2; have C3 := Lib.hid c3; have C4 := Lib.hid c4
  have hk := (Bk.nil w).new X
  have b1 : Below w.heap.size w (w.alloc (.cells X 46)) := (Below.refl _ w).alloc (Nat.le_refl _) _
  have t1 : (n : Int) ≤ 100 := by omega
  have t2 : (n' : Int) ≤ 20 := by omega
  clear c1 c2 c3 c4 h hp hT hx lY hX hY hF hEE hL h1 h2
  go_enter Tryd.func8, Tryd.ntmps8
  go_wp2_with fail
  generalize w.alloc (.cells X 46) = w1 at hk b1 ⊢
  obtain ⟨g4, hg4⟩ : ∃ g, w.heap.size = g := ⟨_, rfl⟩
  rw [hg4] at hk ⊢
  clear hg4
  refine (C0.out _ b1).mono ?_
  rintro e w2 ⟨rfl, k⟩
  replace hk := hk.below k
  replace b1 := bl b1 k
  clear k
  go_wp2_with fail
  refine (C1.out _ b1).mono ?_
  rintro e w3 ⟨A1, m1, q1, rfl, hn1, k⟩
  replace hk := hk.below k
  replace b1 := bl b1 k
  clear k
  have HN1 := Lib.hid hn1
  clear hn1
  go_wp2_with fail
  refine (C2.out _ b1).mono ?_
  rintro e w4 ⟨A2, m2, q2, rfl, hn2, k⟩
  replace hk := hk.below k
  replace b1 := bl b1 k
  have HN1' := Lib.hid (HN1.out.below k)
  clear k
  have HN2 := Lib.hid hn2
  clear hn2 HN1
  have l0 := ld_blk (hk (g4, X) (by simp)) oA
  go_wp2_with fail
  refine (C3.out _ b1).mono ?_
  rintro e w5 ⟨rfl, k⟩
  replace hk := hk.below k
  replace b1 := bl b1 k
  have HN1'' := Lib.hid (HN1'.out.below k)
  have HN2' := Lib.hid (HN2.out.below k)
  clear k l0 HN1' HN2
  go_upto_region 8 with fail
  replace hk := hk.new Y
  replace b1 := b1.alloc b1.size (.cells Y 46)
  have HN3 := Lib.hid (HN1''.out.below (Below.alloc (Below.refl _ w5) (Nat.le_refl _) (.cells Y 46)))
  have HN4 := Lib.hid (HN2'.out.below (Below.alloc (Below.refl _ w5) (Nat.le_refl _) (.cells Y 46)))
  clear HN1'' HN2'
  obtain ⟨g7, hg7⟩ : ∃ g, w5.heap.size = g := ⟨_, rfl⟩
  rw [hg7] at hk ⊢
  generalize w5.alloc (.cells Y 46) = w6 at hk b1 HN3 HN4 ⊢
  clear hg7
  have l0 := ld_blk (hk (g4, X) (by simp)) oA
  go_wp2_with fail
  refine (C4.out _ b1).mono ?_
  rintro e w7 ⟨rfl, k⟩
  replace hk := hk.below k
  replace b1 := bl b1 k
  have HN5 := Lib.hid (HN3.out.below k)
  have HN6 := Lib.hid (HN4.out.below k)
  clear k l0 HN3 HN4
  go_upto_region 9 with fail
  replace hk := hk.new Y
  replace b1 := b1.alloc b1.size (.cells Y 46)
  have HN7 := Lib.hid (HN5.out.below (Below.alloc (Below.refl _ w7) (Nat.le_refl _) (.cells Y 46)))
  have HN8 := Lib.hid (HN6.out.below (Below.alloc (Below.refl _ w7) (Nat.le_refl _) (.cells Y 46)))
  clear HN5 HN6
  obtain ⟨g9, hg9⟩ : ∃ g, w7.heap.size = g := ⟨_, rfl⟩
  rw [hg9] at hk ⊢
  generalize w7.alloc (.cells Y 46) = w8 at hk b1 HN7 HN8 ⊢
  clear hg9
  go_wp2_with fail
  refine (C5.out _ _ _ L _ _ _ _ HN7.out HN8.out).mono ?_
  rintro e w9 ⟨rfl, k⟩
  replace hk := hk.below k
  replace b1 := bl b1 k
  clear k HN7 HN8
  have l2 := ld_blk (hk (g7, Y) (by simp)) oY
  have l3 := ld_blk (hk (g9, Y) (by simp)) oY
  go_wp2_with fail
  go_ret
  exact ⟨rfl, b1⟩
/-- TreePathSpec, of whatever comes in. -/
theorem pathspec_walk (A : Option Addr) (n c : Nat) (ns : List Nd) (x : Nd) (at_ many : Int) (A' : Option Addr) (n' c' : Nat) (path : List Nd) (w : World) (h : NS w A n c ns) (hx : x.d.length = 32) (hp : NS w A' n' c' path) (hT : Tabs w) :
    Calls Tryd.prog 8 #[.slice A n c, .agg x.arr, .int .i64 at_, .int .i64 many, .slice A' n' c'] w fun e w' => e = .returned (.bool true) ∧ Below w.heap.size w w' := by
  by_cases h1 : n ≤ 100
  · by_cases h2 : n' ≤ 20
    · exact pathspec_go A n c ns x at_ many A' n' c' path w h hx hp hT h1 h2
    · exact pathspec_skip A n c _ at_ many A' n' c' w h.le h.cap hp.le hp.cap hT (.inr ⟨h1, by omega⟩)
  · exact pathspec_skip A n c _ at_ many A' n' c' w h.le h.cap hp.le hp.cap hT (.inl (by omega))
end Go.Proofs.YtedokiemlkccaaaDoor
