/- The walk of TreeRootSpec. -/
import Derived.Test.YtedokiemlkccaaaDoorFE
set_option linter.all false
namespace Go.Proofs.YtedokiemlkccaaaDoor
open Go.RowKit
open Go.RowKit Go.Shelf
attribute [local go_sem] Oper.semAt_some
attribute [local go_sem ↓] ld46_in st46_in bs46_in bd46_in
attribute [local go_sem] st_new st_any sl_one sl_two sl_three
set_option maxRecDepth 100000 in
set_option maxHeartbeats 1000000 in
/-- Root of the reference. -/
theorem rRoot_any (A : Option Addr) (n c : Nat) (ns : List Nd) (w : World) (h : NS w A n c ns) : Calls Tryd.prog 43 #[.slice A n c] w fun e w' => e = .returned (.tuple #[.agg (rootV ns).arr, .int .i64 (if rootE ns then 0 else 410)]) ∧ Below w.heap.size w w' := by
  have b := (Below.refl _ w).alloc (Nat.le_refl _) (.cells nd0.arr 46)
  have hk := Blk.new w 46 nd0.arr
  have CK := Lib.hid (rchk_any A n c ns _ (h.below b))
  have hle := h.le
  have hcap := h.cap
  have hl := h.len
  have oX := okX _ (rootV_len h.dig)
  cases he : rootE ns
  · have e0 : rootV ns = nd0 := by unfold rootV; rw [he]; rfl
    rw [he] at CK
    rw [e0]
    have hbn := bd46_nil
    clear h he e0
    have o0 : nd0.arr.size = 34 := rfl
    obtain ⟨na, hna⟩ : ∃ na, nd0.arr = na := ⟨_, rfl⟩
    have o1 := okX nd0 rfl
    rw [hna] at b hk CK o0 o1 ⊢
    simp only [hna] at hbn
    have HNA := Lib.hid hna
    clear hna
    go_enter Tryd.func43, Tryd.ntmps43
    go_upto_region 1 with fail
    generalize hW0 : w.alloc (Obj.cells _ 46) = W1
    have hzz : w.alloc (.cells na 46) = W1 := by rw [← HNA.out]; exact hW0
    rw [hzz] at hk b CK
    clear hW0 hzz
    obtain ⟨g2, hg2⟩ : ∃ g, w.heap.size = g := ⟨_, rfl⟩
    rw [hg2] at hk ⊢
    have HG := Lib.hid hg2
    clear hg2
    go_wp2_with fail
    refine CK.out.mono ?_
    rintro e w2 ⟨rfl, k⟩
    have b2 := bl b k
    have hat : At46 w2 g2 := ⟨na, hk.below k hk.lt, o0⟩
    have hR := at46_set hat na
    have bR : Below w.heap.size w (w2.setRow g2 na) := below_setRow b2 (Nat.le_of_eq HG.out) _
    have HR := Lib.hid hR
    clear hR k
    go_wp2_with fail
    refine bodyPost_ret (v := .tuple #[.agg na, .int .i64 410]) ?_ rfl ⟨rfl, bR⟩
    exact results_node2 rfl HR.out o0 rfl rfl
  · obtain ⟨h9, hv⟩ := rootE_parts he
    have e0 := rootV_rtV he
    rw [he] at CK
    have CR := Lib.hid fun (W : World) (hb : Below w.heap.size w W) => rroot_any n A n c ns W (Nat.le_refl _) (by omega) (h.below hb) hv
    rw [← e0] at CR
    obtain ⟨X, hX⟩ : ∃ X, (rootV ns).arr = X := ⟨_, rfl⟩
    simp only [hX] at CR oX ⊢
    clear h he e0 hX hv
    go_enter Tryd.func43, Tryd.ntmps43
    go_upto_region 1 with fail
    generalize hW0 : w.alloc (Obj.cells _ 46) = W1
    have hzz : w.alloc (.cells nd0.arr 46) = W1 := hW0
    rw [hzz] at hk b CK
    clear hW0 hzz
    obtain ⟨g2, hg2⟩ : ∃ g, w.heap.size = g := ⟨_, rfl⟩
    rw [hg2] at hk ⊢
    have HG := Lib.hid hg2
    clear hg2
    go_wp2_with fail
    refine CK.out.mono ?_
    rintro e w2 ⟨rfl, k⟩
    have b2 := bl b k
    replace hk := hk.below k hk.lt
    clear k b
    go_wp2_with fail
    refine (CR.out _ b2).mono ?_
    rintro e w3 ⟨rfl, k⟩
    have b3 := bl b2 k
    have hat : At46 w3 g2 := ⟨nd0.arr, hk.below k hk.lt, rfl⟩
    have hR := at46_set hat X
    have bR : Below w.heap.size w (w3.setRow g2 X) := below_setRow b3 (Nat.le_of_eq HG.out) _
    have HR := Lib.hid hR
    clear hR k hk b2
    go_wp2_with fail
    refine bodyPost_ret (v := .tuple #[.agg X, .int .i64 0]) ?_ rfl ⟨rfl, bR⟩
    exact results_node2 rfl HR.out oX.1 rfl rfl
set_option maxRecDepth 100000 in
set_option maxHeartbeats 1000000 in
theorem rootspec_skip (A : Option Addr) (n c : Nat) (a b : Array Value) (w : World) (hle : n ≤ c) (hc : c ≤ 9223372036854775807) (hT : Tabs w) (h1 : 200 < n) (h2 : n ≤ 4096) :
    Calls Tryd.prog 7 #[.slice A n c, .agg a, .agg b] w fun e w' => e = .returned (.bool true) ∧ Below w.heap.size w w' := by
  have C0 := Lib.hid fun (W : World) (hb : Below w.heap.size w W) => sane41_any W (hT.ext hb)
  have t1 : (200 : Int) < (n : Int) := by omega
  have t2 : (n : Int) ≤ 4096 := by omega
  have b : Below w.heap.size w ((w.alloc (.cells a 46)).alloc (.cells b 46)) := ((Below.refl _ w).alloc (Nat.le_refl _) _).alloc (by simp) _
  clear hT
  go_enter Tryd.func7, Tryd.ntmps7
  go_wp2_with fail
  refine (C0.out _ b).mono ?_
  rintro e w1 ⟨rfl, k⟩
  have b := bl b k
  go_wp2_with fail
  go_ret
  exact ⟨rfl, b⟩
set_option maxRecDepth 100000 in
set_option maxHeartbeats 2000000 in
theorem rootspec_go (A : Option Addr) (n c : Nat) (ns : List Nd) (a b : Nd) (w : World) (h : NS w A n c ns) (ha : a.d.length = 32) (hb : b.d.length = 32) (hT : Tabs w) (h1 : n ≤ 200 ∨ 4096 < n) :
    Calls Tryd.prog 7 #[.slice A n c, .agg a.arr, .agg b.arr] w fun e w' => e = .returned (.bool true) ∧ Below w.heap.size w w' := by
  have C0 := Lib.hid fun (W : World) (hb : Below w.heap.size w W) => sane41_any W (hT.ext hb)
  have c1 := fun (W : World) (hb : Below w.heap.size w W) => root_any A n c ns W (h.below hb) (hT.ext hb)
  have c2 := fun (W : World) (hb : Below w.heap.size w W) => rRoot_any A n c ns W (h.below hb)
  have c3 := fun (W : World) (h' : Below w.heap.size w W) => join_any a b W ha hb (hT.ext h')
  have c4 := fun (W : World) => rjoin_any a b W ha hb
  have oA := okX a ha
  have oB := okX b hb
  have lX := rootV_len h.dig
  have oX := okX _ lX
  have oY := okX _ (joinR_len a b)
  have hE := fun W => eqN_self (rootV ns) ▸ eq_node (rootV ns) (rootV ns) lX lX W
  have hE2 := fun W => eqN_self (joinR a b) ▸ eq_node (joinR a b) (joinR a b) (joinR_len a b) (joinR_len a b) W
  have hle := h.le
  have hcap := h.cap
  obtain ⟨X, hX⟩ : ∃ X, (rootV ns).arr = X := ⟨_, rfl⟩
  obtain ⟨Y, hY⟩ : ∃ X, (joinR a b).arr = X := ⟨_, rfl⟩
  obtain ⟨A', hA⟩ : ∃ X, a.arr = X := ⟨_, rfl⟩
  obtain ⟨B', hB⟩ : ∃ X, b.arr = X := ⟨_, rfl⟩
  obtain ⟨E, hEE⟩ : ∃ E : Int, (if rootE ns then 0 else 410) = E := ⟨_, rfl⟩
  obtain ⟨F, hF⟩ : ∃ E, joinE a b = E := ⟨_, rfl⟩
  simp only [hX, hEE] at c1 c2 oX hE
  simp only [hY, hF, hA, hB] at c3 c4 oY hE2
  rw [hA] at oA ⊢
  rw [hB] at oB ⊢
  have C1 := Lib.hid c1; have C2 := Lib.hid c2; have C3 := Lib.hid c3; have C4 := Lib.hid c4
  have hk := ((Bk.nil w).new A').new B'
  have b1 : Below w.heap.size w ((w.alloc (.cells A' 46)).alloc (.cells B' 46)) := ((Below.refl _ w).alloc (Nat.le_refl _) _).alloc (by simp) _
  rw [World.size_alloc] at hk
  clear c1 c2 c3 c4 h hT ha hb lX hX hY hA hB hEE hF
  go_enter Tryd.func7, Tryd.ntmps7
  go_wp2_with fail
  generalize (w.alloc (.cells A' 46)).alloc (.cells B' 46) = w1 at hk b1 ⊢
  obtain ⟨g4, hg4⟩ : ∃ g, w.heap.size = g := ⟨_, rfl⟩
  rw [hg4] at hk ⊢
  clear hg4
  refine (C0.out _ b1).mono ?_
  rintro e w2 ⟨rfl, k⟩
  replace hk := hk.below k
  replace b1 := bl b1 k
  clear k
  have ht : ((n : Int) ≤ 200) ∨ ((200 : Int) < n ∧ (4096 : Int) < n) := by omega
  clear h1
  rcases ht with ht | ⟨ht, ht2⟩
  all_goals (
    go_wp2_with fail
    refine (C1.out _ b1).mono ?_
    rintro e w3 ⟨rfl, k⟩
    replace hk := hk.below k
    replace b1 := bl b1 k
    clear k
    go_upto_region 6 with fail
    replace hk := hk.new X
    replace b1 := b1.alloc b1.size (.cells X 46)
    obtain ⟨g7, hg7⟩ : ∃ g, w3.heap.size = g := ⟨_, rfl⟩
    rw [hg7] at hk ⊢
    generalize w3.alloc (.cells X 46) = w4 at hk b1 ⊢
    clear hg7
    go_wp2_with fail
    refine (C2.out _ b1).mono ?_
    rintro e w5 ⟨rfl, k⟩
    replace hk := hk.below k
    replace b1 := bl b1 k
    clear k
    go_upto_region 7 with fail
    replace hk := hk.new X
    replace b1 := b1.alloc b1.size (.cells X 46)
    obtain ⟨g9, hg9⟩ : ∃ g, w5.heap.size = g := ⟨_, rfl⟩
    rw [hg9] at hk ⊢
    generalize w5.alloc (.cells X 46) = w6 at hk b1 ⊢
    clear hg9
    have l0 := ld_blk (hk (g4, A') (by simp)) oA
    have l1 := ld_blk (hk (g4 + 1, B') (by simp)) oB
    go_wp2_with fail
    refine (C3.out _ b1).mono ?_
    rintro e w7 ⟨rfl, k⟩
    replace hk := hk.below k
    replace b1 := bl b1 k
    clear k l0 l1
    go_upto_region 8 with fail
    replace hk := hk.new Y
    replace b1 := b1.alloc b1.size (.cells Y 46)
    obtain ⟨g11, hg11⟩ : ∃ g, w7.heap.size = g := ⟨_, rfl⟩
    rw [hg11] at hk ⊢
    generalize w7.alloc (.cells Y 46) = w8 at hk b1 ⊢
    clear hg11
    have l0 := ld_blk (hk (g4, A') (by simp)) oA
    have l1 := ld_blk (hk (g4 + 1, B') (by simp)) oB
    go_wp2_with fail
    refine (C4.out _).mono ?_
    rintro e w9 ⟨rfl, k⟩
    replace hk := hk.below k
    replace b1 := bl b1 k
    clear k l0 l1
    go_upto_region 9 with fail
    replace hk := hk.new Y
    replace b1 := b1.alloc b1.size (.cells Y 46)
    obtain ⟨g13, hg13⟩ : ∃ g, w9.heap.size = g := ⟨_, rfl⟩
    rw [hg13] at hk ⊢
    generalize w9.alloc (.cells Y 46) = w10 at hk b1 ⊢
    clear hg13
    have l0 := ld_blk (hk (g7, X) (by simp)) oX
    have l1 := ld_blk (hk (g9, X) (by simp)) oX
    have l2 := ld_blk (hk (g11, Y) (by simp)) oY
    have l3 := ld_blk (hk (g13, Y) (by simp)) oY
    go_wp2_with fail
    go_ret
    exact ⟨rfl, b1⟩)
/-- TreeRootSpec, of whatever comes in. -/
theorem rootspec_walk (A : Option Addr) (n c : Nat) (ns : List Nd) (a b : Nd) (w : World) (h : NS w A n c ns) (ha : a.d.length = 32) (hb : b.d.length = 32) (hT : Tabs w) :
    Calls Tryd.prog 7 #[.slice A n c, .agg a.arr, .agg b.arr] w fun e w' => e = .returned (.bool true) ∧ Below w.heap.size w w' := by
  by_cases h1 : n ≤ 200
  · exact rootspec_go A n c ns a b w h ha hb hT (.inl h1)
  · by_cases h2 : n ≤ 4096
    · exact rootspec_skip A n c _ _ w h.le h.cap hT (by omega) h2
    · exact rootspec_go A n c ns a b w h ha hb hT (.inr (by omega))
end Go.Proofs.YtedokiemlkccaaaDoor
