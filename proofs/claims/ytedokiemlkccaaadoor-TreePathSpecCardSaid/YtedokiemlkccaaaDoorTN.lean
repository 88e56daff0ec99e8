/- The walk of TreeHidden. -/
import Derived.Test.YtedokiemlkccaaaDoorTM
set_option linter.all false
namespace Go.Proofs.YtedokiemlkccaaaDoor
open Go.RowKit
open Go.RowKit Go.Shelf
attribute [local go_sem] Oper.semAt_some
/-- a load of a digest, as a word of its own. -/
def ld41 (a : Addr) : Sem Value := loadVar 41 a
theorem ld41_in (a : Addr) : loadVar 41 a = ld41 a := rfl
theorem ld41_blk {W : World} {g : Nat} {d : List UInt8} (h : Blk W g 41 (u8s d).toArray) (hd : d.length = 32) : (ld41 ⟨g, 0, none⟩).run Tryd.prog W = .ok (.agg (u8s d).toArray) W :=
  run_loadVar_row (P := Tryd.prog) W g 41 41 _ _ _ h Tryd.underlying41 rfl (by
    obtain ⟨i41, h41, z41, s41, _⟩ := info_parts info41
    rw [h41, List.size_toArray, u8s_length, hd]; simp [s41])
attribute [local go_sem ↓] ld46_in st46_in bs46_in ld41_in
attribute [local go_sem] st_new st_any sl_one sl_two sl_three
theorem leaves_rootc (d : List UInt8) (ls : List Ln) (h : ls.all Ln.ok = true) (h9 : ls.length ≤ 4096) : (rootV (leavesL d 0 ls)).c = lineC ls ∧ (rootV (leavesL d 0 ls)).p = lineP ls := by
  have he := leaves_root d ls h h9
  obtain ⟨_, b, c, _⟩ := leaves_facts d 0 ls h
  by_cases hne : leavesL d 0 ls = []
  · have hl : ls = [] := by
      have := leavesL_len d 0 ls
      rw [hne] at this
      exact List.length_eq_zero_iff.1 this.symm
    subst hl
    exact ⟨rfl, rfl⟩
  · rw [rootV_fold he hne, foldV_c hne (leavesL_dig d 0 ls), foldV_p hne (leavesL_dig d 0 ls), b, c]
    exact ⟨rfl, rfl⟩
theorem ns_cells {W : World} {g o n c : Nat} {L : List Nd} (h : NS W (some ⟨g, o, none⟩) n c L) {i : Nat} (hi : i < n) {x : Nd} (hx : L[i]? = some x) :
    W.cell? ⟨g, o + i * 34 + 32, none⟩ = some (.int .i64 x.c) ∧ W.cell? ⟨g, o + i * 34 + 33, none⟩ = some (.int .i64 x.p) := by
  obtain ⟨g', o', e, hN, _⟩ := h.at_ (by omega)
  cases e
  have hl := h.len
  have hil : i < L.length := by omega
  have hr := hN i hil
  have hd := h.dig _ (List.getElem_mem hil)
  rw [List.getElem?_eq_getElem hil] at hx
  cases hx
  have g32 := (L[i]).get32 hd
  have g33 := (L[i]).get33 hd
  unfold Nd.arr at g32 g33
  rw [List.getElem?_toArray] at g32 g33
  exact ⟨hr 32 _ g32, hr 33 _ g33⟩
set_option maxRecDepth 100000 in
set_option maxHeartbeats 1000000 in
theorem hidden_big (A : Option Addr) (n c : Nat) (ls : List Ln) (d1 d2 : List UInt8) (w : World) (h : LS w A n c ls) (hT : Tabs w) (hn : 24 < n) :
    Calls Tryd.prog 14 #[.slice A n c, .agg (u8s d1).toArray, .agg (u8s d2).toArray] w fun e w' => e = .returned (.bool true) ∧ Below w.heap.size w w' := by
  have C0 := Lib.hid fun (W : World) (hb : Below w.heap.size w W) => sane41_any W (hT.ext hb)
  have hle := h.le
  have hcap := h.cap
  have t1 : (24 : Int) < (n : Int) := by omega
  have b : Below w.heap.size w ((w.alloc (.cells (u8s d1).toArray 41)).alloc (.cells (u8s d2).toArray 41)) := ((Below.refl _ w).alloc (Nat.le_refl _) _).alloc (by simp) _
  clear h hT
  go_enter Tryd.func14, Tryd.ntmps14
  go_wp2_with fail
  refine (C0.out _ b).mono ?_
  rintro e w1 ⟨rfl, k⟩
  have b := bl b k
  go_wp2_with fail
  go_ret
  exact ⟨rfl, b⟩
set_option maxRecDepth 100000 in
set_option maxHeartbeats 1000000 in
theorem hidden_no (A : Option Addr) (n c : Nat) (ls : List Ln) (d1 d2 : List UInt8) (w : World) (h : LS w A n c ls) (hd1 : d1.length = 32) (hd2 : d2.length = 32) (hT : Tabs w) (hn : n ≤ 24) (hK : ls.all Ln.ok = false) :
    Calls Tryd.prog 14 #[.slice A n c, .agg (u8s d1).toArray, .agg (u8s d2).toArray] w fun e w' => e = .returned (.bool true) ∧ Below w.heap.size w w' := by
  have C0 := Lib.hid fun (W : World) (hb : Below w.heap.size w W) => sane41_any W (hT.ext hb)
  have c1 := fun (W : World) (hb : Below w.heap.size w W) => leaves_any A n c ls d1 W (h.below hb) hd1 (by omega) (hT.ext hb)
  have c2 := fun (W : World) (hb : Below w.heap.size w W) => leaves_any A n c ls d2 W (h.below hb) hd2 (by omega) (hT.ext hb)
  simp only [hK] at c1 c2
  have hle := h.le
  have hcap := h.cap
  have t1 : (n : Int) ≤ (24 : Int) := by omega
  have b : Below w.heap.size w ((w.alloc (.cells (u8s d1).toArray 41)).alloc (.cells (u8s d2).toArray 41)) := ((Below.refl _ w).alloc (Nat.le_refl _) _).alloc (by simp) _
  have hD1 : Blk ((w.alloc (.cells (u8s d1).toArray 41)).alloc (.cells (u8s d2).toArray 41)) w.heap.size 41 (u8s d1).toArray := (Blk.new w 41 (u8s d1).toArray).alloc _
  have hD2 : Blk ((w.alloc (.cells (u8s d1).toArray 41)).alloc (.cells (u8s d2).toArray 41)) (w.heap.size + 1) 41 (u8s d2).toArray := by
    have := Blk.new (w.alloc (.cells (u8s d1).toArray 41)) 41 (u8s d2).toArray
    rwa [World.size_alloc] at this
  have C1 := Lib.hid c1; have C2 := Lib.hid c2
  have H1 := Lib.hid hd1; have H2 := Lib.hid hd2
  clear h hT hK c1 c2 hd1 hd2
  go_enter Tryd.func14, Tryd.ntmps14
  go_wp2_with fail
  generalize (w.alloc (.cells (u8s d1).toArray 41)).alloc (.cells (u8s d2).toArray 41) = w0 at b hD1 hD2 ⊢
  refine (C0.out _ b).mono ?_
  rintro e w1 ⟨rfl, k⟩
  replace b := bl b k
  replace hD1 := hD1.below k hD1.lt
  replace hD2 := hD2.below k hD2.lt
  clear k
  have l1 := ld41_blk hD1 H1.out
  go_wp2_with fail
  refine (C1.out _ b).mono ?_
  rintro e w2 ⟨A1, n1, c1, rfl, -, k⟩
  replace b := bl b k
  replace hD2 := hD2.below k hD2.lt
  clear k l1 hD1
  have l2 := ld41_blk hD2 H2.out
  go_wp2_with fail
  refine (C2.out _ b).mono ?_
  rintro e w3 ⟨A2, n2, c2, rfl, -, k⟩
  replace b := bl b k
  clear k l2 hD2
  go_wp2_with fail
  go_ret
  exact ⟨rfl, b⟩
set_option maxRecDepth 100000 in
set_option maxHeartbeats 2000000 in
theorem hidden_yes (A : Option Addr) (n c : Nat) (ls : List Ln) (d1 d2 : List UInt8) (w : World) (h : LS w A n c ls) (hd1 : d1.length = 32) (hd2 : d2.length = 32) (hT : Tabs w) (hn : n ≤ 24) (hK : ls.all Ln.ok = true) :
    Calls Tryd.prog 14 #[.slice A n c, .agg (u8s d1).toArray, .agg (u8s d2).toArray] w fun e w' => e = .returned (.bool true) ∧ Below w.heap.size w w' := by
  have hl := h.len
  have C0 := Lib.hid fun (W : World) (hb : Below w.heap.size w W) => sane41_any W (hT.ext hb)
  have c1 := fun (W : World) (hb : Below w.heap.size w W) => leaves_any A n c ls d1 W (h.below hb) hd1 (by omega) (hT.ext hb)
  have c2 := fun (W : World) (hb : Below w.heap.size w W) => leaves_any A n c ls d2 W (h.below hb) hd2 (by omega) (hT.ext hb)
  have r1 := leaves_root d1 ls hK (by omega)
  have r2 := leaves_root d2 ls hK (by omega)
  have cr1 := fun (W : World) (A' : Option Addr) (n' c' : Nat) (hb : Below w.heap.size w W) (h' : NS W A' n' c' (leavesL d1 0 ls)) => root_yes A' n' c' _ W h' (hT.ext hb) r1
  have cr2 := fun (W : World) (A' : Option Addr) (n' c' : Nat) (hb : Below w.heap.size w W) (h' : NS W A' n' c' (leavesL d2 0 ls)) => root_yes A' n' c' _ W h' (hT.ext hb) r2
  have e1 := leaves_rootc d1 ls hK (by omega)
  have e2 := leaves_rootc d2 ls hK (by omega)
  have lx := rootV_len (leavesL_dig d1 0 ls)
  have ly := rootV_len (leavesL_dig d2 0 ls)
  have oX := okX _ lx
  have oY := okX _ ly
  have xc := (rootV (leavesL d1 0 ls)).get32 lx
  have xp := (rootV (leavesL d1 0 ls)).get33 lx
  have yc := (rootV (leavesL d2 0 ls)).get32 ly
  have yp := (rootV (leavesL d2 0 ls)).get33 ly
  rw [e1.1] at xc
  rw [e1.2] at xp
  rw [e2.1] at yc
  rw [e2.2] at yp
  have hone : ∀ i (hi : i < ls.length), ls[i].ok = true := fun i hi => (List.all_eq_true.1 hK) _ (List.getElem_mem hi)
  simp only [hK, if_true] at c1 c2
  obtain ⟨X, hX⟩ : ∃ X, (rootV (leavesL d1 0 ls)).arr = X := ⟨_, rfl⟩
  obtain ⟨Y, hY⟩ : ∃ X, (rootV (leavesL d2 0 ls)).arr = X := ⟨_, rfl⟩
  rw [hX] at xc xp oX
  rw [hY] at yc yp oY
  simp only [hX] at cr1
  simp only [hY] at cr2
  obtain ⟨C, hC⟩ : ∃ C, lineC ls = C := ⟨_, rfl⟩
  obtain ⟨P, hP⟩ : ∃ C, lineP ls = C := ⟨_, rfl⟩
  rw [hC] at xc yc
  rw [hP] at xp yp
  have hle := h.le
  have hcap := h.cap
  have t1 : (n : Int) ≤ (24 : Int) := by omega
  have b : Below w.heap.size w ((w.alloc (.cells (u8s d1).toArray 41)).alloc (.cells (u8s d2).toArray 41)) := ((Below.refl _ w).alloc (Nat.le_refl _) _).alloc (by simp) _
  have hD1 : Blk ((w.alloc (.cells (u8s d1).toArray 41)).alloc (.cells (u8s d2).toArray 41)) w.heap.size 41 (u8s d1).toArray := (Blk.new w 41 (u8s d1).toArray).alloc _
  have hD2 : Blk ((w.alloc (.cells (u8s d1).toArray 41)).alloc (.cells (u8s d2).toArray 41)) (w.heap.size + 1) 41 (u8s d2).toArray := by
    have := Blk.new (w.alloc (.cells (u8s d1).toArray 41)) 41 (u8s d2).toArray
    rwa [World.size_alloc] at this
  have C1 := Lib.hid c1; have C2 := Lib.hid c2; have CR1 := Lib.hid cr1; have CR2 := Lib.hid cr2
  have G := Lib.hid (And.intro xc (And.intro xp (And.intro yc yp)))
  have H1 := Lib.hid hd1; have H2 := Lib.hid hd2; have HH := Lib.hid h; have HL := Lib.hid hl; have HO := Lib.hid hone
  clear h hT hK c1 c2 hd1 hd2 cr1 cr2 xc xp yc yp e1 e2 lx ly hX hY hC hP r1 r2 hl hone
  go_enter Tryd.func14, Tryd.ntmps14
  go_wp2_with fail
  generalize (w.alloc (.cells (u8s d1).toArray 41)).alloc (.cells (u8s d2).toArray 41) = w0 at b hD1 hD2 ⊢
  refine (C0.out _ b).mono ?_
  rintro e w1 ⟨rfl, k⟩
  replace b := bl b k
  replace hD1 := hD1.below k hD1.lt
  replace hD2 := hD2.below k hD2.lt
  clear k
  have l1 := ld41_blk hD1 H1.out
  go_wp2_with fail
  refine (C1.out _ b).mono ?_
  rintro e w2 ⟨A1, n1, c1, rfl, hA, k⟩
  replace b := bl b k
  replace hD2 := hD2.below k hD2.lt
  clear k l1 hD1
  have l2 := ld41_blk hD2 H2.out
  go_wp2_with fail
  refine (C2.out _ b).mono ?_
  rintro e w3 ⟨A2, n2, c2, rfl, hB, k⟩
  replace b := bl b k
  replace hA := hA.below k
  clear k l2 hD2
  obtain rfl : n1 = n := by have := hA.len; rw [leavesL_len] at this; have := HL.out; omega
  obtain rfl : n2 = n1 := by have := hB.len; rw [leavesL_len] at this; have := HL.out; omega
  have ha1 := hA.le
  have ha2 := hA.cap
  have hb1 := hB.le
  have hb2 := hB.cap
  have HA := Lib.hid hA
  have HB := Lib.hid hB
  clear hA hB
  go_wp2_with fail
  refine (CR1.out _ _ _ _ b HA.out).mono ?_
  rintro e w4 ⟨rfl, k⟩
  replace b := bl b k
  replace HA := Lib.hid (HA.out.below k)
  replace HB := Lib.hid (HB.out.below k)
  clear k
  go_upto_region 10 with fail
  have hk := (Bk.nil w4).new X
  replace b := b.alloc b.size (.cells X 46)
  have k : Below w4.heap.size w4 (w4.alloc (.cells X 46)) := Below.alloc (Below.refl _ _) (Nat.le_refl _) _
  replace HA := Lib.hid (HA.out.below k)
  replace HB := Lib.hid (HB.out.below k)
  clear k
  obtain ⟨g11, hg11⟩ : ∃ g, w4.heap.size = g := ⟨_, rfl⟩
  rw [hg11] at hk ⊢
  generalize w4.alloc (.cells X 46) = w5 at hk b HA HB ⊢
  clear hg11
  go_wp2_with fail
  refine (CR2.out _ _ _ _ b HB.out).mono ?_
  rintro e w6 ⟨rfl, k⟩
  replace b := bl b k
  replace hk := hk.below k
  replace HA := Lib.hid (HA.out.below k)
  replace HB := Lib.hid (HB.out.below k)
  clear k
  go_upto_region 11 with fail
  replace hk := hk.new Y
  replace b := b.alloc b.size (.cells Y 46)
  have k : Below w6.heap.size w6 (w6.alloc (.cells Y 46)) := Below.alloc (Below.refl _ _) (Nat.le_refl _) _
  replace HA := Lib.hid (HA.out.below k)
  replace HB := Lib.hid (HB.out.below k)
  clear k
  obtain ⟨g13, hg13⟩ : ∃ g, w6.heap.size = g := ⟨_, rfl⟩
  rw [hg13] at hk ⊢
  generalize w6.alloc (.cells Y 46) = w7 at hk b HA HB ⊢
  clear hg13
  go_wp2_with fail
  go_loopw [57] (fun y wr => ∃ i : Nat, i ≤ n2 ∧ y = .int .i64 i ∧ Below w7.heap.size w7 wr) (fun y _ => n2 - (intOf y).toNat)
  case atStart => exact ⟨0, by omega, rfl, Below.refl _ _⟩
  case round =>
    obtain ⟨i, hi, rfl, hbr⟩ := hrel
    by_cases hlt : i < n2
    · have hlt' : (i : Int) < n2 := by omega
      have i0 : (0 : Int) ≤ i := by omega
      have hil : i < ls.length := by rw [HL.out]; exact hlt
      have hbw := bl b hbr
      obtain ⟨g, o, rfl, hN, hg⟩ := ((HH.out).below hbw).at_ (by omega)
      obtain ⟨ga, oa, rfl, _, _⟩ := ((HA.out).below hbr).at_ (by omega)
      obtain ⟨gb, ob, rfl, _, _⟩ := ((HB.out).below hbr).at_ (by omega)
      have na := ns_cells ((HA.out).below hbr) hlt (leavesL_get d1 0 ls i hil)
      have nb := ns_cells ((HB.out).below hbr) hlt (leavesL_get d2 0 ls i hil)
      have hc := hN i hil
      have hok := Ln.ok_parts (HO.out i hil)
      obtain ⟨l, hle2⟩ : ∃ l, ls[i] = l := ⟨_, rfl⟩
      rw [hle2] at hc na nb hok
      have q := mul_bd hok.2.2.2.2.1 hok.2.2.2.2.2.1 hok.2.2.2.2.2.2.1
      have c3 : wr.cell? ⟨g, o + i * 5 + 3, none⟩ = some (.int .i64 l.cr) := hc 3 _ rfl
      have c4 : wr.cell? ⟨g, o + i * 5 + 2, none⟩ = some (.int .i64 l.gr) := hc 2 _ rfl
      have a1 : wr.cell? ⟨ga, oa + i * 34 + 32, none⟩ = some (.int .i64 l.cr) := na.1
      have a2 : wr.cell? ⟨ga, oa + i * 34 + 33, none⟩ = some (.int .i64 (l.gr * l.cr)) := na.2
      have b1 : wr.cell? ⟨gb, ob + i * 34 + 32, none⟩ = some (.int .i64 l.cr) := nb.1
      have b2 : wr.cell? ⟨gb, ob + i * 34 + 33, none⟩ = some (.int .i64 (l.gr * l.cr)) := nb.2
      obtain ⟨P9, hP9⟩ : ∃ P, l.gr * l.cr = P := ⟨_, rfl⟩
      have hw : IntKind.i64.wrap (l.cr * l.gr) = P9 := by rw [Int.mul_comm, hP9, IntWalk.i64_in _ (by omega)]
      rw [hP9] at a2 b2
      obtain ⟨R9, hR9⟩ : ∃ R, l.cr = R := ⟨_, rfl⟩
      obtain ⟨T9, hT9⟩ : ∃ R, l.gr = R := ⟨_, rfl⟩
      rw [hR9] at a1 b1 c3 hw
      rw [hT9] at c4 hw
      clear na nb hc hok q hP9 hR9 hT9 hle2 hN hbw
      go_upto_region 14 with fail
      go_region_held3 (fun W => W.cell? ⟨g, o + i * 5 + 3, none⟩ = some (.int .i64 R9) ∧ W.cell? ⟨g, o + i * 5 + 2, none⟩ = some (.int .i64 T9) ∧ W.cell? ⟨ga, oa + i * 34 + 32, none⟩ = some (.int .i64 R9) ∧ W.cell? ⟨ga, oa + i * 34 + 33, none⟩ = some (.int .i64 P9) ∧ W.cell? ⟨gb, ob + i * 34 + 32, none⟩ = some (.int .i64 R9) ∧ W.cell? ⟨gb, ob + i * 34 + 33, none⟩ = some (.int .i64 P9))
        (exact ⟨c3, c4, a1, a2, b1, b2⟩) (fail)
      go_wp2_with fail
      go_roundw
      case rel => exact ⟨i + 1, by omega, by go_num, hbr.drew⟩
      case measure => simp [intOf]; omega
    · obtain rfl : i = n2 := by omega
      replace hk := hk.below hbr
      replace b := bl b hbr
      have c1 : wr.cell? ⟨g11, 32, none⟩ = some (.int .i64 C) := ((hk (g11, X) (by simp)).cell 32).trans G.out.1
      have c2 : wr.cell? ⟨g11, 33, none⟩ = some (.int .i64 P) := ((hk (g11, X) (by simp)).cell 33).trans G.out.2.1
      have c3 : wr.cell? ⟨g13, 32, none⟩ = some (.int .i64 C) := ((hk (g13, Y) (by simp)).cell 32).trans G.out.2.2.1
      have c4 : wr.cell? ⟨g13, 33, none⟩ = some (.int .i64 P) := ((hk (g13, Y) (by simp)).cell 33).trans G.out.2.2.2
      go_wp2_with fail
      go_ret
      exact ⟨rfl, b⟩
/-- TreeHidden, of whatever comes in. -/
theorem hidden_walk (A : Option Addr) (n c : Nat) (ls : List Ln) (d1 d2 : List UInt8) (w : World) (h : LS w A n c ls) (hd1 : d1.length = 32) (hd2 : d2.length = 32) (hT : Tabs w) :
    Calls Tryd.prog 14 #[.slice A n c, .agg (u8s d1).toArray, .agg (u8s d2).toArray] w fun e w' => e = .returned (.bool true) ∧ Below w.heap.size w w' := by
  by_cases hn : n ≤ 24
  · cases hK : ls.all Ln.ok
    · exact hidden_no A n c ls d1 d2 w h hd1 hd2 hT hn hK
    · exact hidden_yes A n c ls d1 d2 w h hd1 hd2 hT hn hK
  · exact hidden_big A n c ls d1 d2 w h hT (by omega)
end Go.Proofs.YtedokiemlkccaaaDoor
