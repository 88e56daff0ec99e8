/- Check and root of the reference of tree. -/
import Derived.Test.YtedokiemlkccaaaDoorFD
set_option linter.all false
namespace Go.Proofs.YtedokiemlkccaaaDoor
open Go.RowKit
open Go.RowKit Go.Shelf
attribute [local go_sem] Oper.semAt_some
attribute [local go_sem ↓] ld46_in st46_in bs46_in bd46_in
attribute [local go_sem] st_new st_any sl_one sl_two sl_three
theorem ns_load {W : World} {g o n c : Nat} {L : List Nd} (h : NS W (some ⟨g, o, none⟩) n c L) {i : Nat} (hi : i < n) {x : Nd} (hx : L[i]? = some x) :
    (ld46 ⟨g, o + i * 34, none⟩).run Tryd.prog W = .ok (.agg x.arr) W := by
  obtain ⟨g', o', e, hN, _⟩ := h.at_ (by omega)
  cases e
  have hl := h.len
  have hil : i < L.length := by omega
  have hr := hN i hil
  have hd := h.dig _ (List.getElem_mem hil)
  rw [List.getElem?_eq_getElem hil] at hx
  cases hx
  exact ld_range hr (Nd.len _ hd)
set_option maxRecDepth 100000 in
set_option maxHeartbeats 1000000 in
/-- Check of the reference. -/
theorem rchk_any (A : Option Addr) (n c : Nat) (ns : List Nd) (w : World) (h : NS w A n c ns) : Calls Tryd.prog 85 #[.slice A n c] w fun e w' => e = .returned (.int .i64 (if rootE ns then 0 else 410)) ∧ Below w.heap.size w w' := by
  have hle := h.le
  have hcap := h.cap
  have hl := h.len
  obtain ⟨R, hR⟩ : ∃ R : Int, (if rootE ns then 0 else 410) = R := ⟨_, rfl⟩
  rw [hR]
  by_cases hn : n ≤ 4096
  · have t1 : ¬ (4096 : Int) < (n : Int) := by omega
    have hbad : ∀ i (hi : i < ns.length), (ns[i]).ok = false → R = 410 := fun i hi h => by
      rw [← hR]
      have : rootE ns = false := by
        unfold rootE validB
        have : ns.all Nd.ok = false := by
          rw [Bool.eq_false_iff]
          intro h2
          rw [List.all_eq_true] at h2
          rw [h2 ns[i] (List.getElem_mem _)] at h
          cases h
        rw [this, Bool.false_and, Bool.and_false]
      rw [this]; rfl
    have hgood : ns.all Nd.ok = true → R = if 1073741824 < sumC ns then 410 else 0 := fun ha => by
      rw [← hR]
      unfold rootE validB
      rw [ha, decide_eq_true (show ns.length ≤ 4096 by omega), Bool.true_and, Bool.true_and]
      by_cases q : 1073741824 < sumC ns
      · rw [if_pos q, decide_eq_false (by omega)]; rfl
      · rw [if_neg q, decide_eq_true (by omega)]; rfl
    have HH := Lib.hid h; have HL := Lib.hid hl; have HB := Lib.hid hbad; have HG := Lib.hid hgood
    clear h hl hbad hgood hR
    go_enter Tryd.func85, Tryd.ntmps85
    go_wp2_with fail
    go_loopw [3, 4] (fun x y wr => ∃ i : Nat, i ≤ n ∧ x = .int .i64 (sumC (ns.take i)) ∧ y = .int .i64 i ∧ Below w.heap.size w wr ∧ Hid ((ns.take i).all Nd.ok = true)) (fun _ y _ => n - (intOf y).toNat)
    case atStart => exact ⟨0, by omega, rfl, rfl, Below.refl _ _, Lib.hid rfl⟩
    case round =>
      obtain ⟨i, hi, rfl, rfl, hB, hall⟩ := hrel
      by_cases hlt : i < n
      · have hlt' : (i : Int) < n := by omega
        have i0 : (0 : Int) ≤ i := by omega
        have hil : i < ns.length := by rw [HL.out]; exact hlt
        obtain ⟨g, o, rfl, _, _⟩ := ((HH.out).below hB).at_ (by omega)
        have l0 := ns_load ((HH.out).below hB) hlt (List.getElem?_eq_getElem hil)
        have cc := (ns_cells ((HH.out).below hB) hlt (List.getElem?_eq_getElem hil)).1
        have hd := (HH.out).dig _ (List.getElem_mem hil)
        have hst := sumC_take ns i hil
        have hbd := sumC_bd (ns.take i) hall.out
        rw [List.length_take] at hbd
        have hta : (ns.take (i + 1)).all Nd.ok = (ns[i]).ok := by
          rw [List.take_succ_eq_append_getElem hil, List.all_append, hall.out]; simp
        have hbi := HB.out i hil
        obtain ⟨x, hx⟩ : ∃ x, ns[i] = x := ⟨_, rfl⟩
        rw [hx] at l0 cc hd hst hta hbi
        have cV := fun (W : World) => rvalid_any x W hd
        have hpo : x.ok = true → 0 ≤ x.c ∧ x.c ≤ 1073741824 := fun h => ⟨(Nd.ok_parts h).1, (Nd.ok_parts h).2.1⟩
        obtain ⟨X, hX⟩ : ∃ X, x.arr = X := ⟨_, rfl⟩
        rw [hX] at l0
        simp only [hX] at cV
        obtain ⟨K, hK⟩ : ∃ K, x.ok = K := ⟨_, rfl⟩
        simp only [hK] at cV hta hbi hpo
        obtain ⟨C, hC⟩ : ∃ C, x.c = C := ⟨_, rfl⟩
        rw [hC] at cc hst hpo
        obtain ⟨S, hS⟩ : ∃ S, sumC (ns.take i) = S := ⟨_, rfl⟩
        rw [hS] at hst hbd ⊢
        have hb0 : 0 ≤ S := hbd.1
        have hb1 : S ≤ 107374182400000 := by have := hbd.2; omega
        have CV := Lib.hid cV; have HST := Lib.hid hst; have HTA := Lib.hid hta; have HBI := Lib.hid hbi; have HPO := Lib.hid hpo
        clear hd hst hbd hta hbi cV hX hK hC hS hx hpo
        go_wp2_with fail
        refine (CV.out _).mono ?_
        rintro e w2 ⟨rfl, k⟩
        have b2 := bl hB k
        have c2 : w2.cell? ⟨g, o + i * 34 + 32, none⟩ = some (.int .i64 C) := (k.cell (p := ⟨g, o + i * 34 + 32, none⟩) (World.block_lt_of_cell? _ _ cc)).trans cc
        clear l0 cc k hB
        cases K
        · have hr : R = 410 := by have := HBI.out; simpa using this
          have HR := Lib.hid hr
          clear hr
          go_wp2_with fail
          go_ret
          exact ⟨by rw [HR.out]; rfl, b2⟩
        · have hp : 0 ≤ C ∧ C ≤ 1073741824 := by have := HPO.out; simpa using this
          have hw : IntKind.i64.wrap (S + C) = S + C := IntWalk.i64_in _ (by omega)
          clear hp
          go_wp2_with fail
          go_roundw
          case rel => exact ⟨i + 1, by omega, by rw [HST.out], by go_num, b2, HTA⟩
          case measure => simp [intOf]; omega
      · obtain rfl : i = n := by omega
        rw [List.take_of_length_le (by have := HL.out; omega)] at hall ⊢
        have hr := HG.out hall.out
        obtain ⟨S, hS⟩ : ∃ S, sumC ns = S := ⟨_, rfl⟩
        rw [hS] at hr ⊢
        by_cases q : 1073741824 < S
        · rw [if_pos q] at hr
          have HR := Lib.hid hr
          clear hr hS
          go_wp2_with fail
          go_ret
          exact ⟨by rw [HR.out]; rfl, hB⟩
        · rw [if_neg q] at hr
          have HR := Lib.hid hr
          clear hr hS
          go_wp2_with fail
          go_ret
          exact ⟨by rw [HR.out]; rfl, hB⟩
  · have t1 : (4096 : Int) < (n : Int) := by omega
    have hr : R = 410 := by
      rw [← hR]; unfold rootE; rw [decide_eq_false (by omega), Bool.false_and]; rfl
    subst hr
    clear h hl hR
    go_enter Tryd.func85, Tryd.ntmps85
    go_wp2_with fail
    go_ret
    exact ⟨rfl, Below.refl _ _⟩
open Go.RowKit Go.Shelf
attribute [local go_sem] Oper.semAt_some
attribute [local go_sem ↓] ld46_in st46_in bs46_in bd46_in
attribute [local go_sem] st_new st_any sl_one sl_two sl_three
/-- what root of the reference gives. -/
def rtV (ns : List Nd) : Nd := if ns.length = 0 then ⟨tagB sumS [], 0, 0⟩ else foldV ns
theorem rtV_len {ns : List Nd} (hd : ∀ x ∈ ns, x.d.length = 32) : (rtV ns).d.length = 32 := by
  unfold rtV
  split
  · exact tagB_length _ _
  · exact foldV_len (fun e => by subst e; simp at *) hd
theorem rootV_rtV {ns : List Nd} (h : rootE ns = true) : rootV ns = rtV ns := by unfold rootV rtV; rw [if_pos h]
theorem bd46_dig (d : List UInt8) (hd : d.length = 32) (w : World) : (bd46 #[(0, .agg (u8s d).toArray)]).run Tryd.prog w = .ok (.agg (Nd.arr ⟨d, 0, 0⟩)) w := build46_0 d hd w
/-- what the last statement but one of root keeps. -/
abbrev SQ (w : World) (gR : Nat) (W : World) : Prop := Below w.heap.size w W ∧ Blk W gR 46 nd0.arr
theorem sq_next {w W W' : World} {gR : Nat} (h : SQ w gR W) (k : Below W.heap.size W W') : SQ w gR W' := ⟨bl h.1 k, h.2.below k h.2.lt⟩
theorem sq_alloc {w W : World} {gR : Nat} (h : SQ w gR W) (o : Obj) : SQ w gR (W.alloc o) := sq_next h (Below.alloc (Below.refl _ W) (Nat.le_refl _) o)
theorem sq_row {w W : World} {gR b : Nat} (h : SQ w gR W) (hb : gR < b) (hw : w.heap.size ≤ gR) (X : Array Value) : SQ w gR (W.setRow b X) := ⟨below_setRow h.1 (by omega) _, (setRow_other _ _ _ _ (by omega)).trans h.2⟩
set_option maxRecDepth 100000 in
set_option maxHeartbeats 1000000 in
theorem rroot_none (A : Option Addr) (c : Nat) (w : World) : Calls Tryd.prog 86 #[.slice A (0 : Nat) c] w fun e w' => e = .returned (.agg (Nd.arr ⟨tagB sumS [], 0, 0⟩)) ∧ Below w.heap.size w w' := by
  have htl : (tagB sumS []).length = 32 := tagB_length _ _
  have hct := fun (W : World) => rtagged_any sumS none 0 0 [] W (by decide) (bs_nil0 W) (by omega)
  have hbd := fun W => bd46_dig (tagB sumS []) htl W
  have oX := okX ⟨tagB sumS [], 0, 0⟩ htl
  obtain ⟨X, hX⟩ : ∃ X, Nd.arr ⟨tagB sumS [], 0, 0⟩ = X := ⟨_, rfl⟩
  rw [hX] at oX ⊢
  simp only [hX] at hbd
  obtain ⟨es, hes⟩ : ∃ es, (u8s (tagB sumS [])).toArray = es := ⟨_, rfl⟩
  simp only [hes] at hct hbd
  have HCT := Lib.hid (show ∀ (W : World), Calls Tryd.prog 77 #[.string ⟨#[115, 117, 109]⟩, .slice none 0 0] W fun e w' => e = .returned (.agg es) ∧ Below W.heap.size W w' from hct)
  have hk := Blk.new w 46 nd0.arr
  have b := (Below.refl _ w).alloc (Nat.le_refl _) (.cells nd0.arr 46)
  clear hct hX hes htl
  go_enter Tryd.func86, Tryd.ntmps86
  go_upto_region 1 with fail
  generalize hW0 : w.alloc (Obj.cells _ 46) = W1
  have hzz : w.alloc (.cells nd0.arr 46) = W1 := hW0
  rw [hzz] at hk b
  clear hW0 hzz
  obtain ⟨g2, hg2⟩ : ∃ g, w.heap.size = g := ⟨_, rfl⟩
  rw [hg2] at hk ⊢
  have HG := Lib.hid hg2
  clear hg2
  go_wp2_with fail
  refine (HCT.out _).mono ?_
  rintro e w2 ⟨rfl, k⟩
  have b2 := bl b k
  have hat : At46 w2 g2 := ⟨nd0.arr, hk.below k hk.lt, rfl⟩
  have hR := at46_set hat X
  have bR : Below w.heap.size w (w2.setRow g2 X) := below_setRow b2 (Nat.le_of_eq HG.out) _
  have HR := Lib.hid hR
  clear hR k
  go_wp2_with fail
  refine bodyPost_ret (v := .agg X) ?_ rfl ⟨rfl, bR⟩
  exact results_cell_row (p := 2) (ty := 46) rfl _ _ g2 46 X (0, 0) _ rfl HR.out Tryd.underlying46 rfl (by rw [oX.1]; exact size46)
set_option maxRecDepth 100000 in
set_option maxHeartbeats 1000000 in
theorem rroot_one (g o c : Nat) (x : Nd) (w : World) (h : NS w (some ⟨g, o, none⟩) 1 c [x]) : Calls Tryd.prog 86 #[.slice (some ⟨g, o, none⟩) (1 : Nat) c] w fun e w' => e = .returned (.agg x.arr) ∧ Below w.heap.size w w' := by
  have hd : x.d.length = 32 := h.dig x (by simp)
  have oX := okX x hd
  have hle := h.le
  have hcap := h.cap
  have hk := Blk.new w 46 nd0.arr
  have b := (Below.refl _ w).alloc (Nat.le_refl _) (.cells nd0.arr 46)
  have l0 := ns_load (h.below b) (i := 0) (by omega) rfl
  rw [Nat.zero_mul, Nat.add_zero] at l0
  obtain ⟨X, hX⟩ : ∃ X, x.arr = X := ⟨_, rfl⟩
  rw [hX] at oX l0 ⊢
  clear h hX hd
  go_enter Tryd.func86, Tryd.ntmps86
  go_upto_region 1 with fail
  generalize hW0 : w.alloc (Obj.cells _ 46) = W1
  have hzz : w.alloc (.cells nd0.arr 46) = W1 := hW0
  rw [hzz] at hk b l0
  clear hW0 hzz
  obtain ⟨g2, hg2⟩ : ∃ g, w.heap.size = g := ⟨_, rfl⟩
  rw [hg2] at hk ⊢
  have HG := Lib.hid hg2
  clear hg2
  have hat : At46 W1 g2 := ⟨nd0.arr, hk, rfl⟩
  have hR := at46_set hat X
  have bR : Below w.heap.size w (W1.setRow g2 X) := below_setRow b (Nat.le_of_eq HG.out) _
  have HR := Lib.hid hR
  clear hR hk
  go_wp2_with fail
  refine bodyPost_ret (v := .agg X) ?_ rfl ⟨rfl, bR⟩
  exact results_cell_row (p := 2) (ty := 46) rfl _ _ g2 46 X (0, 0) _ rfl HR.out Tryd.underlying46 rfl (by rw [oX.1]; exact size46)
set_option maxRecDepth 100000 in
set_option maxHeartbeats 4000000 in
theorem rroot_two (g o c k h : Nat) (L R X : Array Value) (w : World) (hk : 2 ≤ k) (hk9 : k ≤ 4096) (hh : halfN k = h) (hc : k ≤ c) (hc9 : c ≤ 9223372036854775807) (oX : OkX X)
    (hL : ∀ W, Below w.heap.size w W → Calls Tryd.prog 86 #[.slice (some ⟨g, o, none⟩) h c] W fun e w' => e = .returned (.agg L) ∧ Below W.heap.size W w')
    (hR : ∀ W, Below w.heap.size w W → Calls Tryd.prog 86 #[.slice (some ⟨g, o + h * 34, none⟩) (k - h : Nat) (c - h : Nat)] W fun e w' => e = .returned (.agg R) ∧ Below W.heap.size W w')
    (hJ : ∀ W, Below w.heap.size w W → Calls Tryd.prog 45 #[.agg L, .agg R] W fun e w' => ∃ E : Int, e = .returned (.tuple #[.agg X, .int .i64 E]) ∧ Below W.heap.size W w') :
    Calls Tryd.prog 86 #[.slice (some ⟨g, o, none⟩) k c] w fun e w' => e = .returned (.agg X) ∧ Below w.heap.size w w' := by
  have h1 := half_spec hk
  rw [hh] at h1
  have HHalf := Lib.hid fun W => hh ▸ rhalf_any k W (by omega)
  have HL := Lib.hid hL; have HR := Lib.hid hR; have HJ := Lib.hid hJ
  have hkk := Blk.new w 46 nd0.arr
  have b := (Below.refl _ w).alloc (Nat.le_refl _) (.cells nd0.arr 46)
  have hsz : (w.alloc (.cells nd0.arr 46)).heap.size = w.heap.size + 1 := by simp
  have d0 : ((k : Int) == 0) = false := by simp; omega
  have d1 : ((k : Int) == 1) = false := by simp; omega
  have i0 : (0 : Int) ≤ (h : Int) := by omega
  have i1 : (h : Int) ≤ (k : Int) := by omega
  have i2 : (h : Int) ≤ (c : Int) := by omega
  have i3 : (k : Int) ≤ (c : Int) := by omega
  have d3 : (c = h) = False := eq_false (by omega)
  clear hL hR hJ hh
  go_enter Tryd.func86, Tryd.ntmps86
  go_upto_region 1 with fail
  generalize hW0 : w.alloc (Obj.cells _ 46) = W1
  have hzz : w.alloc (.cells nd0.arr 46) = W1 := hW0
  rw [hzz] at hkk b hsz
  clear hW0 hzz
  obtain ⟨g2, hg2⟩ : ∃ g, w.heap.size = g := ⟨_, rfl⟩
  rw [hg2] at hkk hsz ⊢
  have hgw : w.heap.size ≤ g2 := Nat.le_of_eq hg2
  have hgl : g2 < W1.heap.size := by omega
  clear hg2 hsz
  go_wp2_with fail
  refine (HHalf.out _).mono ?_
  rintro e w2 ⟨rfl, rfl⟩
  go_upto_region 6 with fail
  have s0 : SQ w g2 W1.drew := ⟨b.drew, hkk⟩
  clear b hkk
  go_region_held3 (fun W => Below w.heap.size w W ∧ Blk W g2 46 nd0.arr)
    (first | exact s0 | exact sL | exact sR | exact sJ | exact sq_alloc sJ _ | exact sq_alloc sR _ | exact sq_alloc sL _ | exact sq_alloc s0 _ | exact sq_row sJ (Nat.lt_of_lt_of_le hgl nJ.2) hgw _)
    (first | (go_at_call_of 86 (Value.slice (some ⟨g, o, none⟩) h c); refine (HL.out _ (‹_ ∧ Blk _ g2 46 nd0.arr›).1).mono ?_; rintro e wL ⟨rfl, kL⟩; have sL : SQ w g2 wL := sq_next (‹_ ∧ Blk _ g2 46 nd0.arr›) kL; (first | have nL : At46 wL W1.heap.size ∧ W1.heap.size ≤ W1.heap.size := And.intro (at46_of rfl (below_undrew kL)) (Nat.le_refl _) | skip)) | (go_at_call 86; refine (HR.out _ (‹_ ∧ Blk _ g2 46 nd0.arr›).1).mono ?_; rintro e wR ⟨rfl, kR⟩; have sR : SQ w g2 wR := sq_next (‹_ ∧ Blk _ g2 46 nd0.arr›) kR; (first | have nR := And.intro (at46_keep nL.1 kR) nL.2 | have nR : At46 wR wL.heap.size ∧ W1.heap.size ≤ wL.heap.size := And.intro (at46_of rfl kR) (below_undrew kL).size | skip)) | (go_at_call 45; refine (HJ.out _ (‹_ ∧ Blk _ g2 46 nd0.arr›).1).mono ?_; rintro e wJ ⟨E, rfl, kJ⟩; have sJ : SQ w g2 wJ := sq_next (‹_ ∧ Blk _ g2 46 nd0.arr›) kJ; (first | have nJ := And.intro (at46_keep nR.1 kJ) nR.2 | have nJ : At46 wJ wR.heap.size ∧ W1.heap.size ≤ wR.heap.size := And.intro (at46_of rfl kJ) (Nat.le_trans (below_undrew kL).size kR.size) | skip)))
  all_goals (
    first
    | (have hb9 := Blk.new wJ 46 X
       have k9 := sq_alloc sJ (.cells X 46)
       have hg9 : g2 < wJ.heap.size := sJ.2.lt
       obtain ⟨b9, hb9e⟩ : ∃ b, wJ.heap.size = b := ⟨_, rfl⟩
       rw [hb9e] at hb9 hg9 ⊢
       generalize wJ.alloc (.cells X 46) = W9 at hb9 k9 ⊢)
    | (have hb9 := at46_set nJ.1 X
       have k9 := sq_row sJ (Nat.lt_of_lt_of_le hgl nJ.2) hgw X
       have hg9 := Nat.lt_of_lt_of_le hgl nJ.2
       obtain ⟨b9, hb9e⟩ : ∃ b, wR.heap.size = b := ⟨_, rfl⟩
       rw [hb9e] at hb9 hg9 k9 ⊢
       generalize wJ.setRow b9 X = W9 at hb9 k9 ⊢)
    | (have hb9 := at46_set nJ.1 X
       have k9 := sq_row sJ (Nat.lt_of_lt_of_le hgl nJ.2) hgw X
       have hg9 := Nat.lt_of_lt_of_le hgl nJ.2
       obtain ⟨b9, hb9e⟩ : ∃ b, wL.heap.size = b := ⟨_, rfl⟩
       rw [hb9e] at hb9 hg9 k9 ⊢
       generalize wJ.setRow b9 X = W9 at hb9 k9 ⊢)
    | (have hb9 := at46_set nJ.1 X
       have k9 := sq_row sJ (Nat.lt_of_lt_of_le hgl nJ.2) hgw X
       have hg9 := Nat.lt_of_lt_of_le hgl nJ.2
       generalize wJ.setRow W1.heap.size X = W9 at hb9 k9 ⊢
       obtain ⟨b9, hb9e⟩ : ∃ b, W1.heap.size = b := ⟨_, rfl⟩
       rw [hb9e] at hb9 hg9 ⊢))
  all_goals (
    have l9 := ld_blk hb9 oX
    have hat : At46 W9 g2 := ⟨nd0.arr, k9.2, rfl⟩
    have hR := at46_set hat X
    have bR : Below w.heap.size w (W9.setRow g2 X) := below_setRow k9.1 hgw _
    have HR' := Lib.hid hR
    clear hR hb9 k9 sJ sR sL s0 HL HR HJ hg9
    go_wp2_with fail
    refine bodyPost_ret (v := .agg X) ?_ rfl ⟨rfl, bR⟩
    exact results_cell_row (p := 2) (ty := 46) rfl _ _ g2 46 X (0, 0) _ rfl HR'.out Tryd.underlying46 rfl (by rw [oX.1]; exact size46))
/-- root of the reference. -/
theorem rroot_any : ∀ (m : Nat) (A : Option Addr) (n c : Nat) (ns : List Nd) (w : World), n ≤ m → n ≤ 4096 → NS w A n c ns → validB ns = true → Calls Tryd.prog 86 #[.slice A n c] w fun e w' => e = .returned (.agg (rtV ns).arr) ∧ Below w.heap.size w w'
  | m, A, n, c, ns, w, hm, h9, h, hv => by
    have hl := h.len
    by_cases h2 : 2 ≤ n
    · match m, hm with
      | 0, hm => omega
      | m + 1, hm =>
        have hs := half_spec h2
        have hle := h.le
        obtain ⟨g, o, rfl, _, _⟩ := h.at_ (by omega)
        have l1 : (ns.take (halfN n)).length = halfN n := by rw [List.length_take]; omega
        have l2 : (ns.drop (halfN n)).length = n - halfN n := by rw [List.length_drop]; omega
        have n1 : ns.take (halfN n) ≠ [] := ne_len (by omega)
        have n2 : ns.drop (halfN n) ≠ [] := ne_len (by omega)
        have sp := validB_split (halfN n) hv
        have e1 : rtV (ns.take (halfN n)) = foldV (ns.take (halfN n)) := by unfold rtV; rw [if_neg (by omega)]
        have e2 : rtV (ns.drop (halfN n)) = foldV (ns.drop (halfN n)) := by unfold rtV; rw [if_neg (by omega)]
        have e : rtV ns = joinV (rtV (ns.take (halfN n))) (rtV (ns.drop (halfN n))) := by
          rw [e1, e2]
          unfold rtV
          rw [if_neg (by omega), foldV_two (by omega), hl]
        have hvj : validB [rtV (ns.take (halfN n)), rtV (ns.drop (halfN n))] = true := by
          rw [e1, e2]
          exact foldV_join n1 n2 (by rw [List.take_append_drop]; exact h.dig) (by rw [List.take_append_drop]; exact hv)
        have dl : (rtV (ns.take (halfN n))).d.length = 32 := rtV_len (fun x hx => h.dig x (List.mem_of_mem_take hx))
        have dr : (rtV (ns.drop (halfN n))).d.length = 32 := rtV_len (fun x hx => h.dig x (List.mem_of_mem_drop hx))
        have hJ := fun (W : World) (hb : Below w.heap.size w W) => (rjoin_yes _ _ W dl dr hvj).mono (fun e w' (q : _ ∧ _) => (⟨0, q.1, q.2⟩ : ∃ E : Int, e = .returned (.tuple #[.agg (joinV (rtV (ns.take (halfN n))) (rtV (ns.drop (halfN n)))).arr, .int .i64 E]) ∧ Below W.heap.size W w'))
        rw [← e] at hJ
        exact rroot_two g o c n (halfN n) _ _ _ w h2 h9 rfl hle h.cap (okX _ (rtV_len h.dig))
          (fun W hb => rroot_any m _ _ c _ W (by omega) (by omega) (ns_left (h.below hb) hs.1 (by omega)) sp.1)
          (fun W hb => rroot_any m _ _ _ _ W (by omega) (by omega) (ns_right (h.below hb) (by omega)) sp.2)
          hJ
    · match ns, hl with
      | [], hl => subst hl; exact rroot_none A c w
      | [x], hl =>
        subst hl
        obtain ⟨g, o, rfl, _, _⟩ := h.at_ (by simp)
        have e : rtV [x] = x := by unfold rtV; rw [if_neg (by simp), foldV_one]
        rw [e]
        exact rroot_one g o c x w h
      | _ :: _ :: _, hl => simp at hl; omega
end Go.Proofs.YtedokiemlkccaaaDoor
