/- The walk of Verify and Private; what is signed is accepted. -/
import Derived.Test.YtedokiemlkccaaaDoorN
import Derived.Outline
import Derived.Deep.DeepCutAuto
import Derived.Deep.RegionHeld3
import Derived.Deep.AppendSrc
import Derived.Laws.CopyOwn
import Derived.Lib.AppendZeros
namespace Go.Proofs.YtedokiemlkccaaaDoor
open Go.RowKit
theorem eqItems_step (xs ys : Array Value) (i : Nat) (is : List Nat) (x y : Int) (r : Bool) (W : World) (d : Nat) (hx : xs[i * 1]? = some (.int .i64 x)) (hy : ys[i * 1]? = some (.int .i64 y))
    (ih : (Op.eqItems (d + 1) 25 1 xs ys is).run Tryd.prog W = .ok r W) : (Op.eqItems (d + 1) 25 1 xs ys (i :: is)).run Tryd.prog W = .ok ((x == y) && r) W := by
  have pk : Tryd.prog.plainKey 25 = true := by kernel_rfl
  simp only [Op.eqItems, Sem.run_bind, run_part_plain W pk hx, run_part_plain W pk hy, run_equalIn_int W d 25 .i64 .i64 _ _ Tryd.underlying25, Result.andThen_ok]
  cases hr : x == y
  · simp only [Bool.not_false, if_true, Bool.false_and]; rfl
  · simp only [Bool.not_true, Bool.false_eq_true, if_false, Bool.true_and, ih]
theorem info25 : (Tryd.prog.info? 25).map (fun i => (i.zero, i.size, i.bytes)) = some (some (.int .i64 0), 1, 8) := by kernel_rfl
theorem eq_three (a b c : Int) (W : World) :
    (Op.equalIn 10000 117 (.agg #[.int .i64 a, .int .i64 b, .int .i64 c]) (.agg #[.int .i64 0, .int .i64 0, .int .i64 0])).run Tryd.prog W = .ok (a == 0 && (b == 0 && (c == 0 && true))) W := by
  obtain ⟨i, hi, _⟩ := info_parts info25
  have h1 := run_equalIn_array (P := Tryd.prog) W 9999 #[.int .i64 a, .int .i64 b, .int .i64 c] #[.int .i64 0, .int .i64 0, .int .i64 0] Tryd.underlying117 hi
  have hc : Tryd.prog.cellsOf 25 = 1 := by kernel_rfl
  rw [hc] at h1
  have e0 : (Op.eqItems (9998 + 1) 25 1 #[.int .i64 a, .int .i64 b, .int .i64 c] #[.int .i64 0, .int .i64 0, .int .i64 0] []).run Tryd.prog W = .ok true W := rfl
  exact h1.trans (eqItems_step _ _ 0 [1, 2] a 0 _ W 9998 rfl rfl (eqItems_step _ _ 1 [2] b 0 _ W 9998 rfl rfl (eqItems_step _ _ 2 [] c 0 _ W 9998 rfl rfl e0)))
theorem err_all (p R S : Int) : ((errG p == 0) && ((errG R == 0) && ((scalE S 0 == 0) && true))) = (elemB p && elemB R && scalB S) := by
  have h0 : scalB 0 = true := scalB_mk (by omega)
  unfold errG scalE
  rw [h0, Bool.and_true]
  cases elemB p <;> cases elemB R <;> cases scalB S <;> rfl
theorem sign_no (x : Int) (A : Option Addr) (n c : Nat) (w : World) (hx : keyB x = false) :
    Calls Tryd.prog 24 #[.int .i64 x, .slice A n c] w fun e w' => e = .returned (.tuple #[.agg #[.int .i64 0, .int .i64 0], .int .i64 40]) ∧ Below w.heap.size w w' := by
  have c0 := fun W => valid_any x W
  rw [hx] at c0
  have C0 := Lib.hid c0
  clear c0 hx
  go_enter Tryd.func24, Tryd.ntmps24
  go_wp2_with fail
  refine (C0.out _).mono ?_
  rintro e w1 ⟨rfl, rfl⟩
  go_upto_region 4 with fail
  have hS0 : Blk (w.alloc (.cells #[.int .i64 0, .int .i64 0] 29)) w.heap.size 29 #[.int .i64 0, .int .i64 0] := Blk.new _ _ _
  have hb0 : Below w.heap.size w (w.alloc (.cells #[.int .i64 0, .int .i64 0] 29)) := (Below.refl _ w).alloc (Nat.le_refl _) _
  generalize w.alloc (.cells #[.int .i64 0, .int .i64 0] 29) = w1 at hS0 hb0 ⊢
  have c0 := hS0.cell 0
  have c1 := hS0.cell 1
  have f0 := hS0.frozen 0
  have f1 := hS0.frozen 1
  go_wp2_with fail
  have hS2 : Blk ((w1.setCell ⟨w.heap.size, 0, none⟩ (.int .i64 0)).setCell ⟨w.heap.size, 1, none⟩ (.int .i64 0)) w.heap.size 29 #[.int .i64 0, .int .i64 0] := (hS0.set_ 0 _).set_ 1 _
  have hb2 := (hb0.setCell (p := ⟨w.heap.size, 0, none⟩) (Nat.le_refl _) (.int .i64 0)).setCell (p := ⟨w.heap.size, 1, none⟩) (Nat.le_refl _) (.int .i64 0)
  generalize (w1.setCell ⟨w.heap.size, 0, none⟩ (.int .i64 0)).setCell ⟨w.heap.size, 1, none⟩ (.int .i64 0) = w2 at hS2 hb2 ⊢
  refine bodyPost_ret (v := .tuple #[.agg #[.int .i64 0, .int .i64 0], .int .i64 40]) ?_ rfl ⟨rfl, hb2⟩
  exact results_sig hS2 rfl rfl
theorem vscal_any (a : Int) (w : World) : Calls Tryd.prog 102 #[.int .i64 a] w fun e w' => e = .returned (.int .i64 (scalE a 0)) ∧ Below w.heap.size w w' := by
  have C := Lib.hid (gsum_any a 0 w)
  go_enter Tryd.func102, Tryd.ntmps102
  go_wp2_with fail
  refine C.out.mono ?_
  rintro e w1 ⟨rfl, b1⟩
  go_wp2_with fail
  go_ret
  exact ⟨rfl, b1⟩
/-- what Verify returns. -/
def verV (p R S : Int) (l : List UInt8) : Bool := elemB p && elemB R && scalB S && decide (expV 4 S = mulV R (expV p (chV p R l)))
/-- what is held of a signature's block while a region runs. -/
theorem vh_next {w W W' : World} {R S : Int} (h : W.cell? ⟨w.heap.size, 0, none⟩ = some (.int .i64 R) ∧ W.cell? ⟨w.heap.size, 1, none⟩ = some (.int .i64 S) ∧ Below w.heap.size w W ∧ Blk W w.heap.size 29 #[.int .i64 R, .int .i64 S]) (b : Below W.heap.size W W') :
    W'.cell? ⟨w.heap.size, 0, none⟩ = some (.int .i64 R) ∧ W'.cell? ⟨w.heap.size, 1, none⟩ = some (.int .i64 S) ∧ Below w.heap.size w W' ∧ Blk W' w.heap.size 29 #[.int .i64 R, .int .i64 S] := by
  have h1 := h.2.2.2.below b h.2.2.2.lt
  exact ⟨h1.cell 0, h1.cell 1, bl h.2.2.1 b, h1⟩
theorem vh_alloc {w W : World} {R S : Int} (h : W.cell? ⟨w.heap.size, 0, none⟩ = some (.int .i64 R) ∧ W.cell? ⟨w.heap.size, 1, none⟩ = some (.int .i64 S) ∧ Below w.heap.size w W ∧ Blk W w.heap.size 29 #[.int .i64 R, .int .i64 S]) (o : Obj) :
    (W.alloc o).cell? ⟨w.heap.size, 0, none⟩ = some (.int .i64 R) ∧ (W.alloc o).cell? ⟨w.heap.size, 1, none⟩ = some (.int .i64 S) ∧ Below w.heap.size w (W.alloc o) ∧ Blk (W.alloc o) w.heap.size 29 #[.int .i64 R, .int .i64 S] :=
  ⟨(h.2.2.2.alloc o).cell 0, (h.2.2.2.alloc o).cell 1, h.2.2.1.alloc h.2.2.1.size o, h.2.2.2.alloc o⟩
theorem vh_set {w W : World} {R S : Int} {g : Nat} (hg : w.heap.size < g) (h : W.cell? ⟨w.heap.size, 0, none⟩ = some (.int .i64 R) ∧ W.cell? ⟨w.heap.size, 1, none⟩ = some (.int .i64 S) ∧ Below w.heap.size w W ∧ Blk W w.heap.size 29 #[.int .i64 R, .int .i64 S]) (i : Nat) (v : Value) :
    (W.setCell ⟨g, i, none⟩ v).cell? ⟨w.heap.size, 0, none⟩ = some (.int .i64 R) ∧ (W.setCell ⟨g, i, none⟩ v).cell? ⟨w.heap.size, 1, none⟩ = some (.int .i64 S) ∧ Below w.heap.size w (W.setCell ⟨g, i, none⟩ v) ∧ Blk (W.setCell ⟨g, i, none⟩ v) w.heap.size 29 #[.int .i64 R, .int .i64 S] := by
  have h1 := h.2.2.2.far (p := ⟨g, i, none⟩) (Nat.ne_of_lt hg) v
  exact ⟨h1.cell 0, h1.cell 1, h.2.2.1.setCell (p := ⟨g, i, none⟩) (Nat.le_of_lt hg) v, h1⟩
def z3 : Array Value := #[.int .i64 0, .int .i64 0, .int .i64 0]
/-- a new block lies as it was made. -/
def Fresh (w W : World) (g : Nat) : Prop := Blk W g 117 z3 ∧ w.heap.size < g
theorem vh_sets {w W : World} {R S : Int} {g : Nat} (hg : Fresh w W g) (h : W.cell? ⟨w.heap.size, 0, none⟩ = some (.int .i64 R) ∧ W.cell? ⟨w.heap.size, 1, none⟩ = some (.int .i64 S) ∧ Below w.heap.size w W ∧ Blk W w.heap.size 29 #[.int .i64 R, .int .i64 S]) (a b c : Value) :
    (((W.setCell ⟨g, 0, none⟩ a).setCell ⟨g, 1, none⟩ b).setCell ⟨g, 2, none⟩ c).cell? ⟨w.heap.size, 0, none⟩ = some (.int .i64 R) ∧ (((W.setCell ⟨g, 0, none⟩ a).setCell ⟨g, 1, none⟩ b).setCell ⟨g, 2, none⟩ c).cell? ⟨w.heap.size, 1, none⟩ = some (.int .i64 S) ∧ Below w.heap.size w (((W.setCell ⟨g, 0, none⟩ a).setCell ⟨g, 1, none⟩ b).setCell ⟨g, 2, none⟩ c) ∧ Blk (((W.setCell ⟨g, 0, none⟩ a).setCell ⟨g, 1, none⟩ b).setCell ⟨g, 2, none⟩ c) w.heap.size 29 #[.int .i64 R, .int .i64 S] :=
  vh_set hg.2 (vh_set hg.2 (vh_set hg.2 h 0 a) 1 b) 2 c
theorem vh_back {w W : World} {R S : Int} {o : Obj} (hne : ∀ cs, o ≠ .cells cs 29 (0, 0)) (h : (W.alloc o).cell? ⟨w.heap.size, 0, none⟩ = some (.int .i64 R) ∧ (W.alloc o).cell? ⟨w.heap.size, 1, none⟩ = some (.int .i64 S) ∧ Below w.heap.size w (W.alloc o) ∧ Blk (W.alloc o) w.heap.size 29 #[.int .i64 R, .int .i64 S]) :
    W.cell? ⟨w.heap.size, 0, none⟩ = some (.int .i64 R) ∧ W.cell? ⟨w.heap.size, 1, none⟩ = some (.int .i64 S) ∧ Below w.heap.size w W ∧ Blk W w.heap.size 29 #[.int .i64 R, .int .i64 S] := by
  have hlt : w.heap.size < W.heap.size := by
    have h1 := h.2.2.2.lt
    rw [World.size_alloc] at h1
    by_cases e : w.heap.size = W.heap.size
    · have h2 : (W.alloc o).heap[w.heap.size]? = some (.cells #[.int .i64 R, .int .i64 S] 29 (0, 0)) := h.2.2.2
      rw [e, heap_new W o] at h2
      exact absurd (Option.some.inj h2) (hne _)
    · omega
  have hB : Blk W w.heap.size 29 #[.int .i64 R, .int .i64 S] := (Below.heap_alloc W o _ hlt).symm.trans h.2.2.2
  exact ⟨hB.cell 0, hB.cell 1, ⟨h.2.2.1.os, h.2.2.1.tape, h.2.2.1.output, Nat.le_of_lt hlt, fun k hk => (Below.heap_alloc W o k (by omega)).symm.trans (h.2.2.1.block k hk)⟩, hB⟩
theorem vh_realloc {w W : World} {R S : Int} {cs : Array Value} (h : (W.alloc (.cells cs 117)).cell? ⟨w.heap.size, 0, none⟩ = some (.int .i64 R) ∧ (W.alloc (.cells cs 117)).cell? ⟨w.heap.size, 1, none⟩ = some (.int .i64 S) ∧ Below w.heap.size w (W.alloc (.cells cs 117)) ∧ Blk (W.alloc (.cells cs 117)) w.heap.size 29 #[.int .i64 R, .int .i64 S]) (o : Obj) :
    (W.alloc o).cell? ⟨w.heap.size, 0, none⟩ = some (.int .i64 R) ∧ (W.alloc o).cell? ⟨w.heap.size, 1, none⟩ = some (.int .i64 S) ∧ Below w.heap.size w (W.alloc o) ∧ Blk (W.alloc o) w.heap.size 29 #[.int .i64 R, .int .i64 S] :=
  vh_alloc (vh_back (fun _ e => by cases e) h) o
theorem vh_mid {w W : World} {R S : Int} (h : W.cell? ⟨w.heap.size, 0, none⟩ = some (.int .i64 R) ∧ W.cell? ⟨w.heap.size, 1, none⟩ = some (.int .i64 S) ∧ Below w.heap.size w W ∧ Blk W w.heap.size 29 #[.int .i64 R, .int .i64 S]) : Below w.heap.size w W ∧ Blk W w.heap.size 29 #[.int .i64 R, .int .i64 S] := h.2.2
theorem fresh_set {w W : World} {g : Nat} (h : Fresh w W g) (a b c : Value) : Blk (((W.setCell ⟨g, 0, none⟩ a).setCell ⟨g, 1, none⟩ b).setCell ⟨g, 2, none⟩ c) g 117 #[a, b, c] := ((h.1.set_ 0 a).set_ 1 b).set_ 2 c
theorem vh_lt {w W : World} {R S : Int} (h : W.cell? ⟨w.heap.size, 0, none⟩ = some (.int .i64 R) ∧ W.cell? ⟨w.heap.size, 1, none⟩ = some (.int .i64 S) ∧ Below w.heap.size w W ∧ Blk W w.heap.size 29 #[.int .i64 R, .int .i64 S]) : w.heap.size < W.heap.size := h.2.2.2.lt
theorem fresh_next {w W W' : World} {g : Nat} (h : Fresh w W g) (b : Below W.heap.size W W') : Fresh w W' g := ⟨h.1.below b h.1.lt, h.2⟩
theorem fresh_new {w W W' : World} {R S : Int} (h : (W.alloc (.cells z3 117)).cell? ⟨w.heap.size, 0, none⟩ = some (.int .i64 R) ∧ (W.alloc (.cells z3 117)).cell? ⟨w.heap.size, 1, none⟩ = some (.int .i64 S) ∧ Below w.heap.size w (W.alloc (.cells z3 117)) ∧ Blk (W.alloc (.cells z3 117)) w.heap.size 29 #[.int .i64 R, .int .i64 S])
    (b : Below (W.alloc (.cells z3 117)).heap.size (W.alloc (.cells z3 117)) W') : Fresh w W' W.heap.size := ⟨(Blk.new W 117 z3).below b (by simp), (vh_back (fun _ e => by cases e) h).2.2.2.lt⟩
theorem fresh_new2 {w W W' : World} {R S : Int} (h : (W.alloc (.cells z3 117)).drew.cell? ⟨w.heap.size, 0, none⟩ = some (.int .i64 R) ∧ (W.alloc (.cells z3 117)).drew.cell? ⟨w.heap.size, 1, none⟩ = some (.int .i64 S) ∧ Below w.heap.size w (W.alloc (.cells z3 117)).drew ∧ Blk (W.alloc (.cells z3 117)).drew w.heap.size 29 #[.int .i64 R, .int .i64 S])
    (b : Below (W.alloc (.cells z3 117)).drew.heap.size (W.alloc (.cells z3 117)).drew W') : Fresh w W' W.heap.size :=
  fresh_new (W := W.drew) (R := R) (S := S) h b
theorem fresh_cells {w W : World} {g : Nat} (h : Fresh w W g) : W.cell? ⟨g, 0, none⟩ = some (.int .i64 0) ∧ W.cell? ⟨g, 1, none⟩ = some (.int .i64 0) ∧ W.cell? ⟨g, 2, none⟩ = some (.int .i64 0) ∧
    W.frozen? ⟨g, 0, none⟩ = false ∧ W.frozen? ⟨g, 1, none⟩ = false ∧ W.frozen? ⟨g, 2, none⟩ = false ∧ Fresh w W g :=
  ⟨h.1.cell 0, h.1.cell 1, h.1.cell 2, h.1.frozen 0, h.1.frozen 1, h.1.frozen 2, h⟩
theorem fresh_of {w W : World} {g : Nat} (h : W.cell? ⟨g, 0, none⟩ = some (.int .i64 0) ∧ W.cell? ⟨g, 1, none⟩ = some (.int .i64 0) ∧ W.cell? ⟨g, 2, none⟩ = some (.int .i64 0) ∧
    W.frozen? ⟨g, 0, none⟩ = false ∧ W.frozen? ⟨g, 1, none⟩ = false ∧ W.frozen? ⟨g, 2, none⟩ = false ∧ Fresh w W g) : Fresh w W g := h.2.2.2.2.2.2
set_option maxRecDepth 100000 in
set_option maxHeartbeats 8000000 in
theorem verify_any (p R S : Int) (A : Option Addr) (n c : Nat) (l : List UInt8) (w : World) (h : BS w A n c l) (hn : n ≤ 1000) (hT : Tabs w) :
    Calls Tryd.prog 63 #[.int .i64 p, .slice A n c, .agg #[.int .i64 R, .int .i64 S]] w fun e w' => e = .returned (.bool (verV p R S l)) ∧ Below w.heap.size w w' := by
  have HT := Lib.hid hT
  have HM := Lib.hid h
  have CK := Lib.hid fun a W => check_any a W
  have CV := Lib.hid fun W => vscal_any S W
  clear h hT
  go_enter Tryd.func63, Tryd.ntmps63
  go_upto_region 1 with fail
  have hS : Blk (w.alloc (.cells #[.int .i64 R, .int .i64 S] 29)) w.heap.size 29 #[.int .i64 R, .int .i64 S] := Blk.new _ _ _
  have hb : Below w.heap.size w (w.alloc (.cells #[.int .i64 R, .int .i64 S] 29)) := (Below.refl _ w).alloc (Nat.le_refl _) _
  generalize w.alloc (.cells #[.int .i64 R, .int .i64 S] 29) = w1 at hS hb ⊢
  have c0 : w1.cell? ⟨w.heap.size, 0, none⟩ = some (.int .i64 R) := hS.cell 0
  have c1 : w1.cell? ⟨w.heap.size, 1, none⟩ = some (.int .i64 S) := hS.cell 1
  go_cut [7] (fun x wx => ∃ g, x = .pointer (some ⟨g, 0, none⟩) ∧ Blk wx g 117 #[.int .i64 (errG p), .int .i64 (errG R), .int .i64 (scalE S 0)] ∧ Below w.heap.size w wx ∧ Blk wx w.heap.size 29 #[.int .i64 R, .int .i64 S])
  case first =>
    go_region_held3 (fun W => W.cell? ⟨w.heap.size, 0, none⟩ = some (.int .i64 R) ∧ W.cell? ⟨w.heap.size, 1, none⟩ = some (.int .i64 S) ∧ Below w.heap.size w W ∧ Blk W w.heap.size 29 #[.int .i64 R, .int .i64 S])
      (first | exact ⟨c0, c1, below_drewN hb 1, hS⟩ | exact vh_alloc (by assumption) _ | exact vh_realloc (by assumption) _ | exact vh_sets (fresh_of (by assumption)) (by assumption) _ _ _ | exact vh_next (by assumption) (by assumption))
      (first
        | (go_at_call 102; refine (CV.out _).mono ?_; rintro e w7 ⟨rfl, b7⟩; (first | (have hz := fresh_cells (fresh_next (w := w) (by assumption) b7)) | (have hz := fresh_cells (fresh_new (R := R) (S := S) (by assumption) b7)) | skip))
        | (go_at_call 39; refine (CK.out _ _).mono ?_; rintro e w5 ⟨rfl, b5⟩; (first | (have hz := fresh_next (w := w) (by assumption) b5) | skip); (first | (have hz := fresh_new (R := R) (S := S) (by assumption) b5) | (have hz := fresh_new2 (R := R) (S := S) (by assumption) b5) | skip)))
    all_goals
      go_wp2_with fail
      go_meet
      first
        | exact ⟨_, rfl, Blk.new _ _ _, vh_mid (R := R) (S := S) (by assumption)⟩
        | exact ⟨_, rfl, fresh_set (fresh_of (by assumption)) _ _ _, vh_mid (R := R) (S := S) (by assumption)⟩
  case rest =>
    obtain ⟨g, rfl, hG, hb2, hS2⟩ := hcut
    have g0 := hG.cell 0
    have g1 := hG.cell 1
    have g2 := hG.cell 2
    have heq := eq_three (errG p) (errG R) (scalE S 0) wc
    rw [err_all] at heq
    have c0 := hS2.cell 0
    have c1 := hS2.cell 1
    clear hG hS hb CK CV
    by_cases hall : (elemB p && elemB R && scalB S) = true
    · rw [hall] at heq
      have hv : verV p R S l = decide (expV 4 S = mulV R (expV p (chV p R l))) := by unfold verV; rw [hall, Bool.true_and]
      simp only [Bool.and_eq_true] at hall
      obtain ⟨⟨hp, hR⟩, hsS⟩ := hall
      have hch : scalB (chV p R l) = true := scalN_scal _
      obtain ⟨ch, hche⟩ : ∃ ch, chV p R l = ch := ⟨_, rfl⟩
      rw [hche] at hch hv
      have hxp := exp_elem hp hch
      obtain ⟨y, hy⟩ : ∃ y, expV p ch = y := ⟨_, rfl⟩
      have C38 := Lib.hid fun W => (hy ▸ exp_el hp hch W : Calls Tryd.prog 38 #[.int .i64 p, .int .i64 ch] W fun e w' => e = .returned (.tuple #[.int .i64 y, .int .i64 0]) ∧ Below W.heap.size W w')
      rw [hy] at hxp hv
      obtain ⟨z, hz⟩ : ∃ z, mulV R y = z := ⟨_, rfl⟩
      have C37 := Lib.hid fun W => (hz ▸ mul_el hR hxp.1 W : Calls Tryd.prog 37 #[.int .i64 R, .int .i64 y] W fun e w' => e = .returned (.tuple #[.int .i64 z, .int .i64 0]) ∧ Below W.heap.size W w')
      obtain ⟨v, hve⟩ : ∃ v, expV 4 S = v := ⟨_, rfl⟩
      have C28 := Lib.hid fun W => (hve ▸ base_yes hsS W : Calls Tryd.prog 28 #[.int .i64 S] W fun e w' => e = .returned (.tuple #[.int .i64 v, .int .i64 0]) ∧ Below W.heap.size W w')
      have CH2 := Lib.hid fun (W : World) (g : Nat) (hb : Below w.heap.size w W) (hg : Blk W g 3 #[.int .i64 R, .int .i64 p]) =>
        ((show ((scalN (tagB signS (numB R ++ numB p ++ l)) : Nat) : Int) = ch from hche) ▸ hash2 signS A n c g l R p W (by decide) ((HM.out).below hb) hn hg ((HT.out).ext hb) :
          Calls Tryd.prog 67 #[.string ⟨signS.toArray⟩, .slice A n c, .slice (some ⟨g, 0, none⟩) 2 2] W fun e w' => e = .returned (.int .i64 ch) ∧ Below W.heap.size W w')
      rw [hz, hve] at hv
      have HV := Lib.hid hv
      clear hv hp hR hsS hch hche hxp hy hz hve
      go_wp2_with fail
      refine (C28.out _).mono ?_
      rintro e w3 ⟨rfl, hb3⟩
      have hS3 := hS2.below hb3 hS2.lt
      have hb3 := bl hb2 hb3
      have c0 := hS3.cell 0
      clear hS2 hb2 g0 g1 g2 heq c1
      go_upto_region 5 with fail
      go_wp2_with fail
      have hX4 : Blk (w3.alloc (.cells #[.int .i64 R, .int .i64 p] 3)) w3.heap.size 3 #[.int .i64 R, .int .i64 p] := Blk.new _ _ _
      have hS4 := hS3.alloc (.cells #[.int .i64 R, .int .i64 p] 3)
      have hb4 := hb3.alloc hb3.size (.cells #[.int .i64 R, .int .i64 p] 3)
      refine (CH2.out _ _ hb4 hX4).mono ?_
      rintro e w5 ⟨rfl, hb5⟩
      have hS5 := hS4.below hb5 hS4.lt
      have hb5 := bl hb4 hb5
      clear hX4 hS4 hb4 hS3 hb3 c0
      go_wp2_with fail
      refine (C38.out _).mono ?_
      rintro e w6 ⟨rfl, hb6⟩
      have hS6 := hS5.below hb6 hS5.lt
      have hb6 := bl hb5 hb6
      have c0 := hS6.cell 0
      clear hS5 hb5
      go_wp2_with fail
      refine (C37.out _).mono ?_
      rintro e w7 ⟨rfl, hb7⟩
      have hb7 := bl hb6 hb7
      go_wp2_with fail
      go_ret
      refine ⟨?_, hb7⟩
      rw [HV.out]
      exact ret_bool (show (v == z) = decide (v = z) by by_cases h : v = z <;> simp [h])
    · have hf : (elemB p && elemB R && scalB S) = false := Bool.eq_false_iff.2 hall
      have hv : verV p R S l = false := by unfold verV; rw [hf, Bool.false_and]
      rw [hf] at heq
      have HV := Lib.hid hv
      clear hv hf hall
      go_wp2_with fail
      go_ret
      exact ⟨by rw [HV.out]; rfl, hb2⟩
theorem byteCells_u8s (s : List UInt8) : byteCells ⟨s.toArray⟩ = u8s s := rfl
/-- append(b, s...), s a string, b the call's own. -/
theorem append_str (w : World) (ty : TypeId) (B n : Nat) (v : Value) (l1 s : List UInt8) (hown : w.ownsRow B 5 1 v n (u8s l1)) (h0 : 0 < n) (hsum : n + s.length ≤ 100000000) (hbase : B ≤ w.heap.size) :
    ∃ v' w', (Builtin.append_ #[22, 9] ty #[v, .string ⟨s.toArray⟩]).run Tryd.prog w = .ok v' w' ∧ w'.ownsRow B 5 1 v' (n + s.length) (u8s (l1 ++ s)) ∧ w.grownBy w' v.ownBlock := by
  obtain ⟨i0, hi, hz, hsize, hby⟩ := info_parts info5
  have hl : (u8s (l1 ++ s)).length = (n + s.length) * 1 := by
    have := hown.1
    rw [u8s_length] at this ⊢
    rw [List.length_append]; omega
  have hsrc : Src Tryd.prog i0.size 9 (.string ⟨s.toArray⟩) s.length (u8s s) w := by
    rw [hsize]; exact Src.ofString w Tryd.underlying9 ⟨s.toArray⟩
  rcases hown.2 with ⟨_, h⟩ | ⟨g, cap, cur, rfl, hbg, hg, hnc, hcm, hcs, htake⟩
  · omega
  · have hlx : (u8s l1).length = n := by have := hown.1; omega
    by_cases hroom : n + s.length ≤ cap
    · have hst := run_storeCells_at Tryd.prog g n 5 (u8s s) 0 cur w hg (by rw [u8s_length]; omega) (u8s_one s)
      have hf : (Builtin.firstCells i0.size s.length (.string ⟨s.toArray⟩)).run Tryd.prog w = .ok (u8s s).toArray w := hsrc.cells
      have hr : (Builtin.append_ #[22, 9] ty #[.slice (some ⟨g, 0, none⟩) n cap, .string ⟨s.toArray⟩]).run Tryd.prog w = .ok (.slice (some ⟨g, 0, none⟩) (n + s.length) cap) (w.setRow g (cur.toList.take n ++ u8s s ++ cur.toList.drop (n + (u8s s).length)).toArray) := by
        rw [hsize] at hf
        simp only [Nat.add_zero] at hst
        simp [Builtin.append_, run_underlying Tryd.underlying22, run_underlying Tryd.underlying9, sizeOf, typeInfo, hi, hsize, hsrc.len, hroom, hf, Addr.add_lit, hst]
      refine ⟨_, _, hr, ⟨hl, .inr ⟨g, cap, _, rfl, hbg, setRow_heap w g cur _ 5 _ hg, hroom, hcm, ?_, ?_⟩⟩, ⟨rfl, rfl, rfl, by simp, fun k _ hk => setRow_other w g k _ (fun e => hk (by simp [Value.ownBlock, e]))⟩⟩
      · simp only [List.size_toArray, List.length_append, List.length_take, List.length_drop, Array.length_toList, u8s_length]
        omega
      · have ht : cur.toList.take n = u8s l1 := by simpa using htake
        rw [ht, u8s_append]
        rw [u8s_append] at hl
        simp only [List.append_assoc]
        rw [← List.append_assoc, ← hl]
        exact List.take_left
    · have hold : (Builtin.firstCells i0.size n (.slice (some ⟨g, 0, none⟩) n cap)).run Tryd.prog w.drew = .ok (u8s l1).toArray w.drew := by
        rw [hsize]
        exact run_firstCells_some w.drew 1 n ⟨g, 0, none⟩ n cap (u8s l1) (by omega) (fun j u hu => hown.cells (g := g) rfl j u hu)
      have hr := run_append_grow_src (P := Tryd.prog) w 22 9 ty 5 i0 (.int .u8 0) Tryd.underlying22 hi hz (some ⟨g, 0, none⟩) n cap (u8s l1) hold (.string ⟨s.toArray⟩) s.length (u8s s) hsrc (by omega) (by omega)
        (growslice_fits (by omega) (by rw [hby]; omega))
      have hge := grownCap_ge w (n + s.length) cap 5
      have hcm2 : grownCap w (n + s.length) cap 5 ≤ maxLen := grownCap_le_maxLen w _ _ 5 (by unfold maxLen; omega)
      refine ⟨_, _, hr, ⟨hl, .inr ⟨w.heap.size, _, _, rfl, hbase, heap_new w.drew _, hge, hcm2, ?_, ?_⟩⟩, ⟨rfl, rfl, rfl, by simp, fun k hk _ => Below.heap_alloc w.drew _ k hk⟩⟩
      · rw [Array.size_append, size_zeroCells, List.size_toArray, ← u8s_append, hl]
        show _ + _ * 1 = _ * 1
        omega
      · rw [← u8s_append, Array.toList_append, ← hl]
        exact List.take_left
def privS : List UInt8 := [112, 114, 105, 118, 97, 116, 101]
/-- the private key that a seed determines. -/
def privV (d lab : List UInt8) (z : Int) : Int := (scalN (tagB privS (d ++ numB z ++ lab)) : Nat)
set_option maxRecDepth 100000 in
theorem private_any (d lab : List UInt8) (z : Int) (w : World) (hd : d.length = 32) (hlab : lab.length ≤ 1000) (hT : Tabs w) :
    Calls Tryd.prog 61 #[.agg (u8s d).toArray, .string ⟨lab.toArray⟩, .int .i64 z] w fun e w' => e = .returned (.int .i64 (privV d lab z)) ∧ Below w.heap.size w w' := by
  have hsz : (u8s d).toArray.size = 32 := by rw [List.size_toArray, u8s_length, hd]
  obtain ⟨ar, har⟩ : ∃ ar, (u8s d).toArray = ar := ⟨_, rfl⟩
  have HAR := Lib.hid har
  rw [har] at hsz ⊢
  clear har
  go_enter Tryd.func61, Tryd.ntmps61
  go_upto_region 1 with fail
  have hD : Blk (w.alloc (.cells ar 41)) w.heap.size 41 (u8s d).toArray := by rw [HAR.out]; exact Blk.new _ _ _
  have hb : Below w.heap.size w (w.alloc (.cells ar 41)) := (Below.refl _ w).alloc (Nat.le_refl _) _
  generalize w.alloc (.cells ar 41) = w1 at hD hb ⊢
  have hD2 := hD.alloc (.cells #[] 5)
  have hb2 := hb.alloc hb.size (.cells #[] 5)
  have hown : (w1.alloc (.cells #[] 5)).ownsRow w.heap.size 5 1 (.slice (some ⟨w1.heap.size, 0, none⟩) 0 0) 0 (u8s []) := World.ownsRow_made w1 #[] 0 hb.size (by unfold maxLen; omega) rfl
  have hbs : BS (w1.alloc (.cells #[] 5)) (some ⟨w.heap.size, 0, none⟩) 32 32 d := ⟨hd, by omega, by omega, fun e => (by cases e), fun _ => ⟨_, 0, rfl, ⟨fun i hi => by
    rw [Nat.zero_add, hD2.cell i, List.getElem?_toArray]; exact u8s_get _ _ hi, fun _ => hD2.lt⟩⟩⟩
  clear hD hD2 hsz
  go_wp2_with (at_builtin; refine wpList_append_bs rfl (.tmp 9) (.tmp 10) rfl w.heap.size 0 32 32 _ _ _ _ rfl rfl hown hbs (by omega) hb2.size ?_)
  intro v3 w3 ho3 hb3
  have hb3 := hb3 _ hb2
  clear hown hbs hb2 hb
  go_wp2_with fail
  go_loopw [8, 7] (fun x v wq => ∃ j : Nat, j ≤ 8 ∧ x = .int .i64 (56 - 8 * (j : Int)) ∧ Below w.heap.size w wq ∧ wq.ownsRow w.heap.size 5 1 v (32 + j) (u8s (d ++ (numB z).take j))) (fun x _ _ => (intOf x + 8).toNat)
  case atStart => exact ⟨0, by omega, rfl, hb3, by rw [List.take_zero, List.append_nil]; exact ho3⟩
  case round =>
    obtain ⟨j, hj, rfl, hB, hown⟩ := hrel
    by_cases hlt : j < 8
    · have e0 : 0 ≤ 56 - 8 * (j : Int) := by omega
      have e1 : 56 - 8 * (j : Int) ≤ 56 := by omega
      have e2 : (56 - 8 * (j : Int)).toNat = 56 - 8 * j := by omega
      have hbb := num_byte z j hlt
      have htb := numB_byte z j hlt
      obtain ⟨b, hbe⟩ : ∃ b, UInt8.ofNat ((z % 18446744073709551616).toNat / 256 ^ (7 - j)) = b := ⟨_, rfl⟩
      rw [hbe] at hbb htb
      have HTB := Lib.hid htb
      have hbs : BS (wr.alloc (.cells #[.int .u8 (IntKind.u64.wrap z / 2 ^ (56 - 8 * j) % 256)] 5)) (some ⟨wr.heap.size, 0, none⟩) 1 1 [b] :=
        ⟨rfl, by omega, by omega, fun e => (by cases e), fun _ => ⟨_, 0, rfl, ⟨fun i hi => by
          have : i = 0 := by simp at hi; omega
          subst this
          exact (cell_of_row _ _ 0 _ 5 (0, 0) (heap_new wr _)).trans (by rw [hbb]; rfl), fun _ => by simp⟩⟩⟩
      have hB1 := hB.alloc hB.size (.cells #[.int .u8 (IntKind.u64.wrap z / 2 ^ (56 - 8 * j) % 256)] 5)
      have hown1 := hown.alloc (.cells #[.int .u8 (IntKind.u64.wrap z / 2 ^ (56 - 8 * j) % 256)] 5)
      clear hbe htb hbb hown
      go_wp2_with (at_builtin; refine wpList_append_bs rfl (.tmp 16) (.tmp 22) rfl w.heap.size (32 + j) 1 1 _ _ _ [b] rfl rfl hown1 hbs (by omega) hB1.size ?_)
      intro v2 w2 hown2 hb2
      have hB2 := hb2 _ hB1
      clear hb2 hown1 hB1
      go_wp2_with fail
      go_roundw
      case rel =>
        refine ⟨j + 1, by omega, by go_num, hB2, ?_⟩
        rw [HTB.out]
        exact hown2
      case measure => simp [intOf]; omega
    · obtain rfl : j = 8 := by omega
      have e0 : ¬ 0 ≤ 56 - 8 * ((8 : Nat) : Int) := by decide
      rw [List.take_of_length_le (l := numB z) (by rw [numB_length]; omega)] at hown
      obtain ⟨v4, w4, hr, ho4, hg4⟩ := append_str wr 22 w.heap.size 40 _ _ lab hown (by omega) (by omega) hB.size
      have hb4 : Below w.heap.size w w4 := hB.grown hg4 hB.size (fun k e => (hown.lt k e).1)
      obtain ⟨A5, c5, rfl, hs5⟩ := ownsRow_bs ho4 (by omega)
      have cs := scalar_any privS A5 (40 + lab.length) c5 (d ++ numB z ++ lab) w4 (by decide) hs5 (by omega) (hT.ext hb4)
      rw [show ((scalN (tagB privS (d ++ numB z ++ lab)) : Nat) : Int) = privV d lab z from rfl] at cs
      have CS := Lib.hid cs
      clear cs ho4 hs5 hg4
      go_wp2_with (at_builtin; refine Lib.wpList_append_run _ rfl _ _ _ _ rfl _ _ rfl rfl _ _ hr ?_)
      refine CS.out.mono ?_
      rintro e w6 ⟨rfl, hb6⟩
      go_wp2_with fail
      go_ret
      exact ⟨rfl, bl hb4 hb6⟩
theorem prod_comm (a b : Int) : prodV a b = prodV b a := by
  unfold prodV; rw [Bool.and_comm, Int.mul_comm]
theorem sig_ok {x : Int} (hx : keyB x = true) (l : List UInt8) : scalB (nonceV x l) = true ∧ elemB (expV 4 x) = true ∧ elemB (sigR x l) = true ∧ scalB (chV (expV 4 x) (sigR x l) l) = true ∧ scalB (sigS x l) = true := by
  have hk : scalB (nonceV x l) = true := scalN_scal _
  have hc : scalB (chV (expV 4 x) (sigR x l) l) = true := scalN_scal _
  refine ⟨hk, (exp_elem e4 (key_scal hx)).1, ?_, hc, ?_⟩
  · unfold sigR; exact (exp_elem e4 hk).1
  · unfold sigS; exact (sum_scal hk (prod_scal hc (key_scal hx)).1).1
theorem ver_mk {p R S : Int} {l : List UInt8} (hp : elemB p = true) (hR : elemB R = true) (hS : scalB S = true) (h : expV 4 S = mulV R (expV p (chV p R l))) : verV p R S l = true := by
  unfold verV; simp [hp, hR, hS, h]
theorem sig_eq {x k c : Int} (hx : keyB x = true) (hk : scalB k = true) (hc : scalB c = true) : expV 4 (sumV k (prodV c x)) = mulV (expV 4 k) (expV (expV 4 x) c) := by
  rw [← exp_prod e4 (key_scal hx) hc, prod_comm, exp_sum e4 hk (prod_scal (key_scal hx) hc).1]
/-- what is signed is accepted. -/
theorem ver_sign {x : Int} (hx : keyB x = true) (l : List UInt8) : verV (expV 4 x) (sigR x l) (sigS x l) l = true := by
  obtain ⟨hk, hp, hR, hc, hS⟩ := sig_ok hx l
  exact ver_mk hp hR hS (sig_eq hx hk hc)
theorem minus_back {k m : Int} (hk : scalB k = true) (hm : scalB m = true) : sumV (sumV k m) (prodV 2305843009213688668 m) = k := by
  have h1 := sum_scal hk hm
  have h2 := prod_scal (show scalB 2305843009213688668 = true from scalB_mk (by omega)) hm
  rw [(sum_scal h1.1 h2.1).2.1, h1.2.1, h2.2.1]
  have hk' := scalB_true hk
  rw [Int.emod_add_emod, Int.add_emod_emod, show k + m + 2305843009213688668 * m = k + 2305843009213688669 * m by omega, Int.add_mul_emod_self_left]
  exact Int.emod_eq_of_lt hk'.1 hk'.2
end Go.Proofs.YtedokiemlkccaaaDoor
