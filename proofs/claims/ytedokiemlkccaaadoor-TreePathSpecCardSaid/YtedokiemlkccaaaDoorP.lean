/- The walk of group.power: a range over the iterator of the binary digits; it returns the power modulo P, and nothing that lay in memory has changed. -/
import Derived.Test.YtedokiemlkccaaaDoorU
import Derived.Test.YtedokiemlkccaaaDoorGrp
import Derived.RangeFuncNested
import Derived.RangeFuncBound
import Derived.RangeFuncCalls
import Derived.RangeFuncLeaves
import Derived.Shelf.Abstract
import Derived.Shelf.RegionOpen
import Derived.WalkKit
import Derived.OwnWalkIn
import Derived.TacticsInMore
import Derived.LoopNIn
import Derived.LoopIn
set_option linter.all false
namespace Go.Proofs.YtedokiemlkccaaaDoor
open Go.RowKit Go.Shelf
attribute [local go_sem] Oper.semAt_some

/-- the first j of L binary digits of k, the most significant one first. -/
def bitsTo (k L : Nat) : Nat → List Bool
  | 0 => []
  | j + 1 => bitsTo k L j ++ [k / 2 ^ (L - 1 - j) % 2 == 1]
def ofBits (l : List Bool) : Nat := l.foldl (fun n b => 2 * n + if b then 1 else 0) 0
theorem ofBits_snoc (l : List Bool) (b : Bool) : ofBits (l ++ [b]) = 2 * ofBits l + if b then 1 else 0 := by simp [ofBits]
theorem bitsTo_length (k L : Nat) : ∀ j, (bitsTo k L j).length = j
  | 0 => rfl
  | j + 1 => by rw [bitsTo, List.length_append, bitsTo_length k L j]; rfl
theorem ofBits_bitsTo (k L : Nat) (h : k < 2 ^ L) : ∀ j, j ≤ L → ofBits (bitsTo k L j) = k / 2 ^ (L - j)
  | 0, _ => by rw [bitsTo, Nat.sub_zero, Nat.div_eq_of_lt h]; rfl
  | j + 1, hj => by
    rw [bitsTo, ofBits_snoc, ofBits_bitsTo k L h j (by omega)]
    have e : 2 ^ (L - j) = 2 ^ (L - 1 - j) * 2 := by rw [← Nat.pow_succ]; congr 1; omega
    rw [show L - (j + 1) = L - 1 - j by omega, e, ← Nat.div_div_eq_div_mul]
    generalize k / 2 ^ (L - 1 - j) = x
    by_cases hx : x % 2 = 1
    · rw [hx]; simp; omega
    · have : x % 2 = 0 := by omega
      rw [this]; simp; omega

theorem lt_bitLenAux : ∀ f x, x < 2 ^ f → x < 2 ^ Lib.bitLenAux f x
  | 0, x, h => by simpa [Lib.bitLenAux] using h
  | f + 1, x, h => by
    rw [Lib.bitLenAux]
    by_cases h0 : x = 0
    · rw [if_pos h0, h0]; decide
    · rw [if_neg h0]
      have := lt_bitLenAux f (x / 2) (by rw [Nat.pow_succ] at h; omega)
      rw [Nat.pow_add, Nat.pow_one]; omega
theorem ofBits_all (k : Nat) (hk : k < 18446744073709551616) : ofBits (bitsTo k (Lib.bitLen k) (Lib.bitLen k)) = k := by
  have h := ofBits_bitsTo k (Lib.bitLen k) (lt_bitLenAux 64 k hk) _ (Nat.le_refl _)
  rw [Nat.sub_self, Nat.pow_zero, Nat.div_one] at h; exact h
theorem bit_test (k s : Nat) (hk : k < 18446744073709551616) : (bits BinOp.and IntKind.u64 ((k : Int) / 2 ^ s) 1 == 1) = (k / 2 ^ s % 2 == 1) := by
  have e : ((k : Int) / 2 ^ s) = ((k / 2 ^ s : Nat) : Int) := by rw [Int.natCast_ediv, Int.natCast_pow]; rfl
  have hle : k / 2 ^ s < 18446744073709551616 := Nat.lt_of_le_of_lt (Nat.div_le_self _ _) hk
  have h := bits_and_u64_nat (k / 2 ^ s) 1 hle (by omega)
  rw [e, show (1 : Int) = ((1 : Nat) : Int) from rfl, h, Nat.and_one_is_mod]
  generalize k / 2 ^ s % 2 = y
  rw [Bool.eq_iff_iff]; simp; omega
/-- what a round keeps: a cell. -/
def KeepsCell (B : Nat) (W W' : World) : Prop := W'.cell? ⟨B, 0, none⟩ = W.cell? ⟨B, 0, none⟩


set_option maxHeartbeats 1000000 in
theorem digits1_in (n : Nat) (hn : 1 ≤ n) (l Bn k : Nat) (J Jx : List Bool → World → Prop) (hk : k < 18446744073709551616)
    (hY : ∀ pre x W, J pre W → pre.length < 64 → YieldAt Fence.wide (n - 1) Tryd.prog l #[.bool x] W fun e W' =>
      (e = .returned (.bool true) ∧ J (pre ++ [x]) W' ∧ KeepsCell Bn W W') ∨ (e = .returned (.bool false) ∧ Jx (pre ++ [x]) W'))
    (W : World) (hBn : W.cell? ⟨Bn, 0, none⟩ = some (.int .u64 k)) (h0 : J [] W) :
    CallsIn Fence.wide n Tryd.prog 123 #[.func (.yield l) #[] #[], .pointer (some ⟨Bn, 0, none⟩)] W fun e W' => (∃ v, e = .returned v) ∧
      ((∃ ys, ys = bitsTo k (Lib.bitLen k) (Lib.bitLen k) ∧ J ys W') ∨ (∃ pre, True ∧ Jx pre W')) := by
  have hL := Lib.bitLen_le k 64 (by omega) (by omega)
  have hlen := len64_any k W (by omega) (by omega)
  rw [Int.toNat_natCast] at hlen
  obtain ⟨L, hLL⟩ : ∃ L, Lib.bitLen k = L := ⟨_, rfl⟩
  rw [hLL] at hL hlen ⊢
  have HL := Lib.hid hLL; clear hLL
  have Hlen := Lib.hid hlen; clear hlen
  refine callsIn_of_wp Tryd.func123 rfl trivial ?_ rfl
  simp only [Tryd.ntmps123, List.size_toArray, List.length_cons, List.length_nil, Nat.reduceAdd, Nat.reduceSub, Array.replicate_succ, Array.replicate_zero, List.push_toArray, List.append_toArray, List.nil_append, List.cons_append]
  gi_wp2_with (refine ⟨trivial, ?_⟩; gi_at_call 120; refine (callsIn_wide.2 Hlen.out).mono ?_; rintro e w' ⟨rfl, rfl⟩)
  gi_loopw [3] (fun p wr => ∃ j : Nat, j ≤ L ∧ p = .int .i64 ((L : Int) - 1 - j) ∧ wr.cell? ⟨Bn, 0, none⟩ = some (.int .u64 k) ∧ J (bitsTo k L j) wr)
    (fun p _ => (intOf p + 1).toNat)
  case atStart =>
    exact ⟨0, by omega, by congr 1; omega, hBn, h0⟩
  case round =>
    obtain ⟨j, hj, rfl, hc, hJs⟩ := hrel
    by_cases hlt : j < L
    · have hn0 : 0 ≤ (L : Int) - 1 - j := by omega
      have hb := bit_test k (L - 1 - j) hk
      have Hb := Lib.hid hb; clear hb
      obtain ⟨fn, tmps, assign, body, hy, hR⟩ := hY (bitsTo k L j) (bits BinOp.and IntKind.u64 ((k : Int) / 2 ^ (L - 1 - j)) 1 == 1) wr hJs (by rw [bitsTo_length]; omega)
      gi_wp2
      refine hR.mono ?_
      rintro e W3 (⟨rfl, hJ3, hk3⟩ | ⟨rfl, hJx3⟩)
      · have hc3 : W3.cell? ⟨Bn, 0, none⟩ = some (.int .u64 k) := hk3.trans hc
        gi_wp2
        go_roundw
        case rel => exact ⟨j + 1, by omega, by congr 1; omega, hc3, by rw [bitsTo, ← Hb.out]; exact hJ3⟩
        case measure => simp [intOf]; omega
      · gi_wp2
        refine bodyPost_ret (results_none rfl _ _ _) rfl ?_
        exact ⟨⟨_, rfl⟩, .inr ⟨_, trivial, hJx3⟩⟩
    · obtain rfl : j = L := by omega
      gi_wp2
      go_end0
      exact ⟨⟨_, rfl⟩, .inl ⟨_, rfl, hJs⟩⟩

theorem cell_of_box_l {W : World} {B : Nat} {v : Value} {t : TypeId} (h : W.heap[B]? = some (.cells #[v] t (0, 0))) : W.cell? ⟨B, 0, none⟩ = some v ∧ W.frozen? ⟨B, 0, none⟩ = false := by
  constructor <;> simp [World.cell?, World.frozen?, h]
theorem cell_new_l (W : World) (v : Value) (t : TypeId) : (W.alloc (.cells #[v] t)).cell? ⟨W.heap.size, 0, none⟩ = some v ∧ (W.alloc (.cells #[v] t)).frozen? ⟨W.heap.size, 0, none⟩ = false :=
  cell_of_box_l (World.alloc_heap_new W _)
theorem cell_alloc_l {W : World} {a : Addr} {v : Value} (o : Obj) (h : W.cell? a = some v) : (W.alloc o).cell? a = some v := cell_kept h (World.grownBy_alloc W o none) (fun r e => by cases e)
theorem frozen_alloc_l {W : World} {a : Addr} {v : Value} (o : Obj) (h : W.cell? a = some v) (hf : W.frozen? a = false) : (W.alloc o).frozen? a = false := (frozen_kept h (World.grownBy_alloc W o none) (fun r e => by cases e)).trans hf
theorem digits_any (k : Nat) (w : World) : Calls Tryd.prog 109 #[.int .u64 k] w fun e w' => e = .returned (.func (.func 123) #[] #[.pointer (some ⟨w.heap.size, 0, none⟩)]) ∧ w.alloc (.cells #[.int .u64 k] 83) = w' := by
  go_enter Tryd.func109, Tryd.ntmps109
  go_wp2
  go_ret
  exact ⟨rfl, rfl⟩

theorem digits_stops (n : Nat) (hn : 1 ≤ n) (Bn k : Nat) (hk : k < 18446744073709551616) (w : World) (hlt : Bn < w.heap.size) (hBn : w.cell? ⟨Bn, 0, none⟩ = some (.int .u64 k)) :
    SeqStopsK Fence.wide n Tryd.prog 123 #[.pointer (some ⟨Bn, 0, none⟩)] (fun b : Bool => #[.bool b]) (KeepsCell Bn) (fun ys => ys = bitsTo k (Lib.bitLen k) (Lib.bitLen k)) (fun _ => True) 64 w :=
  fun l J Jx W hW _ _ hY h0 => digits1_in n hn l Bn k J Jx hk hY W ((hW.cell (p := ⟨Bn, 0, none⟩) hlt).trans hBn) h0

theorem keepsCell_t {B : Nat} {X Y Z : World} (h : KeepsCell B X Y) (k : KeepsCell B Y Z) : KeepsCell B X Z := k.trans h
theorem keepsCell_b {B : Nat} {w : World} (hB : B < w.heap.size) (W : World) (l : Nat) (o o' : Obj) (hl : w.heap.size ≤ l) (_ : W.heap[l]? = some o) (_ : o.isCells = false) (_ : o.isWalk = false) : KeepsCell B W (W.putObj l o') :=
  World.cell?_of_block (World.putObj_heap_other (show B ≠ l by omega))

theorem keepsO_step (W : World) (n : Nat) (a : Addr) (v : Value) : KeepsOthers W ((W.drewN n).setCell a v) :=
  KeepsOthers.trans (⟨Nat.le_refl _, fun _ _ h _ => h⟩ : KeepsOthers W (W.drewN n)) (KeepsOthers.setCell _ _ _)
theorem keepsC_step (B b : Nat) (W : World) (n : Nat) (v : Value) (h : b ≠ B) : KeepsCell B W ((W.drewN n).setCell ⟨b, 0, none⟩ v) :=
  World.cell?_setCell_other (W.drewN n) _ _ _ (by intro e; injection e with e; exact h e)
theorem below_step {B b : Nat} {w W : World} (h : Below B w W) (hb : B ≤ b) (n : Nat) (v : Value) : Below B w ((W.drewN n).setCell ⟨b, 0, none⟩ v) :=
  (below_drewN h n).setCell (p := ⟨b, 0, none⟩) hb v

set_option maxRecDepth 100000 in
set_option maxHeartbeats 2000000 in
/-- group.power: the power modulo P. -/
theorem power_any (a k : Nat) (w : World) (ha : a < 4611686018427377339) (hk : k < 18446744073709551616) :
    Calls Tryd.prog 79 #[.int .u64 a, .int .u64 k] w fun e w' => e = .returned (.int .u64 (Grp.pw a k)) ∧ Below w.heap.size w w' := by
  refine (callsIn_wide (n := 5)).1 ?_
  refine callsIn_of_wp_marks Tryd.func79 rfl trivial ?_ rfl
  simp only [Tryd.ntmps79, List.size_toArray, List.length_cons, List.length_nil, Nat.reduceAdd, Nat.reduceSub, Array.replicate_succ, Array.replicate_zero, List.push_toArray, List.append_toArray, List.nil_append, List.cons_append]
  gi_wp2_with (refine ⟨trivial, ?_⟩; gi_at_call 109; refine (callsIn_wide.2 (digits_any k _)).mono ?_; rintro e w' ⟨rfl, rfl⟩)
  have h1 := cell_new_l w (.int .u64 a) 83
  have h2 := cell_new_l (w.alloc (.cells #[.int .u64 a] 83)) (.int .u64 1) 83
  rw [World.size_alloc] at h2
  have h3 := cell_new_l ((w.alloc (.cells #[.int .u64 a] 83)).alloc (.cells #[.int .u64 1] 83)) (.int .u64 k) 83
  rw [World.size_alloc, World.size_alloc] at h3
  have hB0 : Below w.heap.size w (((w.alloc (.cells #[.int .u64 a] 83)).alloc (.cells #[.int .u64 1] 83)).alloc (.cells #[.int .u64 k] 83)) := (((Below.refl _ w).alloc (Nat.le_refl _) _).alloc (by simp) _).alloc (by simp; omega) _
  refine wpIn_rangeFunc_ownF rfl (by omega) (gf := 123) (lb := #[.pointer (some ⟨w.heap.size + 1 + 1, 0, none⟩)]) rfl trivial (enters_of Tryd.func123 (by kernel_rfl) rfl)
    (digits_stops (5 - 1) (by omega) (w.heap.size + 1 + 1) k hk _ (by simp) h3.1) keepsCell_t (keepsCell_b (by simp)) (Below.refl _ _) (fun _ => rfl)
    (fun pre W => (W.cell? ⟨w.heap.size + 1, 0, none⟩ = some (.int .u64 (Grp.pw a (ofBits pre))) ∧ W.frozen? ⟨w.heap.size + 1, 0, none⟩ = false ∧ W.cell? ⟨w.heap.size, 0, none⟩ = some (.int .u64 a)) ∧ Below w.heap.size w W)
    (fun _ _ _ => False)
    (OwnFrom.and (Own.from (fun s A B row hs hg hr => ⟨cell_kept hs.1 hg hr, (frozen_kept hs.1 hg hr).trans hs.2.1, cell_kept hs.2.2 hg hr⟩) _) (ownFrom_below (Nat.le_refl _) (by simp; omega)))
    (fun _ _ _ _ _ hs _ _ => hs)
    ⟨⟨?c0, ?f0, ?a0⟩, hB0⟩
    (fun x => { tmps := #[.int .u64 a, .int .u64 k, .pointer (some ⟨w.heap.size, 0, none⟩), undef, .int .u64 0, .pointer (some ⟨w.heap.size + 1, 0, none⟩), .bool x, .int .u64 k, .func (.func 123) #[] #[.pointer (some ⟨w.heap.size + 1 + 1, 0, none⟩)], .bool x, undef, undef, undef, undef, undef, undef, undef, undef], defers := [] }) ?assign ?body ?done ?stop
  case c0 => exact (cell_alloc_l _ h2.1).trans (by rw [show ofBits [] = 0 from rfl, Grp.pw_zero]; rfl)
  case f0 => exact frozen_alloc_l _ h2.1 h2.2
  case a0 => exact cell_alloc_l _ (cell_alloc_l _ h1.1)
  case assign =>
    intro l x W K hK
    gi_wp2
    exact hK
  case body =>
    rintro l pre x W ⟨⟨hc, hf, hca⟩, hB⟩ _
    obtain ⟨m, hm⟩ : ∃ m, ofBits pre = m := ⟨_, rfl⟩
    rw [hm] at hc
    have Hm := Lib.hid hm; clear hm
    have hp := Grp.pw_lt a m
    rw [Grp.P_eq] at hp
    obtain ⟨p, hpe⟩ : ∃ p, Grp.pw a m = p := ⟨_, rfl⟩
    rw [hpe] at hc hp
    obtain ⟨q, hqe⟩ : ∃ q, p * p % 4611686018427377339 = q := ⟨_, rfl⟩
    have hq : q < 4611686018427377339 := by rw [← hqe]; exact Nat.mod_lt _ (by omega)
    have c1 := fun W => times_any p p W hp hp
    rw [hqe] at c1
    have c2 := fun W => times_any q a W hq ha
    obtain ⟨r, hre⟩ : ∃ r, q * a % 4611686018427377339 = r := ⟨_, rfl⟩
    rw [hre] at c2
    have e1 : Grp.pw a (2 * m) = q := by rw [show 2 * m = m + m by omega, Grp.pw_add, hpe]; exact hqe
    have e2 : Grp.pw a (2 * m + 1) = r := by rw [Grp.pw_succ, e1]; exact hre
    have C1 := Lib.hid c1; clear c1
    have C2 := Lib.hid c2; clear c2
    have E1 := Lib.hid e1; clear e1
    have E2 := Lib.hid e2; clear e2
    clear hqe hre hpe hk ha hp hq
    have hs1 := ofBits_snoc pre x
    rw [Hm.out] at hs1
    have Hs := Lib.hid hs1; clear hs1
    cases x
    · gi_wp2_with fail
      refine ⟨trivial, ?_⟩
      refine (CallsIn.inRound l (callsIn_wide.2 (C1.out _))).mono ?_
      rintro e w' ⟨rfl, n, rfl⟩
      gi_wp2_with fail
      have e3 := Hs.out.trans (by simp : 2 * m + (if false = true then 1 else 0) = 2 * m)
      refine ⟨keepsO_step _ _ _ _, keepsC_step _ _ _ _ _ (by omega), ⟨?_, ?_, ?_⟩, below_step hB (Nat.le_succ _) _ _⟩
      · rw [e3, E1.out]; exact World.cell?_setCell_same _ _ _ (u := .int .u64 p) hc
      · rw [World.frozen?_setCell]; exact hf
      · exact (World.cell?_setCell_other _ _ _ _ (by intro h; injection h with h; omega)).trans hca
    · gi_wp2_with fail
      refine ⟨trivial, ?_⟩
      refine (CallsIn.inRound l (callsIn_wide.2 (C1.out _))).mono ?_
      rintro e w' ⟨rfl, n, rfl⟩
      gi_wp2_with fail
      refine ⟨trivial, ?_⟩
      refine (CallsIn.inRound l (callsIn_wide.2 (C2.out _))).mono ?_
      rintro e w' ⟨rfl, n, rfl⟩
      gi_wp2_with fail
      have e3 := Hs.out.trans (by simp : 2 * m + (if true = true then 1 else 0) = 2 * m + 1)
      refine ⟨(keepsO_step _ _ _ _).trans (keepsO_step _ _ _ _), keepsCell_t (keepsC_step _ _ _ _ _ (by omega)) (keepsC_step _ _ _ _ _ (by omega)), ⟨?_, ?_, ?_⟩, below_step (below_step hB (Nat.le_succ _) _ _) (Nat.le_succ _) _ _⟩
      · rw [e3, E2.out]; exact World.cell?_setCell_same _ _ _ (u := .int .u64 q) (World.cell?_setCell_same _ _ _ (u := .int .u64 p) hc)
      · rw [World.frozen?_setCell, World.frozen?_drewN, World.frozen?_setCell]; exact hf
      · refine (World.cell?_setCell_other _ _ _ _ (by intro h; injection h with h; omega)).trans ?_
        exact (World.cell?_setCell_other _ _ _ _ (by intro h; injection h with h; omega)).trans hca
  case done =>
    rintro D ys W hD rfl ⟨⟨hc, _⟩, hB⟩ hK
    rw [ofBits_all k hk] at hc
    gi_wp2
    refine ⟨by simp, .inl ⟨_, _, rfl, run_takeDeferred hK, ?_⟩⟩
    exact ⟨_, results_tmp rfl _ _ _, rfl, hB.trans (belowK_b (w := w) (Nat.le_refl _) W D _ _ (by simp at hD; omega) hK rfl rfl)⟩
  case stop =>
    rintro D c pre W _ _ h _
    exact h.elim
end Go.Proofs.YtedokiemlkccaaaDoor
