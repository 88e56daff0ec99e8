/- The walk of the reference's words and blocks of SHA-256. -/
import Derived.Test.YtedokiemlkccaaaDoorN
import Derived.Outline
import Derived.Deep.QuietTactic
import Derived.BigQuiet
import Derived.Deep.CutBlock
import Derived.Great.Walk
import Derived.Deep.RegionHeld3
import Derived.Deep.RegionWith
import Derived.Deep.DrawnRows
import Derived.Deep.DeepCutAuto
set_option linter.all false
namespace Go.Proofs.YtedokiemlkccaaaDoor
open Go.RowKit
def bv (x : Int) : BitVec 32 := BitVec.ofInt 32 x
theorem bv_nat (b : BitVec 32) : bv (b.toNat : Int) = b := by
  unfold bv
  rw [BitVec.ofInt_natCast, BitVec.ofNat_toNat, BitVec.setWidth_eq]
theorem wrap_bv (b : BitVec 32) : IntKind.u32.wrap ((b.toNat : Nat) : Int) = (b.toNat : Int) := by
  rw [IntKind.wrap_u32]; have := b.isLt; omega
theorem b_and (x y : Int) : bits .and .u32 x y = ((bv x &&& bv y).toNat : Int) := wrap_bv _
theorem b_or (x y : Int) : bits .or .u32 x y = ((bv x ||| bv y).toNat : Int) := wrap_bv _
theorem b_xor (x y : Int) : bits .xor .u32 x y = ((bv x ^^^ bv y).toNat : Int) := wrap_bv _
theorem or_comm32 (x y : Int) : bits .or .u32 x y = bits .or .u32 y x := by rw [b_or, b_or, BitVec.or_comm]
theorem ones32 : bv 4294967295 = BitVec.allOnes 32 := by decide
theorem ch_eq (e f g : Int) : bits .xor .u32 (bits .and .u32 e f) (bits .and .u32 (bits .xor .u32 4294967295 e) g) = bits .xor .u32 g (bits .and .u32 e (bits .xor .u32 f g)) := by
  rw [b_xor, b_and, b_and, b_xor, b_xor, b_and, b_xor, bv_nat, bv_nat, bv_nat, bv_nat, bv_nat, ones32]
  congr 2
  apply BitVec.eq_of_getLsbD_eq
  intro i hi
  simp only [BitVec.getLsbD_xor, BitVec.getLsbD_and, BitVec.getLsbD_allOnes, hi, decide_true]
  cases (bv e).getLsbD i <;> cases (bv f).getLsbD i <;> cases (bv g).getLsbD i <;> rfl
theorem maj_eq (a b c : Int) : bits .xor .u32 (bits .xor .u32 (bits .and .u32 a b) (bits .and .u32 a c)) (bits .and .u32 b c) = bits .or .u32 (bits .and .u32 a b) (bits .and .u32 c (bits .or .u32 a b)) := by
  rw [b_xor, b_xor, b_and, b_and, b_and, b_or, b_and, b_or, bv_nat, bv_nat, bv_nat, bv_nat, bv_nat, bv_nat]
  congr 2
  apply BitVec.eq_of_getLsbD_eq
  intro i hi
  simp only [BitVec.getLsbD_xor, BitVec.getLsbD_and, BitVec.getLsbD_or]
  cases (bv a).getLsbD i <;> cases (bv b).getLsbD i <;> cases (bv c).getLsbD i <;> rfl
/-- sizarref02.ror. -/
theorem ror_any (x : Int) (n s : Nat) (hs : n + s = 32) (h0 : 1 ≤ n) (h1 : 1 ≤ s) (w : World) :
    Calls Tryd.prog 136 #[.int .u32 x, .int .i64 n] w fun e w' => e = .returned (.int .u32 (rotI x s)) ∧ ∃ k, w' = w.drewN k := by
  have e : rotI x s = bits .or .u32 (x / 2 ^ n) (IntKind.u32.wrap (x * 2 ^ s)) := by
    unfold rotI; rw [or_comm32, show 32 - s = n by omega]
  rw [e]; clear e
  have i0 : (0 : Int) ≤ (n : Int) := by omega
  have i1 : (n : Int) ≤ 31 := by omega
  have i2 : IntKind.i64.wrap (32 - (n : Int)) = (s : Int) := by rw [IntWalk.i64_in _ (by omega)]; omega
  have i3 : (0 : Int) ≤ (s : Int) := by omega
  have i4 : (s : Int) ≤ 31 := by omega
  clear hs h0 h1
  go_enter Tryd.func136, Tryd.ntmps136
  go_wp2_with fail
  go_quiet (fail)
  go_wp2_with fail
  go_ret
  exact ⟨rfl, _, rfl⟩
theorem or_at (a b k : Nat) (hb : b < 2 ^ k) (h : a * 2 ^ k + b < 4294967296) : bits .or .u32 ((a * 2 ^ k : Nat) : Int) (b : Int) = ((a * 2 ^ k + b : Nat) : Int) := by
  rw [bits_or_u32_nat _ b (by omega) (by omega), Nat.mul_comm, ← Nat.two_pow_add_eq_or_of_lt hb]
theorem word_eq (a b c d : Nat) (ha : a < 256) (hb : b < 256) (hc : c < 256) (hd : d < 256) :
    bits .or .u32 (bits .or .u32 (bits .or .u32 ((a : Int) * 16777216) ((b : Int) * 65536)) ((c : Int) * 256)) (d : Int) = (((a : Int) * 256 + b) * 256 + c) * 256 + d := by
  rw [show (a : Int) * 16777216 = ((a * 2 ^ 24 : Nat) : Int) by omega, show (b : Int) * 65536 = ((b * 65536 : Nat) : Int) by omega, or_at _ _ 24 (by omega) (by omega),
    show a * 2 ^ 24 + b * 65536 = (a * 256 + b) * 2 ^ 16 by omega, show (c : Int) * 256 = ((c * 256 : Nat) : Int) by omega, or_at _ _ 16 (by omega) (by omega),
    show (a * 256 + b) * 2 ^ 16 + c * 256 = ((a * 256 + b) * 256 + c) * 2 ^ 8 by omega, or_at _ _ 8 (by omega) (by omega)]
  omega
theorem bI_nat (l : List UInt8) (j : Nat) : ∃ n : Nat, bI l j = n ∧ n < 256 := ⟨_, rfl, (l.getD j 0).toNat_lt⟩
/-- sizarref02.word. -/
theorem rword_any (l : List UInt8) (b o c j : Nat) (w : World) (hc : 4 ≤ c) (hc' : c ≤ 9223372036854775807)
    (hcell : ∀ i, i < 4 → w.cell? ⟨b, o + i, none⟩ = some (.int .u8 (bI l (j + i)))) :
    Calls Tryd.prog 135 #[.slice (some ⟨b, o, none⟩) 4 c] w fun e w' => e = .returned (.int .u32 (numI l j 4)) ∧ ∃ k, w' = w.drewN k := by
  have h0 := hcell 0 (by omega)
  have h1 := hcell 1 (by omega)
  have h2 := hcell 2 (by omega)
  have h3 := hcell 3 (by omega)
  clear hcell
  obtain ⟨n0, e0, l0⟩ := bI_nat l j
  obtain ⟨n1, e1, l1⟩ := bI_nat l (j + 1)
  obtain ⟨n2, e2, l2⟩ := bI_nat l (j + 2)
  obtain ⟨n3, e3, l3⟩ := bI_nat l (j + 3)
  have he : numI l j 4 = bits .or .u32 (bits .or .u32 (bits .or .u32 ((n0 : Int) * 16777216) ((n1 : Int) * 65536)) ((n2 : Int) * 256)) (n3 : Int) := by
    rw [word_eq _ _ _ _ l0 l1 l2 l3]
    unfold numI numI numI numI numI
    rw [Nat.add_zero, e0, e1, e2, e3]; omega
  rw [Nat.add_zero] at h0
  rw [Nat.add_zero j, e0] at h0
  rw [e1] at h1
  rw [e2] at h2
  rw [e3] at h3
  rw [he]
  have g0 : (0 : Int) ≤ n0 := by omega
  have g1 : (0 : Int) ≤ n1 := by omega
  have g2 : (0 : Int) ≤ n2 := by omega
  have g3 : (0 : Int) ≤ n3 := by omega
  have m0 : (n0 : Int) ≤ 255 := by omega
  have m1 : (n1 : Int) ≤ 255 := by omega
  have m2 : (n2 : Int) ≤ 255 := by omega
  have m3 : (n3 : Int) ≤ 255 := by omega
  clear he e0 e1 e2 e3 l0 l1 l2 l3
  generalize (n0 : Int) = n0 at *
  generalize (n1 : Int) = n1 at *
  generalize (n2 : Int) = n2 at *
  generalize (n3 : Int) = n3 at *
  go_enter Tryd.func135, Tryd.ntmps135
  go_wp2_with fail
  go_quiet (fail)
  go_wp2_with fail
  go_ret
  exact ⟨rfl, _, rfl⟩
def kArr : Array Value := (kList.map fun k => Value.int .u32 k).toArray
def z64 : Array Value := Array.replicate 64 (.int .u32 0)
theorem kArr_size : kArr.size = 64 := by decide
theorem kArr_all : kArr.all (·.oneCell') = true := by
  rw [Array.all_eq_true_iff_forall_mem]
  intro x hx
  unfold kArr at hx
  rw [List.mem_toArray, List.mem_map] at hx
  obtain ⟨k, _, rfl⟩ := hx; rfl
theorem size144 : (Tryd.prog.info? 144).map (·.size) = some 64 := by kernel_rfl
set_option maxRecDepth 100000 in
theorem nums_any (w : World) : Calls Tryd.prog 137 #[] w fun e w' => e = .returned (.agg kArr) ∧ Below w.heap.size w w' := by
  have hb1 : Below w.heap.size w (w.alloc (.cells z64 144)) := (Below.refl _ w).alloc (Nat.le_refl _) _
  have hG1 : Blk (w.alloc (.cells z64 144)) w.heap.size 144 z64 := Blk.new _ _ _
  go_enter Tryd.func137, Tryd.ntmps137
  go_upto_region 1 with fail
  generalize hW0 : w.alloc (Obj.cells _ 144) = W0
  have hz : w.alloc (.cells z64 144) = W0 := hW0
  rw [hz] at hb1 hG1
  clear hW0 hz
  apply wp_region_lit
  refine Great.wpList_runTo rfl (some 1) rfl (.agg kArr) W0 (by kernel_rfl) ?_
  refine wpList_store_row rfl 144 (.tmp 0) (.tmp 1) rfl w.heap.size kArr rfl rfl 144 z64 hG1 (by rw [kArr_size]; exact size144) rfl kArr_all ?_
  have hG2 : Blk (W0.setRow w.heap.size kArr) w.heap.size 144 kArr := setRow_heap _ _ _ _ _ _ hG1
  have hb2 : Below w.heap.size w (W0.setRow w.heap.size kArr) := below_setRow hb1 (Nat.le_refl _) _
  generalize W0.setRow w.heap.size kArr = W2 at hG2 hb2 ⊢
  apply wpList_nil
  go_wp2_with fail
  refine bodyPost_ret (v := .agg kArr) ?_ rfl ⟨rfl, hb2⟩
  exact results_cell_row (p := 0) (ty := 144) rfl _ W2 w.heap.size 144 kArr (0, 0) _ rfl hG2 Tryd.underlying144 rfl (by rw [kArr_size]; exact size144)
theorem ror7 (x : Int) (w : World) : Calls Tryd.prog 136 #[.int .u32 x, .int .i64 7] w fun e w' => e = .returned (.int .u32 (rotI x 25)) ∧ ∃ k, w' = w.drewN k := ror_any x 7 25 rfl (by omega) (by omega) w
theorem ror18 (x : Int) (w : World) : Calls Tryd.prog 136 #[.int .u32 x, .int .i64 18] w fun e w' => e = .returned (.int .u32 (rotI x 14)) ∧ ∃ k, w' = w.drewN k := ror_any x 18 14 rfl (by omega) (by omega) w
theorem ror17 (x : Int) (w : World) : Calls Tryd.prog 136 #[.int .u32 x, .int .i64 17] w fun e w' => e = .returned (.int .u32 (rotI x 15)) ∧ ∃ k, w' = w.drewN k := ror_any x 17 15 rfl (by omega) (by omega) w
theorem ror19 (x : Int) (w : World) : Calls Tryd.prog 136 #[.int .u32 x, .int .i64 19] w fun e w' => e = .returned (.int .u32 (rotI x 13)) ∧ ∃ k, w' = w.drewN k := ror_any x 19 13 rfl (by omega) (by omega) w
theorem ror6 (x : Int) (w : World) : Calls Tryd.prog 136 #[.int .u32 x, .int .i64 6] w fun e w' => e = .returned (.int .u32 (rotI x 26)) ∧ ∃ k, w' = w.drewN k := ror_any x 6 26 rfl (by omega) (by omega) w
theorem ror11 (x : Int) (w : World) : Calls Tryd.prog 136 #[.int .u32 x, .int .i64 11] w fun e w' => e = .returned (.int .u32 (rotI x 21)) ∧ ∃ k, w' = w.drewN k := ror_any x 11 21 rfl (by omega) (by omega) w
theorem ror25 (x : Int) (w : World) : Calls Tryd.prog 136 #[.int .u32 x, .int .i64 25] w fun e w' => e = .returned (.int .u32 (rotI x 7)) ∧ ∃ k, w' = w.drewN k := ror_any x 25 7 rfl (by omega) (by omega) w
theorem ror2 (x : Int) (w : World) : Calls Tryd.prog 136 #[.int .u32 x, .int .i64 2] w fun e w' => e = .returned (.int .u32 (rotI x 30)) ∧ ∃ k, w' = w.drewN k := ror_any x 2 30 rfl (by omega) (by omega) w
theorem ror13 (x : Int) (w : World) : Calls Tryd.prog 136 #[.int .u32 x, .int .i64 13] w fun e w' => e = .returned (.int .u32 (rotI x 19)) ∧ ∃ k, w' = w.drewN k := ror_any x 13 19 rfl (by omega) (by omega) w
theorem ror22 (x : Int) (w : World) : Calls Tryd.prog 136 #[.int .u32 x, .int .i64 22] w fun e w' => e = .returned (.int .u32 (rotI x 10)) ∧ ∃ k, w' = w.drewN k := ror_any x 22 10 rfl (by omega) (by omega) w
theorem below_dr {B : Nat} {a w : World} (h : Below B a w) (n : Nat) : Below B a (w.drewN n) := ⟨h.os, h.tape, h.output, h.size, h.block⟩
def z8 : Array Value := Array.replicate 8 (.int .u32 0)
theorem z64_size : z64.size = 64 := rfl
theorem z64_all : z64.all (·.oneCell') = true := by
  rw [Array.all_eq_true_iff_forall_mem]
  intro x hx
  unfold z64 at hx
  obtain ⟨_, rfl⟩ := Array.mem_replicate.1 hx
  rfl
theorem ArrI.of_blk {w : World} {g : Nat} {t : TypeId} (h : Blk w g t z64) : ArrI w g .u32 64 (fun _ => 0) :=
  ⟨fun i hi => by rw [h.cell i]; unfold z64; simp [hi], fun i => h.frozen i, h.lt⟩
theorem kArr_get (k : Nat) (h : k < 64) : kArr[k]? = some (.int .u32 (Kc k)) := by
  have hl : k < kList.length := h
  unfold kArr Kc
  rw [List.getElem?_toArray, List.getElem?_map, List.getElem?_eq_getElem hl, List.getD_eq_getElem?_getD, List.getElem?_eq_getElem hl]; rfl
theorem drew3 {a b c d : World} (h1 : ∃ n, b = a.drewN n) (h2 : ∃ n, c = b.drewN n) (h3 : ∃ n, d = c.drewN n) : ∃ n, d = a.drewN n := by
  obtain ⟨n1, rfl⟩ := h1; obtain ⟨n2, rfl⟩ := h2; obtain ⟨n3, rfl⟩ := h3
  exact ⟨_, by rw [World.drewN_drewN, World.drewN_drewN]⟩
theorem S8.arr_all (s : S8) : s.arr.all (·.oneCell') = true := by unfold S8.arr; simp [Value.oneCell']
theorem drew4 {a b c d e : World} (h1 : ∃ n, b = a.drewN n) (h2 : ∃ n, c = b.drewN n) (h3 : ∃ n, d = c.drewN n) (h4 : ∃ n, e = d.drewN n) : ∃ n, e = a.drewN n := by
  obtain ⟨n1, rfl⟩ := h1; obtain ⟨n2, rfl⟩ := h2; obtain ⟨n3, rfl⟩ := h3; obtain ⟨n4, rfl⟩ := h4
  exact ⟨_, by rw [World.drewN_drewN, World.drewN_drewN, World.drewN_drewN]⟩
theorem wrap4 (a b c d : Int) : IntKind.u32.wrap (IntKind.u32.wrap (IntKind.u32.wrap (a + b) + c) + d) = (a + b + c + d) % 4294967296 := by
  rw [IntKind.wrap_u32, IntKind.wrap_u32, IntKind.wrap_u32]; omega
/-- an array, one cell of which holds whatever. -/
def ArrX (W : World) (g t : Nat) (f : Nat → Int) : Prop := ∃ v, ArrI W g .u32 64 (upd f t v)
theorem upd_upd (f : Nat → Int) (t : Nat) (u v : Int) : upd (upd f t u) t v = upd f t v := by
  funext i; unfold upd; split <;> rfl
theorem upd_self (f : Nat → Int) (t : Nat) : upd f t (f t) = f := by
  funext i; unfold upd; split
  · rename_i h; rw [h]
  · rfl
theorem ArrI.x {W : World} {g t : Nat} {f : Nat → Int} (h : ArrI W g .u32 64 f) : ArrX W g t f := ⟨f t, by rw [upd_self]; exact h⟩
theorem ArrX.set {W : World} {g t : Nat} {f : Nat → Int} (h : ArrX W g t f) (v : Int) : ArrI (W.setCell ⟨g, t, none⟩ (.int .u32 v)) g .u32 64 (upd f t v) := by
  obtain ⟨u, h⟩ := h
  have := h.set t v
  rwa [upd_upd] at this
/-- what is held while the schedule's region runs. -/
theorem rb_next {w W W' : World} {ga k : Nat} {x y : Int} {f : Nat → Int} {sa : Array Value}
    (h : W.cell? ⟨ga, k, none⟩ = some (.int .u32 x) ∧ W.cell? ⟨ga, k + 9, none⟩ = some (.int .u32 y) ∧ Below w.heap.size w W ∧ Blk W w.heap.size 127 sa ∧ Blk W (w.heap.size + 1) 127 z8 ∧ ArrX W ga (k + 16) f)
    (b : ∃ n, W' = W.drewN n) :
    W'.cell? ⟨ga, k, none⟩ = some (.int .u32 x) ∧ W'.cell? ⟨ga, k + 9, none⟩ = some (.int .u32 y) ∧ Below w.heap.size w W' ∧ Blk W' w.heap.size 127 sa ∧ Blk W' (w.heap.size + 1) 127 z8 ∧ ArrX W' ga (k + 16) f := by
  obtain ⟨n, rfl⟩ := b
  obtain ⟨h1, h2, h5, h6, h7, v, h8⟩ := h
  exact ⟨h1, h2, below_dr h5 n, h6.drewN n, h7.drewN n, v, h8.drewN n⟩
theorem rb_cell {w W W' : World} {ga k : Nat} {x y : Int} {f : Nat → Int} {sa : Array Value}
    (h : W.cell? ⟨ga, k, none⟩ = some (.int .u32 x) ∧ W.cell? ⟨ga, k + 9, none⟩ = some (.int .u32 y) ∧ Below w.heap.size w W ∧ Blk W w.heap.size 127 sa ∧ Blk W (w.heap.size + 1) 127 z8 ∧ ArrX W ga (k + 16) f)
    (b : ∃ n, W' = W.drewN n) (hk : k < 48) :
    ∃ z, W'.cell? ⟨ga, k + 16, none⟩ = some (.int .u32 z) ∧ W'.frozen? ⟨ga, k + 16, none⟩ = false := by
  obtain ⟨n, rfl⟩ := b
  obtain ⟨h1, h2, h5, h6, h7, v, h8⟩ := h
  exact ⟨_, (h8.drewN n).cell (k + 16) (by omega), (h8.drewN n).free (k + 16)⟩
theorem rb_set {w W : World} {ga k : Nat} {x y : Int} {f : Nat → Int} {sa : Array Value} (hgw : w.heap.size ≤ ga) (hgs : w.heap.size ≠ ga) (hgr : w.heap.size + 1 ≠ ga)
    (h : W.cell? ⟨ga, k, none⟩ = some (.int .u32 x) ∧ W.cell? ⟨ga, k + 9, none⟩ = some (.int .u32 y) ∧ Below w.heap.size w W ∧ Blk W w.heap.size 127 sa ∧ Blk W (w.heap.size + 1) 127 z8 ∧ ArrX W ga (k + 16) f) (v : Int) :
    (W.setCell ⟨ga, k + 16, none⟩ (.int .u32 v)).cell? ⟨ga, k, none⟩ = some (.int .u32 x) ∧ (W.setCell ⟨ga, k + 16, none⟩ (.int .u32 v)).cell? ⟨ga, k + 9, none⟩ = some (.int .u32 y) ∧ Below w.heap.size w (W.setCell ⟨ga, k + 16, none⟩ (.int .u32 v)) ∧ Blk (W.setCell ⟨ga, k + 16, none⟩ (.int .u32 v)) w.heap.size 127 sa ∧ Blk (W.setCell ⟨ga, k + 16, none⟩ (.int .u32 v)) (w.heap.size + 1) 127 z8 ∧ ArrX (W.setCell ⟨ga, k + 16, none⟩ (.int .u32 v)) ga (k + 16) f := by
  obtain ⟨h1, h2, h5, h6, h7, h8⟩ := h
  refine ⟨(World.cell?_setCell_other _ _ _ _ (by intro h'; injection h' with _ h'; omega)).trans h1, (World.cell?_setCell_other _ _ _ _ (by intro h'; injection h' with _ h'; omega)).trans h2,
    h5.setCell (p := ⟨ga, k + 16, none⟩) hgw _, h6.far (p := ⟨ga, k + 16, none⟩) hgs _, h7.far (p := ⟨ga, k + 16, none⟩) hgr _, v, h8.set v⟩
set_option maxRecDepth 100000 in
set_option maxHeartbeats 4000000 in
theorem block_any (b o c : Nat) (l : List UInt8) (w : World) (hl : l.length = 64) (hc : 64 ≤ c) (hc' : c ≤ 9223372036854775807) (hB : BytesAt w b o l) (st : S8) :
    Calls Tryd.prog 122 #[.agg st.arr, .slice (some ⟨b, o, none⟩) 64 c] w fun e w' => e = .returned (.agg (compress Kc st l).arr) ∧ Below w.heap.size w w' := by
  have hb := hB.lt (by omega)
  have HB := Lib.hid hB.cell
  rw [hl] at HB
  obtain ⟨sa, hsa⟩ : ∃ sa, st.arr = sa := ⟨_, rfl⟩
  have hss : sa.size = 8 := by rw [← hsa]; rfl
  rw [hsa]
  have HSA := Lib.hid hsa
  clear hsa
  go_enter Tryd.func122, Tryd.ntmps122
  go_upto_region 1 with fail
  have hS1 : Blk ((w.alloc (.cells sa 127)).alloc (.cells z8 127)) w.heap.size 127 sa := (Blk.new _ _ _).alloc _
  have hR1 : Blk ((w.alloc (.cells sa 127)).alloc (.cells z8 127)) (w.heap.size + 1) 127 z8 := by
    have := Blk.new (w.alloc (.cells sa 127)) 127 z8
    rwa [World.size_alloc] at this
  have hb1 : Below w.heap.size w ((w.alloc (.cells sa 127)).alloc (.cells z8 127)) := ((Below.refl _ w).alloc (Nat.le_refl _) _).alloc (by simp) _
  generalize hW0 : (w.alloc (.cells sa 127)).alloc (Obj.cells _ 127) = W0
  have hz : (w.alloc (.cells sa 127)).alloc (.cells z8 127) = W0 := hW0
  rw [hz] at hS1 hR1 hb1
  have hsz1 : W0.heap.size = w.heap.size + 2 := by rw [← hz]; simp
  clear hW0 hz
  apply wp_region_lit
  refine Great.wpList_runTo rfl (some 22) rfl (.agg z64) W0 (by kernel_rfl) ?_
  refine Great.wpList_allocTo rfl (some 5) rfl (.pointer (some ⟨W0.heap.size, 0, none⟩)) (.cells z64 144) (by kernel_rfl) ?_
  have hG : Blk (W0.alloc (.cells z64 144)) W0.heap.size 144 z64 := Blk.new _ _ _
  refine wpList_store_row rfl 144 (.tmp 5) (.tmp 22) rfl W0.heap.size z64 (by rfl) (by rfl) 144 z64 hG (by rw [z64_size]; exact size144) rfl z64_all ?_
  rw [hG.setRow_same]
  have hS1 := hS1.alloc (.cells z64 144)
  have hR1 := hR1.alloc (.cells z64 144)
  have hb1 := hb1.alloc hb1.size (.cells z64 144)
  have hA := ArrI.of_blk hG
  generalize W0.alloc (.cells z64 144) = W1 at hS1 hR1 hb1 hA hG ⊢
  obtain ⟨ga, hga⟩ : ∃ g, W0.heap.size = g := ⟨_, rfl⟩
  rw [hga] at hA hsz1 ⊢
  have hgw : w.heap.size ≤ ga := by omega
  have hgs : w.heap.size ≠ ga := by omega
  have hgr : w.heap.size + 1 ≠ ga := by omega
  clear hG hga hsz1
  apply wpList_nil
  go_wp2_with fail
  go_loopw [6] (fun x wr => ∃ k : Nat, k ≤ 16 ∧ x = .int .i64 k ∧ Below w.heap.size w wr ∧ Blk wr w.heap.size 127 sa ∧ Blk wr (w.heap.size + 1) 127 z8 ∧ ∃ f, ArrI wr ga .u32 64 f ∧ Hid (∀ i, i < k → f i = numI l (4 * i) 4)) (fun x _ => 16 - (intOf x).toNat)
  case atStart => exact ⟨0, by omega, rfl, hb1, hS1, hR1, _, hA, Lib.hid (fun i hi => by omega)⟩
  case round =>
    obtain ⟨k, hk, rfl, hB, hS, hR, f, hf, hinv⟩ := hrel
    by_cases hlt : k < 16
    · have cw := rword_any l b (o + 4 * k) (c - 4 * k) (4 * k) wr (by omega) (by omega) (fun i hi => by
        rw [Nat.add_assoc]; exact (hB.cell (p := ⟨b, o + (4 * k + i), none⟩) hb).trans (HB.out _ (by omega)))
      have CW := Lib.hid cw; clear cw
      have h2 := hf.free k
      have h1 := hf.cell k (by omega)
      have n1 : ¬ c = 4 * k := by omega
      go_wp2_with fail
      refine CW.out.mono ?_
      rintro e w' ⟨rfl, m, rfl⟩
      have h1 : (wr.drewN m).cell? ⟨ga, k, none⟩ = _ := h1
      have h2 : (wr.drewN m).frozen? ⟨ga, k, none⟩ = false := h2
      go_wp2_with fail
      go_roundw
      case rel =>
        refine ⟨k + 1, by omega, by go_num, (below_dr hB m).setCell (p := ⟨ga, k, none⟩) hgw _, (hS.drewN m).far (p := ⟨ga, k, none⟩) hgs _, (hR.drewN m).far (p := ⟨ga, k, none⟩) hgr _, _, (hf.drewN m).set k _, Lib.hid fun i hi => ?_⟩
        by_cases e : i = k
        · subst e; exact upd_same _ _ _
        · rw [upd_other _ _ e]; exact hinv.out i (by omega)
      case measure => simp [intOf]; omega
    · obtain rfl : k = 16 := by omega
      rw [show ((16 : Nat) : Int) = 16 from rfl]
      go_wp2_with fail
      clear hA hS1 hR1 hb1
      have hm := hinv.out
      obtain ⟨m, hmm⟩ : ∃ m : Nat → Int, m = fun i => numI l (4 * i) 4 := ⟨_, rfl⟩
      have hm : ∀ i, i < 16 → f i = Wst m 0 i := fun i hi => (hm i hi).trans (by rw [hmm]; rfl)
      have HM := Lib.hid hmm; clear hmm hinv
      go_loopw [7] (fun x wq => ∃ k : Nat, k ≤ 48 ∧ x = .int .i64 ((k : Int) + 16) ∧ Below w.heap.size w wq ∧ Blk wq w.heap.size 127 sa ∧ Blk wq (w.heap.size + 1) 127 z8 ∧ ∃ f, ArrI wq ga .u32 64 f ∧ Hid (∀ i, i < 16 + k → f i = Wst m k i)) (fun x _ => 64 - (intOf x).toNat)
      case atStart => exact ⟨0, by omega, rfl, hB, hS, hR, f, hf, Lib.hid fun i hi => hm i (by omega)⟩
      case round =>
        obtain ⟨k, hk, rfl, hB, hS, hR, f, hf, hinv⟩ := hrel
        by_cases hlt : k < 48
        · have h0 : (k : Int) + 16 < 64 := by omega
          have g15 := hf.cell (k + 1) (by omega)
          have g2 := hf.cell (k + 14) (by omega)
          have l15 : (k : Int) + 1 < 64 := by omega
          have l2 : (k : Int) + 14 < 64 := by omega
          have l16 : (k : Int) < 64 := by omega
          have l7 : (k : Int) + 9 < 64 := by omega
          have p15 : 0 ≤ (k : Int) + 1 := by omega
          have p2 : 0 ≤ (k : Int) + 14 := by omega
          have p16 : 0 ≤ (k : Int) := by omega
          have p7 : 0 ≤ (k : Int) + 9 := by omega
          have p0 : 0 ≤ (k : Int) + 16 := by omega
          have e15 : IntKind.i64.wrap ((k : Int) + 16 - 15) = (k : Int) + 1 := by rw [IntWalk.i64_in _ (by omega)]; omega
          have e2 : IntKind.i64.wrap ((k : Int) + 16 - 2) = (k : Int) + 14 := by rw [IntWalk.i64_in _ (by omega)]; omega
          have e16 : IntKind.i64.wrap ((k : Int) + 16 - 16) = (k : Int) := by rw [IntWalk.i64_in _ (by omega)]; omega
          have e7 : IntKind.i64.wrap ((k : Int) + 16 - 7) = (k : Int) + 9 := by rw [IntWalk.i64_in _ (by omega)]; omega
          have e16' : IntKind.i64.wrap (k : Int) = (k : Int) := by rw [IntWalk.i64_in _ (by omega)]
          have t15 : ((k : Int) + 1).toNat = k + 1 := by omega
          have t2 : ((k : Int) + 14).toNat = k + 14 := by omega
          have t7 : ((k : Int) + 9).toNat = k + 9 := by omega
          have t0 : ((k : Int) + 16).toNat = k + 16 := by omega
          go_wp2_with fail
          clear g15 g2
          obtain ⟨X1, hX1⟩ : ∃ x, f (k + 1) = x := ⟨_, rfl⟩
          obtain ⟨X14, hX14⟩ : ∃ x, f (k + 14) = x := ⟨_, rfl⟩
          obtain ⟨X0, hX0⟩ : ∃ x, f k = x := ⟨_, rfl⟩
          obtain ⟨X9, hX9⟩ : ∃ x, f (k + 9) = x := ⟨_, rfl⟩
          rw [hX1, hX14]
          have g16 : wr.cell? ⟨ga, k, none⟩ = some (.int .u32 X0) := by rw [← hX0]; exact hf.cell k (by omega)
          have g7 : wr.cell? ⟨ga, k + 9, none⟩ = some (.int .u32 X9) := by rw [← hX9]; exact hf.cell (k + 9) (by omega)
          have HX1 := Lib.hid hX1; have HX14 := Lib.hid hX14; have HX0 := Lib.hid hX0; have HX9 := Lib.hid hX9
          clear hX1 hX14 hX0 hX9
          have hf' := hf.drewN 1
          have hB' := below_dr hB 1
          have hS' := hS.drewN 1
          have hR' := hR.drewN 1
          clear hf hB hS hR
          go_region_held3 (fun W => W.cell? ⟨ga, k, none⟩ = some (.int .u32 X0) ∧ W.cell? ⟨ga, k + 9, none⟩ = some (.int .u32 X9) ∧ Below w.heap.size w W ∧ Blk W w.heap.size 127 sa ∧ Blk W (w.heap.size + 1) 127 z8 ∧ ArrX W ga (k + 16) f)
            (first | exact ⟨g16, g7, hB', hS', hR', hf'.x⟩ | exact rb_next (by assumption) (by assumption) | exact rb_set hgw hgs hgr (by assumption) _)
            (first
              | ((with_reducible refine (ror7 _ _).mono ?_); rintro e w7 ⟨rfl, d7⟩)
              | ((with_reducible refine (ror18 _ _).mono ?_); rintro e w8 ⟨rfl, d8⟩)
              | ((with_reducible refine (ror17 _ _).mono ?_); rintro e w9 ⟨rfl, d9⟩)
              | ((with_reducible refine (ror19 _ _).mono ?_); rintro e w0 ⟨rfl, d0⟩; obtain ⟨z, z1, z2⟩ := rb_cell (by assumption) d0 hlt))
          have hw0 : ∃ n, w0 = (wr.drewN 1).drewN n := drew4 d7 d8 d9 d0
          clear d7 d8 d9 d0 z1 z2 g16 g7
          have hB0 : Below w.heap.size w w0 := by obtain ⟨n, h⟩ := hw0; rw [h]; exact below_dr hB' n
          have hS0 : Blk w0 w.heap.size 127 sa := by obtain ⟨n, h⟩ := hw0; rw [h]; exact hS'.drewN n
          have hR0 : Blk w0 (w.heap.size + 1) 127 z8 := by obtain ⟨n, h⟩ := hw0; rw [h]; exact hR'.drewN n
          have hf0 : ArrX w0 ga (k + 16) f := by obtain ⟨n, h⟩ := hw0; rw [h]; exact (hf'.drewN n).x
          clear hw0 hB' hS' hR' hf'
          rw [wrap4]
          go_wp2_with fail
          go_roundw
          case rel =>
            refine ⟨k + 1, by omega, by go_num, hB0.setCell (p := ⟨ga, k + 16, none⟩) hgw _, hS0.far (p := ⟨ga, k + 16, none⟩) hgs _, hR0.far (p := ⟨ga, k + 16, none⟩) hgr _, _, hf0.set _, Lib.hid fun i hi => ?_⟩
            have := sched_step m f k hinv.out i (by omega)
            rw [HX1.out, HX14.out, HX0.out, HX9.out] at this
            exact this
          case measure => simp [intOf]; omega
        · obtain rfl : k = 48 := by omega
          rw [show ((48 : Nat) : Int) + 16 = 64 from rfl]
          go_wp2_with fail
          refine (nums_any _).mono ?_
          rintro e w2 ⟨rfl, c2⟩
          have hS2 := hS.below c2 hS.lt
          have hR2 := hR.below c2 hR.lt
          have hf2 := hf.below c2 hf.lt
          have hB2 := bl hB c2
          clear hS hR hf hB c2
          dsimp only
          go_step
          refine Great.wpList_allocTo rfl (some 10) rfl (.pointer (some ⟨w2.heap.size, 0, none⟩)) (.cells z64 144) (by kernel_rfl) ?_
          have hK2 : Blk (w2.alloc (.cells z64 144)) w2.heap.size 144 z64 := Blk.new _ _ _
          refine wpList_store_row rfl 144 (.tmp 10) (.tmp 78) rfl w2.heap.size kArr (by rfl) (by rfl) 144 z64 hK2 (by rw [kArr_size]; exact size144) rfl kArr_all ?_
          have hK3 : Blk ((w2.alloc (.cells z64 144)).setRow w2.heap.size kArr) w2.heap.size 144 kArr := setRow_heap _ _ _ _ _ _ hK2
          have hb3 : Below w2.heap.size w2 ((w2.alloc (.cells z64 144)).setRow w2.heap.size kArr) := below_setRow ((Below.refl _ _).alloc (Nat.le_refl _) _) (Nat.le_refl _) _
          generalize (w2.alloc (.cells z64 144)).setRow w2.heap.size kArr = w3 at hK3 hb3 ⊢
          have hS3 := hS2.below hb3 hS2.lt
          have hR3 := hR2.below hb3 hR2.lt
          have hf3 := hf2.below hb3 hf2.lt
          have hB3 := bl hB2 hb3
          have hkg : w.heap.size + 1 ≠ w2.heap.size := by have := hR2.lt; omega
          obtain ⟨gk, hgk⟩ : ∃ g, w2.heap.size = g := ⟨_, rfl⟩
          rw [hgk] at hK3 hkg ⊢
          clear hgk hS2 hR2 hf2 hB2 hK2 hb3
          apply wpList_nil
          have hsa := HSA.out
          obtain ⟨va, vb, vc, vd, ve, vf, vg, vh⟩ := st
          have s0 := hS3.cell 0
          have s1 := hS3.cell 1
          have s2 := hS3.cell 2
          have s3 := hS3.cell 3
          have s4 := hS3.cell 4
          have s5 := hS3.cell 5
          have s6 := hS3.cell 6
          have s7 := hS3.cell 7
          rw [← hsa] at s0 s1 s2 s3 s4 s5 s6 s7
          simp only [S8.arr, List.getElem?_toArray, List.getElem?_cons_zero, List.getElem?_cons_succ] at s0 s1 s2 s3 s4 s5 s6 s7
          clear hsa
          go_upto_region 13 with fail
          go_quiet (fail)
          clear s0 s1 s2 s3 s4 s5 s6 s7
          have hS4 := hS3.drewN nq
          have hR4 := hR3.drewN nq
          have hf4 := hf3.drewN nq
          have hB4 := below_dr hB3 nq
          have hK4 := hK3.drewN nq
          generalize w3.drewN nq = w4 at hS4 hR4 hf4 hB4 hK4 ⊢
          clear hS3 hR3 hf3 hB3 hK3
          go_wp2_with fail
          obtain ⟨st, hst⟩ : ∃ st : S8, (⟨va, vb, vc, vd, ve, vf, vg, vh⟩ : S8) = st := ⟨_, rfl⟩
          have HST := Lib.hid hst
          go_loopw [11, 12, 13, 14, 15, 16, 17, 18, 19] (fun xa xb xc xd xe xf xg xh x wq => ∃ (k : Nat) (s : S8), k ≤ 64 ∧ x = .int .i64 k ∧ Hid (rnds st Kc f k = s) ∧ xa = .int .u32 s.a ∧ xb = .int .u32 s.b ∧ xc = .int .u32 s.c ∧ xd = .int .u32 s.d ∧ xe = .int .u32 s.e ∧ xf = .int .u32 s.f ∧ xg = .int .u32 s.g ∧ xh = .int .u32 s.h ∧
            Below w.heap.size w wq ∧ Blk wq w.heap.size 127 sa ∧ Blk wq (w.heap.size + 1) 127 z8 ∧ ArrI wq ga .u32 64 f ∧ Blk wq gk 144 kArr) (fun _ _ _ _ _ _ _ _ x _ => 64 - (intOf x).toNat)
          case atStart => exact ⟨0, _, by omega, rfl, Lib.hid HST.out.symm, rfl, rfl, rfl, rfl, rfl, rfl, rfl, rfl, hB4, hS4, hR4, hf4, hK4⟩
          case round =>
            obtain ⟨k, s, hk, rfl, hs, rfl, rfl, rfl, rfl, rfl, rfl, rfl, rfl, hB, hS, hR, hf, hK⟩ := hrel
            clear hB4 hS4 hR4 hf4 hK4 hst
            by_cases hlt : k < 64
            · have hk0 : (0 : Int) ≤ (k : Int) := by omega
              have hk1 : (k : Int) < 64 := by omega
              have hk3 := (hK.cell k).trans (kArr_get k hlt)
              have hwk := hf.cell k hlt
              obtain ⟨ka, hka⟩ : ∃ x, Kc k = x := ⟨_, rfl⟩
              obtain ⟨wa, hwa⟩ : ∃ x, f k = x := ⟨_, rfl⟩
              rw [hka] at hk3
              rw [hwa] at hwk
              have hnext : rnds st Kc f (k + 1) = rnd s ka wa := by rw [rnds, hs.out, hka, hwa]
              have HN := Lib.hid hnext
              clear hnext hka hwa
              go_upto_region 17 with fail
              go_cut [20] (fun p wc => p = .int .u32 (rndP s ka wa) ∧ ∃ n, wc = wr.drewN n)
              case first =>
                go_quiet ((first | (go_at_call_of 136 (Value.int IntKind.i64 6); exact Calls.quiet_of (ror6 _ _)) | (go_at_call_of 136 (Value.int IntKind.i64 11); exact Calls.quiet_of (ror11 _ _)) | (go_at_call_of 136 (Value.int IntKind.i64 25); exact Calls.quiet_of (ror25 _ _))))
                go_wp2_with fail
                go_meet
                exact ⟨congrArg (Value.int IntKind.u32) (by unfold rndP; rw [← ch_eq, show IntKind.u32.max = 4294967295 from rfl]), _, rfl⟩
              case rest =>
                obtain ⟨rfl, n1, hw1⟩ := hcut
                have hS1 := hS.drewN n1
                have hR1 := hR.drewN n1
                have hf1 := hf.drewN n1
                have hB1 := below_dr hB n1
                have hK1 := hK.drewN n1
                rw [← hw1] at hS1 hR1 hf1 hB1 hK1
                clear hw1 hS hR hf hB hK hk3 hwk
                obtain ⟨p, hp⟩ : ∃ p, rndP s ka wa = p := ⟨_, rfl⟩
                rw [hp]
                have HP := Lib.hid hp; clear hp
                go_wp2_with fail
                refine (ror2 _ _).mono ?_
                rintro e w5 ⟨rfl, d5⟩
                go_wp2_with fail
                refine (ror13 _ _).mono ?_
                rintro e w6 ⟨rfl, d6⟩
                go_wp2_with fail
                refine (ror22 _ _).mono ?_
                rintro e w7 ⟨rfl, d7⟩
                have hw7 : ∃ n, w7 = wc.drewN n := drew3 d5 d6 d7
                clear d5 d6 d7
                obtain ⟨n2, hw7⟩ := hw7
                have hS7 := hS1.drewN n2
                have hR7 := hR1.drewN n2
                have hf7 := hf1.drewN n2
                have hB7 := below_dr hB1 n2
                have hK7 := hK1.drewN n2
                rw [← hw7] at hS7 hR7 hf7 hB7 hK7
                clear hw7 hS1 hR1 hf1 hB1 hK1
                go_wp2_with fail
                go_roundw
                case rel =>
                  refine ⟨k + 1, rnd s ka wa, by omega, by go_num, HN, ?_, rfl, rfl, rfl, ?_, rfl, rfl, rfl, hB7, hS7, hR7, hf7, hK7⟩
                  · refine congrArg (Value.int IntKind.u32) ?_
                    show _ = (rndP s ka wa + rndQ s) % 4294967296
                    rw [HP.out]
                    unfold rndQ
                    rw [← maj_eq]
                  · refine congrArg (Value.int IntKind.u32) ?_
                    show _ = (s.d + rndP s ka wa) % 4294967296
                    rw [HP.out]
                case measure => simp [intOf]; omega
            · obtain rfl : k = 64 := by omega
              rw [show ((64 : Nat) : Int) = 64 from rfl]
              go_upto_region 20 with fail
              have s0 := hS.cell 0
              have s1 := hS.cell 1
              have s2 := hS.cell 2
              have s3 := hS.cell 3
              have s4 := hS.cell 4
              have s5 := hS.cell 5
              have s6 := hS.cell 6
              have s7 := hS.cell 7
              rw [← HSA.out] at s0 s1 s2 s3 s4 s5 s6 s7
              simp only [S8.arr, List.getElem?_toArray, List.getElem?_cons_zero, List.getElem?_cons_succ] at s0 s1 s2 s3 s4 s5 s6 s7
              apply wp_region_lit
              iterate 99 go_step
              refine wpList_store_row rfl 127 (.tmp 4) (.tmp 190) rfl (w.heap.size + 1) (S8.add ⟨va, vb, vc, vd, ve, vf, vg, vh⟩ s).arr (by rfl) (by rfl) 127 z8 hR (by kernel_rfl) rfl (S8.arr_all _) ?_
              have hR5 : Blk (wr.setRow (w.heap.size + 1) (S8.add ⟨va, vb, vc, vd, ve, vf, vg, vh⟩ s).arr) (w.heap.size + 1) 127 (S8.add ⟨va, vb, vc, vd, ve, vf, vg, vh⟩ s).arr := setRow_heap _ _ _ _ _ _ hR
              have hB5 : Below w.heap.size w (wr.setRow (w.heap.size + 1) (S8.add ⟨va, vb, vc, vd, ve, vf, vg, vh⟩ s).arr) := below_setRow hB (by omega) _
              generalize wr.setRow (w.heap.size + 1) (S8.add ⟨va, vb, vc, vd, ve, vf, vg, vh⟩ s).arr = w5 at hR5 hB5 ⊢
              clear s0 s1 s2 s3 s4 s5 s6 s7
              apply wpList_nil
              go_wp2_with fail
              refine bodyPost_ret (v := .agg (S8.add ⟨va, vb, vc, vd, ve, vf, vg, vh⟩ s).arr) ?_ rfl ⟨?_, hB5⟩
              · exact results_cell_row (p := 4) (ty := 127) rfl _ w5 (w.heap.size + 1) 127 _ (0, 0) _ rfl hR5 Tryd.underlying127 rfl (by kernel_rfl)
              · unfold compress
                rw [← hs.out, ← HST.out, rnds_congr _ Kc hinv.out, HM.out]
end Go.Proofs.YtedokiemlkccaaaDoor
