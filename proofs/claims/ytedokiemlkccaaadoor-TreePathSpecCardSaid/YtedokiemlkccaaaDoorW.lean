/- Words of 32 bits: the walks of bits.RotateLeft32, digest.rotated and digest.word; arrays and bytes in memory; the schedule and the rounds of SHA-256 as plain functions. -/
import Derived.Test.YtedokiemlkccaaaDoorU
import Derived.Laws.Rows
import Derived.StillTailTactics
import Derived.Laws.CopyOwn
import Derived.Deep.RegionLaw
import Derived.Deep.RegionWith
import Derived.Deep.DeepCutAuto
import Derived.Deep.CutBlock
import Derived.Deep.CutRange
import Derived.Deep.QuietTactic
import Derived.BigQuiet
set_option linter.all false
namespace Go.Proofs.YtedokiemlkccaaaDoor
open Go.RowKit

/-- a word, turned by s to the left. -/
def rotI (x : Int) (s : Nat) : Int := bits .or .u32 (IntKind.u32.wrap (x * 2 ^ s)) (x / 2 ^ (32 - s))

theorem rotl_any (x : Int) (k : Int) (s : Nat) (hs : bits .and .u64 (IntKind.u64.wrap k) 31 = (s : Int)) (h1 : s ≤ 31) (w : World) :
    Calls Tryd.prog 125 #[.int .u32 x, .int .i64 k] w fun e w' => e = .returned (.int .u32 (rotI x s)) ∧ w = w' := by
  have e : rotI x s = bits .or .u32 (IntKind.u32.wrap (x * 2 ^ s)) (x / 2 ^ (32 - s)) := rfl
  rw [e]; clear e
  go_enter Tryd.func125, Tryd.ntmps125
  go_wp2
  go_ret
  exact ⟨rfl, rfl⟩
theorem rot7 : bits .and .u64 (IntKind.u64.wrap (-7)) 31 = ((25 : Nat) : Int) := by decide
theorem rot18 : bits .and .u64 (IntKind.u64.wrap (-18)) 31 = ((14 : Nat) : Int) := by decide
theorem rot17 : bits .and .u64 (IntKind.u64.wrap (-17)) 31 = ((15 : Nat) : Int) := by decide
theorem rot19 : bits .and .u64 (IntKind.u64.wrap (-19)) 31 = ((13 : Nat) : Int) := by decide
theorem rotated6 (x : Int) (w : World) : Calls Tryd.prog 126 #[.int .u32 x, .int .i64 6, .int .i64 11, .int .i64 25] w fun e w' => e = .returned (.int .u32 (bits .xor .u32 (bits .xor .u32 (rotI x 26) (rotI x 21)) (rotI x 7))) ∧ w = w' := by
  have c1 := fun W => rotl_any x (-6) 26 (by decide) (by decide) W
  have c2 := fun W => rotl_any x (-11) 21 (by decide) (by decide) W
  have c3 := fun W => rotl_any x (-25) 7 (by decide) (by decide) W
  have C1 := Lib.hid c1; have C2 := Lib.hid c2; have C3 := Lib.hid c3
  clear c1 c2 c3
  go_enter Tryd.func126, Tryd.ntmps126
  go_wp2_with fail
  refine (C1.out _).mono ?_
  rintro e w' ⟨rfl, rfl⟩
  go_wp2_with fail
  refine (C2.out _).mono ?_
  rintro e w' ⟨rfl, rfl⟩
  go_wp2_with fail
  refine (C3.out _).mono ?_
  rintro e w' ⟨rfl, rfl⟩
  go_wp2_with fail
  go_ret
  exact ⟨rfl, rfl⟩
theorem rotated2 (x : Int) (w : World) : Calls Tryd.prog 126 #[.int .u32 x, .int .i64 2, .int .i64 13, .int .i64 22] w fun e w' => e = .returned (.int .u32 (bits .xor .u32 (bits .xor .u32 (rotI x 30) (rotI x 19)) (rotI x 10))) ∧ w = w' := by
  have c1 := fun W => rotl_any x (-2) 30 (by decide) (by decide) W
  have c2 := fun W => rotl_any x (-13) 19 (by decide) (by decide) W
  have c3 := fun W => rotl_any x (-22) 10 (by decide) (by decide) W
  have C1 := Lib.hid c1; have C2 := Lib.hid c2; have C3 := Lib.hid c3
  clear c1 c2 c3
  go_enter Tryd.func126, Tryd.ntmps126
  go_wp2_with fail
  refine (C1.out _).mono ?_
  rintro e w' ⟨rfl, rfl⟩
  go_wp2_with fail
  refine (C2.out _).mono ?_
  rintro e w' ⟨rfl, rfl⟩
  go_wp2_with fail
  refine (C3.out _).mono ?_
  rintro e w' ⟨rfl, rfl⟩
  go_wp2_with fail
  go_ret
  exact ⟨rfl, rfl⟩

/-- the byte at a place of a list, as a number. -/
def bI (l : List UInt8) (j : Nat) : Int := ((l.getD j 0).toNat : Int)
theorem bI_lo (l : List UInt8) (j : Nat) : 0 ≤ bI l j := by unfold bI; omega
theorem bI_hi (l : List UInt8) (j : Nat) : bI l j < 256 := by unfold bI; have := (l.getD j 0).toNat_lt; omega
/-- the number that bytes are from a place on, the most significant one first. -/
def numI (l : List UInt8) (o : Nat) : Nat → Int
  | 0 => 0
  | k + 1 => numI l o k * 256 + bI l (o + k)
theorem numI_lo (l : List UInt8) (o : Nat) : ∀ k, 0 ≤ numI l o k
  | 0 => Int.le_refl 0
  | k + 1 => by have h1 := numI_lo l o k; have h2 := bI_lo l (o + k); rw [numI]; omega
theorem numI_hi (l : List UInt8) (o : Nat) : ∀ k, numI l o k < 256 ^ k
  | 0 => by show (0 : Int) < 256 ^ 0; decide
  | k + 1 => by have h1 := numI_hi l o k; have h2 := bI_hi l (o + k); rw [numI, Int.pow_succ]; omega
theorem bits_or_u32_nat (a b : Nat) (ha : a < 4294967296) (hb : b < 4294967296) : bits .or .u32 (a : Int) (b : Int) = ((a ||| b : Nat) : Int) := by
  unfold bits
  have e1 : (BitVec.ofInt IntKind.u32.bits (a : Int)).toNat = a := by
    rw [BitVec.ofInt_natCast, BitVec.toNat_ofNat]; exact Nat.mod_eq_of_lt ha
  have e2 : (BitVec.ofInt IntKind.u32.bits (b : Int)).toNat = b := by
    rw [BitVec.ofInt_natCast, BitVec.toNat_ofNat]; exact Nat.mod_eq_of_lt hb
  show IntKind.u32.wrap (((BitVec.ofInt IntKind.u32.bits (a : Int)) ||| (BitVec.ofInt IntKind.u32.bits (b : Int))).toNat : Int) = _
  rw [BitVec.toNat_or, e1, e2, IntKind.wrap_u32]
  have := Nat.or_lt_two_pow (n := 32) (x := a) (y := b) ha hb
  omega
theorem or_byte (n c : Int) (h0 : 0 ≤ n) (h1 : n < 16777216) (c0 : 0 ≤ c) (c1 : c < 256) : bits .or .u32 (n * 256) c = n * 256 + c := by
  obtain ⟨n, rfl⟩ := Int.eq_ofNat_of_zero_le h0
  obtain ⟨c, rfl⟩ := Int.eq_ofNat_of_zero_le c0
  have e : (n : Int) * 256 = ((2 ^ 8 * n : Nat) : Int) := by rw [Int.natCast_mul, Int.mul_comm]; rfl
  have h2 : 256 * n < 4294967296 := by have h3 := Nat.mul_lt_mul_of_pos_left (show n < 16777216 by omega) (show 0 < 256 by decide); exact h3
  rw [e, bits_or_u32_nat (2 ^ 8 * n) c h2 (by omega), ← Nat.two_pow_add_eq_or_of_lt (show c < 2 ^ 8 by omega), Int.natCast_add]

theorem numI_small (l : List UInt8) (j k : Nat) (hk : k < 4) : numI l j k < 16777216 := by
  have h := numI_hi l j k
  have h2 : (256 : Int) ^ k ≤ 16777216 := by
    rcases (by omega : k = 0 ∨ k = 1 ∨ k = 2 ∨ k = 3) with rfl | rfl | rfl | rfl <;> decide
  exact Int.lt_of_lt_of_le h h2

/-- digest.word: the number that four bytes are. -/
theorem word_any (l : List UInt8) (b o n c j : Nat) (w : World) (hn : 4 ≤ n) (hc : n ≤ c) (hc' : c ≤ 9223372036854775807)
    (hcell : ∀ i, i < 4 → w.cell? ⟨b, o + i, none⟩ = some (.int .u8 (bI l (j + i)))) :
    Calls Tryd.prog 124 #[.slice (some ⟨b, o, none⟩) n c] w fun e w' => e = .returned (.int .u32 (numI l j 4)) ∧ w = w' := by
  have H := Lib.hid hcell; clear hcell
  go_enter Tryd.func124, Tryd.ntmps124
  go_wp2_with fail
  go_loop [2, 8] (fun x y => ∃ k : Nat, k ≤ 4 ∧ x = .int .u32 (numI l j k) ∧ y = .int .i64 k) (fun _ y => 4 - (intOf y).toNat)
  case atStart => exact ⟨0, by omega, rfl, rfl⟩
  case round =>
    obtain ⟨k, hk, rfl, rfl⟩ := hrel
    by_cases hlt : k < 4
    · have h1 := H.out k hlt
      have h2 := numI_lo l j k
      have h3 := numI_small l j k hlt
      have h4 := bI_lo l (j + k)
      have h5 := bI_hi l (j + k)
      have e : numI l j (k + 1) = numI l j k * 256 + bI l (j + k) := rfl
      have e2 := or_byte _ _ h2 h3 h4 h5
      obtain ⟨p, hp⟩ : ∃ p, numI l j k = p := ⟨_, rfl⟩
      obtain ⟨q, hq⟩ : ∃ p, bI l (j + k) = p := ⟨_, rfl⟩
      rw [hp, hq] at e e2
      rw [hp] at h2 h3
      rw [hq] at h1 h4 h5
      rw [hp]
      have E := Lib.hid e; clear e hp hq
      go_wp2_with fail
      go_round
      case rel => exact ⟨k + 1, by omega, by rw [E.out], by go_num⟩
      case measure => simp [intOf]; omega
    · obtain rfl : k = 4 := by omega
      go_wp2_with fail
      go_ret
      exact ⟨rfl, rfl⟩

/-! ### arrays of numbers in memory -/
theorem heap_new (w : World) (o : Obj) : (w.alloc o).heap[w.heap.size]? = some o := heap_alloc_new w o
/-- block g holds n numbers. -/
structure ArrI (w : World) (g : Nat) (k : IntKind) (n : Nat) (f : Nat → Int) : Prop where
  cell : ∀ i, i < n → w.cell? ⟨g, i, none⟩ = some (.int k (f i))
  free : ∀ i, w.frozen? ⟨g, i, none⟩ = false
  lt : g < w.heap.size
def upd (f : Nat → Int) (t : Nat) (v : Int) : Nat → Int := fun i => if i = t then v else f i
theorem upd_same (f : Nat → Int) (t : Nat) (v : Int) : upd f t v t = v := if_pos rfl
theorem upd_other (f : Nat → Int) {t i : Nat} (v : Int) (h : i ≠ t) : upd f t v i = f i := if_neg h
theorem ArrI.set {w : World} {g : Nat} {k : IntKind} {n : Nat} {f : Nat → Int} (h : ArrI w g k n f) (t : Nat) (v : Int) : ArrI (w.setCell ⟨g, t, none⟩ (.int k v)) g k n (upd f t v) := by
  refine ⟨fun i hi => ?_, fun i => by rw [World.frozen?_setCell]; exact h.free i, by rw [World.size_setCell]; exact h.lt⟩
  by_cases e : i = t
  · subst e; rw [upd_same]; exact World.cell?_setCell_same _ _ _ (h.cell i hi)
  · rw [upd_other _ _ e, World.cell?_setCell_other _ _ _ _ (by intro h'; injection h' with _ h'; omega)]; exact h.cell i hi
theorem ArrI.far {w : World} {g : Nat} {k : IntKind} {n : Nat} {f : Nat → Int} (h : ArrI w g k n f) {p : Addr} (hp : p.block ≠ g) (u : Value) : ArrI (w.setCell p u) g k n f :=
  ⟨fun i hi => (World.cell?_setCell_other _ _ _ _ (by intro h'; subst h'; exact hp rfl)).trans (h.cell i hi), fun i => by rw [World.frozen?_setCell]; exact h.free i, by rw [World.size_setCell]; exact h.lt⟩
theorem ArrI.drewN {w : World} {g : Nat} {k : IntKind} {n : Nat} {f : Nat → Int} (h : ArrI w g k n f) (m : Nat) : ArrI (w.drewN m) g k n f := ⟨h.cell, h.free, h.lt⟩
theorem ArrI.below {w w' : World} {B g : Nat} {k : IntKind} {n : Nat} {f : Nat → Int} (h : ArrI w g k n f) (hb : Below B w w') (hg : g < B) : ArrI w' g k n f :=
  ⟨fun i hi => (hb.cell (p := ⟨g, i, none⟩) hg).trans (h.cell i hi), fun i => (hb.frozen (p := ⟨g, i, none⟩) hg).trans (h.free i), Nat.lt_of_lt_of_le h.lt hb.size⟩
theorem ArrI.alloc {w : World} {g : Nat} {k : IntKind} {n : Nat} {f : Nat → Int} (h : ArrI w g k n f) (o : Obj) : ArrI (w.alloc o) g k n f :=
  h.below (B := w.heap.size) ((Below.refl _ _).alloc (Nat.le_refl _) o) h.lt
theorem ArrI.congr {w : World} {g : Nat} {k : IntKind} {n : Nat} {f f' : Nat → Int} (h : ArrI w g k n f) (e : ∀ i, i < n → f i = f' i) : ArrI w g k n f' :=
  ⟨fun i hi => by rw [← e i hi]; exact h.cell i hi, h.free, h.lt⟩

theorem frozen_of_row {w : World} {g : Nat} {t : TypeId} {cs : Array Value} (h : w.heap[g]? = some (.cells cs t (0, 0))) (i : Nat) : w.frozen? ⟨g, i, none⟩ = false := by
  simp [World.frozen?, h]
theorem ArrI.newz (w : World) (k : IntKind) (n : Nat) (t : TypeId) : ArrI (w.alloc (.cells (Array.replicate n (.int k 0)) t)) w.heap.size k n (fun _ => 0) :=
  ⟨fun i hi => by rw [cell_of_row _ _ i _ _ (0, 0) (heap_new w _)]; simp [hi], fun i => frozen_of_row (heap_new w _) i, by simp⟩

/-- a slice of bytes in memory: n of them, from an address on, as a list. -/
structure BytesAt (w : World) (b o : Nat) (l : List UInt8) : Prop where
  cell : ∀ i, i < l.length → w.cell? ⟨b, o + i, none⟩ = some (.int .u8 (bI l i))
  lt : 0 < l.length → b < w.heap.size

/-- the next word of the schedule. -/
def nextW (f : Nat → Int) (t : Nat) : Int :=
  (f (t - 16) + bits .xor .u32 (bits .xor .u32 (rotI (f (t - 15)) 25) (rotI (f (t - 15)) 14)) (f (t - 15) / 8) + f (t - 7) + bits .xor .u32 (bits .xor .u32 (rotI (f (t - 2)) 15) (rotI (f (t - 2)) 13)) (f (t - 2) / 1024)) % 4294967296
/-- the schedule of a block's sixteen words, k words farther. -/
def Wst (m : Nat → Int) : Nat → Nat → Int
  | 0 => m
  | k + 1 => upd (Wst m k) (16 + k) (nextW (Wst m k) (16 + k))

/-- the eight words of a state. -/
structure S8 where
  (a b c d e f g h : Int)
def S8.arr (s : S8) : Array Value := #[.int .u32 s.a, .int .u32 s.b, .int .u32 s.c, .int .u32 s.d, .int .u32 s.e, .int .u32 s.f, .int .u32 s.g, .int .u32 s.h]
/-- what a round adds. -/
def rndP (s : S8) (k w : Int) : Int :=
  (s.h + bits .xor .u32 (bits .xor .u32 (rotI s.e 26) (rotI s.e 21)) (rotI s.e 7) + bits .xor .u32 s.g (bits .and .u32 s.e (bits .xor .u32 s.f s.g)) + k + w) % 4294967296
def rndQ (s : S8) : Int :=
  (bits .xor .u32 (bits .xor .u32 (rotI s.a 30) (rotI s.a 19)) (rotI s.a 10) + bits .or .u32 (bits .and .u32 s.a s.b) (bits .and .u32 s.c (bits .or .u32 s.a s.b))) % 4294967296
def rnd (s : S8) (k w : Int) : S8 :=
  ⟨(rndP s k w + rndQ s) % 4294967296, s.a, s.b, s.c, (s.d + rndP s k w) % 4294967296, s.e, s.f, s.g⟩
def rnds (s : S8) (K W : Nat → Int) : Nat → S8
  | 0 => s
  | n + 1 => rnd (rnds s K W n) (K n) (W n)
/-- a block of cells that is known whole. -/
def Blk (w : World) (g : Nat) (t : TypeId) (cs : Array Value) : Prop := w.heap[g]? = some (.cells cs t (0, 0))
theorem Blk.cell {w : World} {g : Nat} {t : TypeId} {cs : Array Value} (h : Blk w g t cs) (i : Nat) : w.cell? ⟨g, i, none⟩ = cs[i]? := cell_of_row w g i cs t (0, 0) h
theorem Blk.frozen {w : World} {g : Nat} {t : TypeId} {cs : Array Value} (h : Blk w g t cs) (i : Nat) : w.frozen? ⟨g, i, none⟩ = false := frozen_of_row h i
theorem Blk.lt {w : World} {g : Nat} {t : TypeId} {cs : Array Value} (h : Blk w g t cs) : g < w.heap.size := by
  rcases Nat.lt_or_ge g w.heap.size with hlt | hge
  · exact hlt
  · unfold Blk at h; rw [Array.getElem?_eq_none hge] at h; cases h
theorem Blk.below {w w' : World} {g : Nat} {t : TypeId} {cs : Array Value} {B : Nat} (h : Blk w g t cs) (hb : Below B w w') (hg : g < B) : Blk w' g t cs := (hb.block g hg).trans h
theorem Blk.drewN {w : World} {g : Nat} {t : TypeId} {cs : Array Value} (h : Blk w g t cs) (n : Nat) : Blk (w.drewN n) g t cs := h
theorem Blk.alloc {w : World} {g : Nat} {t : TypeId} {cs : Array Value} (h : Blk w g t cs) (o : Obj) : Blk (w.alloc o) g t cs := (Below.heap_alloc w o g h.lt).trans h
theorem Blk.new (w : World) (t : TypeId) (cs : Array Value) : Blk (w.alloc (.cells cs t)) w.heap.size t cs := heap_new w _
theorem Blk.set_ {w : World} {g : Nat} {t : TypeId} {cs : Array Value} (h : Blk w g t cs) (i : Nat) (u : Value) : Blk (w.setCell ⟨g, i, none⟩ u) g t (cs.setIfInBounds i u) := by
  unfold Blk at h ⊢
  simp [World.setCell, Array.getElem?_modify, h]
theorem Blk.far {w : World} {g : Nat} {t : TypeId} {cs : Array Value} (h : Blk w g t cs) {p : Addr} (hp : g ≠ p.block) (u : Value) : Blk (w.setCell p u) g t cs := (Below.heap_setCell w p u g hp).trans h
theorem sched_step (m f : Nat → Int) (k : Nat) (h : ∀ i, i < 16 + k → f i = Wst m k i) (i : Nat) (hi : i < 16 + (k + 1)) :
    upd f (k + 16) ((f k + bits .xor .u32 (bits .xor .u32 (rotI (f (k + 1)) 25) (rotI (f (k + 1)) 14)) (f (k + 1) / 8) + f (k + 9) + bits .xor .u32 (bits .xor .u32 (rotI (f (k + 14)) 15) (rotI (f (k + 14)) 13)) (f (k + 14) / 1024)) % 4294967296) i = Wst m (k + 1) i := by
  rw [Wst, Nat.add_comm 16 k]
  by_cases e : i = k + 16
  · subst e
    rw [upd_same, upd_same, nextW, h k (by omega), h (k + 1) (by omega), h (k + 9) (by omega), h (k + 14) (by omega)]
    rw [show k + 16 - 16 = k by omega, show k + 16 - 15 = k + 1 by omega, show k + 16 - 7 = k + 9 by omega, show k + 16 - 2 = k + 14 by omega]
  · rw [upd_other _ _ e, upd_other _ _ e]; exact h i (by omega)
theorem quietly {P : Program} {f : FuncId} {args : Array Value} {w : World} {v : Value} (h : Calls P f args w fun e w' => e = .returned v ∧ w = w') :
    Calls P f args w fun e w' => e = .returned v ∧ w' = w := h.mono fun _ _ ⟨he, hw⟩ => ⟨he, hw.symm⟩
end Go.Proofs.YtedokiemlkccaaaDoor
