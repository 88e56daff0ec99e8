/- The walk of digest.put and digest.Sum: what SHA-256 of a list of bytes is. -/
import Derived.Test.YtedokiemlkccaaaDoorA
import Derived.Outline
set_option linter.all false
namespace Go.Proofs.YtedokiemlkccaaaDoor
open Go.RowKit

/-- bytes as cells. -/
def u8s (l : List UInt8) : List Value := l.map fun b => .int .u8 (b.toNat : Int)
theorem u8s_length (l : List UInt8) : (u8s l).length = l.length := List.length_map _
theorem u8s_get (l : List UInt8) (i : Nat) (h : i < l.length) : (u8s l)[i]? = some (.int .u8 (bI l i)) := by
  unfold u8s bI
  rw [List.getElem?_map, List.getElem?_eq_getElem h, List.getD_eq_getElem?_getD, List.getElem?_eq_getElem h]; rfl
theorem u8s_append (l m : List UInt8) : u8s (l ++ m) = u8s l ++ u8s m := List.map_append
theorem u8s_take (l : List UInt8) (n : Nat) : u8s (l.take n) = (u8s l).take n := List.map_take
theorem u8s_drop (l : List UInt8) (n : Nat) : u8s (l.drop n) = (u8s l).drop n := List.map_drop
theorem u8s_one (l : List UInt8) : ∀ v ∈ u8s l, v.oneCell' = true := by
  intro v hv
  obtain ⟨b, _, rfl⟩ := List.mem_map.1 hv
  rfl
/-- the k lowest bytes of a number, the most significant one first. -/
def beB (n : Nat) : Nat → List UInt8
  | 0 => []
  | k + 1 => UInt8.ofNat (n / 256 ^ k) :: beB n k
theorem beB_length (n : Nat) : ∀ k, (beB n k).length = k
  | 0 => rfl
  | k + 1 => by rw [beB, List.length_cons, beB_length n k]
theorem set_take {α : Type} (l : List α) (r : List α) (m : Nat) (x : α) (h : m < l.length) : (l.take (m + 1) ++ r).set m x = l.take m ++ x :: r := by
  rw [List.take_succ_eq_append_getElem h, List.append_assoc, List.set_append_right _ _ (by rw [List.length_take]; omega)]
  rw [List.length_take, Nat.min_eq_left (by omega), Nat.sub_self]; rfl

theorem u8s_set (l : List UInt8) (i : Nat) (b : UInt8) : u8s (l.set i b) = (u8s l).set i (.int .u8 (b.toNat : Int)) := List.map_set
theorem byte_of (n k : Nat) : (n : Int) / 2 ^ (8 * k) % 256 = ((UInt8.ofNat (n / 256 ^ k)).toNat : Int) := by
  rw [UInt8.toNat_ofNat', show (2 : Int) ^ (8 * k) = ((256 ^ k : Nat) : Int) by rw [Int.pow_mul, Int.natCast_pow]; rfl, ← Int.natCast_ediv]
  rfl
/-- digest.put: a number is written into bytes. -/
theorem put_any (l : List UInt8) (g o L c n : Nat) (t : TypeId) (w : World) (hb : Blk w g t (u8s l).toArray) (hL : L ≤ 8) (ho : o + L ≤ l.length) (hc : L ≤ c) (hl : l.length ≤ 1000) (hn : n < 18446744073709551616) :
    Calls Tryd.prog 111 #[.slice (some ⟨g, o, none⟩) L c, .int .u64 n] w fun e w' => e = .returned (.tuple #[]) ∧ Blk w' g t (u8s (l.take o ++ beB n L ++ l.drop (o + L))).toArray ∧ w.grownBy w' (some g) ∧ w'.heap.size = w.heap.size := by
  have HN := Lib.hid hn; clear hn
  go_enter Tryd.func111, Tryd.ntmps111
  go_wp2_with fail
  go_loopw [7] (fun x wr => ∃ k : Nat, k ≤ L ∧ x = .int .i64 k ∧ Blk wr g t (u8s (l.take (o + L - k) ++ (beB n k ++ l.drop (o + L)))).toArray ∧ w.grownBy wr (some g) ∧ wr.heap.size = w.heap.size) (fun x _ => L - (intOf x).toNat)
  case atStart => exact ⟨0, by omega, rfl, by rw [Nat.sub_zero, beB, List.nil_append, List.take_append_drop]; exact hb, ⟨rfl, rfl, rfl, Nat.le_refl _, fun _ _ _ => rfl⟩, rfl⟩
  case round =>
    obtain ⟨k, hk, rfl, hB, hG, hz⟩ := hrel
    by_cases hlt : k < L
    · have hlt' : (k : Int) < L := by omega
      have hm : o + L - k = (o + L - 1 - k) + 1 := by omega
      have hlen : (l.take (o + L - k) ++ (beB n k ++ l.drop (o + L))).length = l.length := by
        rw [List.length_append, List.length_append, List.length_take, beB_length, List.length_drop]; omega
      obtain ⟨v0, c1⟩ : ∃ v, wr.cell? ⟨g, o + (L - 1 - k), none⟩ = some v := ⟨_, (hB.cell (o + (L - 1 - k))).trans (by rw [List.getElem?_toArray]; exact u8s_get _ _ (by rw [hlen]; omega))⟩
      have fr := hB.frozen (o + (L - 1 - k))
      have e1 : ((L : Int) - 1 - k).toNat = L - 1 - k := by omega
      have e8 : 8 * (k : Int) ≤ 56 := by omega
      have hv : (n : Int) / 2 ^ (8 * k) % 256 = ((UInt8.ofNat (n / 256 ^ k)).toNat : Int) := byte_of n k
      have HV := Lib.hid hv
      have HM := Lib.hid hm
      clear hlen hv hm
      go_wp2_with fail
      go_roundw
      case rel =>
        refine ⟨k + 1, by omega, by go_num, ?_, ⟨hG.os, hG.tape, hG.output, by rw [World.size_setCell]; exact hG.size, fun j hj hne => ?_⟩, by rw [World.size_setCell]; exact hz⟩
        · have h := hB.set_ (o + (L - 1 - k)) (.int .u8 (↑n / 2 ^ (8 * k) % 256))
          rw [List.setIfInBounds_toArray, HV.out, ← u8s_set, HM.out, show o + (L - 1 - k) = o + L - 1 - k by omega, set_take _ _ _ _ (by omega)] at h
          rw [show o + L - (k + 1) = o + L - 1 - k by omega, HV.out, beB, List.cons_append, show o + (L - 1 - k) = o + L - 1 - k by omega]
          exact h
        · rw [Below.heap_setCell _ _ _ _ (by intro e; exact hne (by rw [e]))]; exact hG.block j hj hne
      case measure => simp [intOf]; omega
    · obtain rfl : k = L := by omega
      go_wp2_with fail
      go_end0
      refine ⟨rfl, ?_, hG, hz⟩
      rw [Nat.add_sub_cancel] at hB
      rw [List.append_assoc]; exact hB

/-- the state with which hashing begins. -/
def startS : S8 := ⟨1779033703, 3144134277, 1013904242, 2773480762, 1359893119, 2600822924, 528734635, 1541459225⟩
/-- the numbers of the rounds. -/
def kList : List Int := [1116352408, 1899447441, 3049323471, 3921009573, 961987163, 1508970993, 2453635748, 2870763221, 3624381080, 310598401, 607225278, 1426881987, 1925078388, 2162078206, 2614888103, 3248222580, 3835390401, 4022224774, 264347078, 604807628, 770255983, 1249150122, 1555081692, 1996064986, 2554220882, 2821834349, 2952996808, 3210313671, 3336571891, 3584528711, 113926993, 338241895, 666307205, 773529912, 1294757372, 1396182291, 1695183700, 1986661051, 2177026350, 2456956037, 2730485921, 2820302411, 3259730800, 3345764771, 3516065817, 3600352804, 4094571909, 275423344, 430227734, 506948616, 659060556, 883997877, 958139571, 1322822218, 1537002063, 1747873779, 1955562222, 2024104815, 2227730452, 2361852424, 2428436474, 2756734187, 3204031479, 3329325298]
def Kc (i : Nat) : Int := kList.getD i 0
/-- the two tables of package digest lie in memory as the program's text lays them. -/
structure Tabs (w : World) : Prop where
  start : ∀ i, i < 8 → w.cell? ⟨2, i, none⟩ = some (.int .u32 (startS.get i))
  nums : ∀ i, i < 64 → w.cell? ⟨3, i, none⟩ = some (.int .u32 (Kc i))
  lt : 3 < w.heap.size
theorem Tabs.below {w w' : World} {B : Nat} (h : Tabs w) (hb : Below B w w') (hB : 3 < B) : Tabs w' :=
  ⟨fun i hi => (hb.cell (p := ⟨2, i, none⟩) (show 2 < B by omega)).trans (h.start i hi), fun i hi => (hb.cell (p := ⟨3, i, none⟩) hB).trans (h.nums i hi), Nat.lt_of_lt_of_le h.lt hb.size⟩
theorem Tabs.ext {w w' : World} (h : Tabs w) (hb : Below w.heap.size w w') : Tabs w' := h.below hb h.lt

/-- a slice of bytes: its parts, and what it reads as. -/
structure BS (w : World) (A : Option Addr) (n c : Nat) (l : List UInt8) : Prop where
  len : l.length = n
  cap : n ≤ c
  max : c ≤ 9223372036854775807
  nil_ : A = none → c = 0
  at_ : 0 < n → ∃ b o, A = some ⟨b, o, none⟩ ∧ BytesAt w b o l
theorem BytesAt.below {w w' : World} {b o : Nat} {l : List UInt8} (h : BytesAt w b o l) (hb : Below w.heap.size w w') : BytesAt w' b o l :=
  ⟨fun i hi => (hb.cell (p := ⟨b, o + i, none⟩) (h.lt (by omega))).trans (h.cell i hi), fun hl => Nat.lt_of_lt_of_le (h.lt hl) hb.size⟩
theorem BS.below {w w' : World} {A : Option Addr} {n c : Nat} {l : List UInt8} (h : BS w A n c l) (hb : Below w.heap.size w w') : BS w' A n c l :=
  ⟨h.len, h.cap, h.max, h.nil_, fun hn => by obtain ⟨b, o, e, hB⟩ := h.at_ hn; exact ⟨b, o, e, hB.below hb⟩⟩
theorem bI_drop (l : List UInt8) (k i : Nat) : bI (l.drop k) i = bI l (k + i) := by
  unfold bI; rw [List.getD_eq_getElem?_getD, List.getD_eq_getElem?_getD, List.getElem?_drop]
theorem bI_take (l : List UInt8) (k i : Nat) (h : i < k) : bI (l.take k) i = bI l i := by
  unfold bI; rw [List.getD_eq_getElem?_getD, List.getD_eq_getElem?_getD, List.getElem?_take_of_lt h]
theorem BytesAt.drop {w : World} {b o : Nat} {l : List UInt8} (h : BytesAt w b o l) (k : Nat) : BytesAt w b (o + k) (l.drop k) :=
  ⟨fun i hi => by rw [List.length_drop] at hi; rw [bI_drop, Nat.add_assoc]; exact h.cell _ (by omega), fun hl => h.lt (by rw [List.length_drop] at hl; omega)⟩
theorem BytesAt.take {w : World} {b o : Nat} {l : List UInt8} (h : BytesAt w b o l) (k : Nat) : BytesAt w b o (l.take k) :=
  ⟨fun i hi => by rw [List.length_take] at hi; rw [bI_take _ _ _ (by omega)]; exact h.cell _ (by omega), fun hl => h.lt (by rw [List.length_take] at hl; omega)⟩

theorem bytes_cell {w : World} {b o : Nat} {l : List UInt8} (h : BytesAt w b o l) (j : Nat) (v : Value) (hj : (u8s l)[j]? = some v) : w.cell? ((⟨b, o, none⟩ : Addr).add j) = some v := by
  have hlt : j < l.length := by
    rcases Nat.lt_or_ge j l.length with h1 | h1
    · exact h1
    · rw [List.getElem?_eq_none (by rw [u8s_length]; exact h1)] at hj; cases hj
  have e : (⟨b, o, none⟩ : Addr).add j = ⟨b, o + j, none⟩ := by unfold Addr.add; split <;> simp_all
  rw [e, h.cell j hlt, ← hj, u8s_get l j hlt]
theorem splice_pad (m : List UInt8) (r : Nat) (hr : m.length = r) : splice (u8s (List.replicate 128 0)) 0 (u8s m) = u8s (m ++ List.replicate (128 - r) 0) := by
  unfold splice
  rw [List.take_zero, List.nil_append, Nat.zero_add, u8s_length, hr, u8s_append, ← u8s_drop, List.drop_replicate]
theorem set_pad (m : List UInt8) (r : Nat) (hr : m.length = r) (h : r < 128) : (m ++ List.replicate (128 - r) 0).set r 128 = m ++ 128 :: List.replicate (127 - r) 0 := by
  rw [show 128 - r = (127 - r) + 1 by omega, List.replicate_succ, List.set_append_right _ _ (by omega), hr, Nat.sub_self]; rfl
theorem tail_length (m : List UInt8) (r : Nat) (hr : m.length = r) (h : r < 128) : (m ++ 128 :: List.replicate (127 - r) 0).length = 128 := by
  rw [List.length_append, List.length_cons, List.length_replicate]; omega
theorem tail_len2 (m : List UInt8) (r T N : Nat) (hr : m.length = r) (h : r < 128) (h1 : 64 ≤ T) (h2 : T ≤ 128) :
    ((m ++ 128 :: List.replicate (127 - r) 0).take (T - 8) ++ beB N (T - (T - 8)) ++ (m ++ 128 :: List.replicate (127 - r) 0).drop (T - 8 + (T - (T - 8)))).length = 128 := by
  rw [List.length_append, List.length_append, List.length_take, List.length_drop, beB_length, tail_length m r hr h]; omega
theorem tail_take (m : List UInt8) (r T N : Nat) (hr : m.length = r) (h : r < 128) (h1 : r + 9 ≤ T) (h2 : T ≤ 128) :
    ((m ++ 128 :: List.replicate (127 - r) 0).take (T - 8) ++ beB N (T - (T - 8)) ++ (m ++ 128 :: List.replicate (127 - r) 0).drop (T - 8 + (T - (T - 8)))).take T = m ++ 128 :: (List.replicate (T - r - 9) 0 ++ beB N 8) := by
  rw [show T - (T - 8) = 8 by omega, show T - 8 + 8 = T by omega]
  have e1 : (m ++ 128 :: List.replicate (127 - r) (0 : UInt8)).take (T - 8) = m ++ 128 :: List.replicate (T - r - 9) 0 := by
    rw [List.take_append, List.take_of_length_le (by omega), hr, show T - 8 - r = (T - r - 9) + 1 by omega, List.take_succ_cons, List.take_replicate, Nat.min_eq_left (by omega)]
  rw [e1, List.take_append_of_le_length (by rw [List.length_append, List.length_append, List.length_cons, List.length_replicate, beB_length]; omega), List.take_of_length_le (by rw [List.length_append, List.length_append, List.length_cons, List.length_replicate, beB_length]; omega)]
  rw [List.append_assoc, List.cons_append]
/-- a list of bytes, filled up to whole blocks. -/
def pad (l : List UInt8) : List UInt8 := l ++ 128 :: (List.replicate ((119 - l.length % 64) % 64) 0 ++ beB (l.length * 8) 8)
theorem pad_eq (l m : List UInt8) (n k r T : Nat) (E2 : List UInt8) (hn : l.length = n) (hm : l.drop (64 * k) = m) (hr : m.length = r) (hk : n = 64 * k + r) (hT : T = 64 ∧ r ≤ 55 ∨ T = 128 ∧ 55 < r ∧ r < 64)
    (hE : E2.take T = m ++ 128 :: (List.replicate (T - r - 9) 0 ++ beB (n * 8) 8)) :
    l.take (64 * k) ++ E2.take T = pad l ∧ (pad l).length = 64 * k + T ∧ ∀ i, i < k → ((l.take (64 * k) ++ E2.take T).drop (64 * i)).take 64 = (l.drop (64 * i)).take 64 := by
  have e0 : l.take (64 * k) ++ m = l := by rw [← hm, List.take_append_drop]
  have hz : (119 - l.length % 64) % 64 = T - r - 9 := by rw [hn]; omega
  have e1 : l.take (64 * k) ++ E2.take T = pad l := by
    unfold pad
    rw [hE, ← List.append_assoc, e0, hz, hn]
  refine ⟨e1, ?_, fun i hi => ?_⟩
  · unfold pad
    rw [List.length_append, List.length_cons, List.length_append, List.length_replicate, beB_length, hz, hn]; omega
  · rw [e1]
    unfold pad
    rw [List.drop_append_of_le_length (by omega), List.take_append_of_le_length (by rw [List.length_drop]; omega)]
/-- the state after n blocks of a list of bytes. -/
def absorbN (s : S8) (l : List UInt8) : Nat → S8
  | 0 => s
  | n + 1 => compress Kc (absorbN s l n) ((l.drop (64 * n)).take 64)

theorem Blk.grown {w w' : World} {g : Nat} {t : TypeId} {cs : Array Value} {row : Option Nat} (h : Blk w g t cs) (hb : w.grownBy w' row) (hg : some g ≠ row) : Blk w' g t cs := (hb.block g h.lt hg).trans h
theorem bcell {W w1 : World} (hb : Below W.heap.size W w1) : (∀ b o, b < W.heap.size → w1.cell? ⟨b, o, none⟩ = W.cell? ⟨b, o, none⟩) ∧ (∀ b o, b < W.heap.size → w1.frozen? ⟨b, o, none⟩ = W.frozen? ⟨b, o, none⟩) :=
  ⟨fun b o h => hb.cell (p := ⟨b, o, none⟩) h, fun b o h => hb.frozen (p := ⟨b, o, none⟩) h⟩
theorem absorbN_congr (s : S8) (l l' : List UInt8) : ∀ n, (∀ i, i < n → (l.drop (64 * i)).take 64 = (l'.drop (64 * i)).take 64) → absorbN s l n = absorbN s l' n
  | 0, _ => rfl
  | n + 1, h => by rw [absorbN, absorbN, absorbN_congr s l l' n (fun i hi => h i (by omega)), h n (by omega)]
def z128 : Array Value := (u8s (List.replicate 128 0)).toArray
def z32 : Array Value := (u8s (List.replicate 32 0)).toArray

/-- the bytes of the first i words of a state. -/
def outB (S : S8) : Nat → List UInt8
  | 0 => []
  | i + 1 => outB S i ++ beB (S.get i).toNat 4
theorem outB_length (S : S8) : ∀ i, (outB S i).length = 4 * i
  | 0 => rfl
  | i + 1 => by rw [outB, List.length_append, outB_length S i, beB_length]; omega
def outZ (S : S8) (i : Nat) : List UInt8 := outB S i ++ List.replicate (32 - 4 * i) 0
theorem outZ_length (S : S8) (i : Nat) (h : i ≤ 8) : (outZ S i).length = 32 := by
  rw [outZ, List.length_append, outB_length, List.length_replicate]; omega
theorem outZ_succ (S : S8) (i : Nat) (h : i < 8) : (outZ S i).take (4 * i) ++ beB (S.get i).toNat 4 ++ (outZ S i).drop (4 * i + 4) = outZ S (i + 1) := by
  have e : (outB S i).length = 4 * i := outB_length S i
  unfold outZ
  rw [List.take_append_of_le_length (by omega), List.take_of_length_le (by omega), List.drop_append, List.drop_eq_nil_of_le (by omega), List.nil_append, e, List.drop_replicate, outB, show 32 - 4 * i - (4 * i + 4 - 4 * i) = 32 - 4 * (i + 1) by omega]
/-- the words of a state are words. -/
def S8.Ok (S : S8) : Prop := ∀ i, i < 8 → 0 ≤ S.get i ∧ S.get i < 4294967296
theorem S8.add_ok (s v : S8) : (s.add v).Ok := by
  intro i hi
  match i, hi with
  | 0, _ => simp only [S8.get, S8.add]; omega
  | 1, _ => simp only [S8.get, S8.add]; omega
  | 2, _ => simp only [S8.get, S8.add]; omega
  | 3, _ => simp only [S8.get, S8.add]; omega
  | 4, _ => simp only [S8.get, S8.add]; omega
  | 5, _ => simp only [S8.get, S8.add]; omega
  | 6, _ => simp only [S8.get, S8.add]; omega
  | 7, _ => simp only [S8.get, S8.add]; omega
theorem startS_ok : startS.Ok := by
  intro i hi
  match i, hi with
  | 0, _ => simp only [S8.get, startS]; omega
  | 1, _ => simp only [S8.get, startS]; omega
  | 2, _ => simp only [S8.get, startS]; omega
  | 3, _ => simp only [S8.get, startS]; omega
  | 4, _ => simp only [S8.get, startS]; omega
  | 5, _ => simp only [S8.get, startS]; omega
  | 6, _ => simp only [S8.get, startS]; omega
  | 7, _ => simp only [S8.get, startS]; omega
theorem absorbN_ok (l : List UInt8) : ∀ n, (absorbN startS l n).Ok
  | 0 => startS_ok
  | n + 1 => S8.add_ok _ _
/-- the hash of a list of bytes. -/
def sha (l : List UInt8) : List UInt8 := outB (absorbN startS (pad l) ((pad l).length / 64)) 8
theorem sha_length (l : List UInt8) : (sha l).length = 32 := outB_length _ 8

theorem Blk.setRow_same {w : World} {g : Nat} {t : TypeId} {cs : Array Value} (h : Blk w g t cs) : w.setRow g cs = w := by
  have e : w.heap.modify g (fun | .cells _ t' fr => .cells cs t' fr | o => o) = w.heap := by
    apply Array.ext_getElem?
    intro i
    rw [Array.getElem?_modify]
    by_cases hi : g = i
    · subst hi
      rw [if_pos rfl, show w.heap[g]? = some (.cells cs t (0, 0)) from h]; rfl
    · rw [if_neg hi]
  show ({w with heap := w.heap.modify g _} : World) = w
  exact congrArg (fun x => ({w with heap := x} : World)) e
theorem u8s_all (l : List UInt8) : (u8s l).toArray.all (·.oneCell') = true := by
  rw [Array.all_eq_true_iff_forall_mem]
  intro v hv
  exact u8s_one l v (by simpa using hv)

set_option maxRecDepth 100000 in
set_option maxHeartbeats 4000000 in
theorem dsum_any (A : Option Addr) (n c : Nat) (l : List UInt8) (w : World) (hBS : BS w A n c l) (hn : n ≤ 1000000) (hT : Tabs w) :
    Calls Tryd.prog 80 #[.slice A n c] w fun e w' => e = .returned (.agg (u8s (sha l)).toArray) ∧ Below w.heap.size w w' := by
  have t0 := hT.start 0 (by decide)
  have t1 := hT.start 1 (by decide)
  have t2 := hT.start 2 (by decide)
  have t3 := hT.start 3 (by decide)
  have t4 := hT.start 4 (by decide)
  have t5 := hT.start 5 (by decide)
  have t6 := hT.start 6 (by decide)
  have t7 := hT.start 7 (by decide)
  have h2 : 2 < w.heap.size := by have := hT.lt; omega
  have hbc := bcell ((Below.refl w.heap.size w).alloc (Nat.le_refl _) (.cells (Array.replicate 32 (.int .u8 0)) 41))
  simp only [startS, S8.get] at t0 t1 t2 t3 t4 t5 t6 t7
  go_enter Tryd.func80, Tryd.ntmps80
  go_wp2_with fail
  generalize hW0 : (w.alloc (Obj.cells _ 41)).alloc (Obj.cells _ 128) = W0
  have hz : (w.alloc (.cells z32 41)).alloc (.cells startS.arr 128) = W0 := hW0
  clear hW0 hbc t0 t1 t2 t3 t4 t5 t6 t7
  have hD : Blk W0 w.heap.size 41 z32 := by rw [← hz]; exact (Blk.new w _ _).alloc _
  have hS : Blk W0 (w.heap.size + 1) 128 startS.arr := by rw [← hz]; have := Blk.new (w.alloc (.cells z32 41)) 128 startS.arr; rwa [World.size_alloc] at this
  have hB0 : Below w.heap.size w W0 := by rw [← hz]; exact ((Below.refl _ _).alloc (Nat.le_refl _) _).alloc (by simp) _
  clear hz
  go_loopw [5] (fun x wr => ∃ (k : Nat) (A' : Option Addr) (c' : Nat), 64 * k ≤ n ∧ x = .slice A' (n - 64 * k) c' ∧ n - 64 * k ≤ c' ∧ c' ≤ 9223372036854775807 ∧ (0 < n - 64 * k → ∃ b o, A' = some ⟨b, o, none⟩ ∧ BytesAt w b o (l.drop (64 * k))) ∧
    Below w.heap.size w wr ∧ Blk wr w.heap.size 41 z32 ∧ Blk wr (w.heap.size + 1) 128 (absorbN startS l k).arr) (fun x _ => match x with | .slice _ m _ => m | _ => 0)
  case atStart => exact ⟨0, A, c, by omega, rfl, hBS.cap, hBS.max, fun h => by obtain ⟨b, o, e, h⟩ := hBS.at_ h; exact ⟨b, o, e, h.drop 0⟩, hB0, hD, hS⟩
  case round =>
    obtain ⟨k, A', c', hk, rfl, hc', hm', hat, hB, hD, hS⟩ := hrel
    by_cases hlt : 64 ≤ n - 64 * k
    · obtain ⟨b, o, rfl, hby⟩ := hat (by omega)
      have hb := hby.lt (by rw [List.length_drop, hBS.len]; omega)
      have hTr := hT.below hB hT.lt
      have hbw : BytesAt wr b o ((l.drop (64 * k)).take 64) := (hby.below hB).take 64
      have ca := absorb_any (w.heap.size + 1) b o c' ((l.drop (64 * k)).take 64) wr (by rw [List.length_take, List.length_drop, hBS.len]; omega) (by omega) (by omega) hbw _ hS Kc hTr.nums hTr.lt
      have CA := Lib.hid ca
      clear ca hTr hbw
      obtain ⟨m, hm⟩ : ∃ m, n - 64 * k = m := ⟨_, rfl⟩
      rw [hm] at hlt hc' ⊢
      have HM := Lib.hid hm; clear hm
      by_cases hcap : c' = 64
      · subst hcap
        obtain rfl : m = 64 := by omega
        go_wp2_with fail
        refine CA.out.mono ?_
        rintro e w' ⟨rfl, hG, hS2⟩
        go_wp2_with fail
        go_roundw
        case rel =>
          exact ⟨k + 1, some ⟨b, o, none⟩, 0, by have := HM.out; omega, by rw [show n - 64 * (k + 1) = 0 by have := HM.out; omega], by have := HM.out; omega, by omega, fun h => by have := HM.out; omega,
            hB.grown hG hB.size (fun k e => by cases e; omega), hD.grown hG (by intro e; injection e with e; omega), hS2⟩
        case measure => show 0 < 64; decide
      · go_wp2_with fail
        refine CA.out.mono ?_
        rintro e w' ⟨rfl, hG, hS2⟩
        go_wp2_with fail
        go_roundw
        case rel =>
          exact ⟨k + 1, some ⟨b, o + 64, none⟩, c' - 64, by have := HM.out; omega, by rw [show n - 64 * (k + 1) = m - 64 by have := HM.out; omega], by have := HM.out; omega, by omega, fun h => ⟨b, o + 64, rfl, by have := hby.drop 64; rw [List.drop_drop] at this; exact this⟩,
            hB.grown hG hB.size (fun k e => by cases e; omega), hD.grown hG (by intro e; injection e with e; omega), hS2⟩
        case measure => show m - 64 < m; omega
    · obtain ⟨r, hr⟩ : ∃ m, n - 64 * k = m := ⟨_, rfl⟩
      rw [hr] at hlt hc' hat ⊢
      have HR := Lib.hid hr; clear hr
      have hmk : ∀ w, (Instr.makeSlice 22 (.int .i64 64) (.int .i64 128)).run Tryd.prog w = .ok (.slice (some ⟨w.heap.size, 0, none⟩) 64 128) (w.alloc (.cells z128 5)) := fun _ => by kernel_rfl
      go_upto_region 8 with fail
      obtain ⟨e, he⟩ : ∃ e, wr.heap.size = e := ⟨_, rfl⟩
      have hes : w.heap.size + 1 < e := by rw [← he]; exact hS.lt
      have hE : Blk (wr.alloc (.cells z128 5)) wr.heap.size 5 (u8s (List.replicate 128 0)).toArray := Blk.new _ _ _
      have hD1 := hD.alloc (.cells z128 5)
      have hS1 := hS.alloc (.cells z128 5)
      have hB1 := hB.alloc hB.size (.cells z128 5)
      have hm : (l.drop (64 * k)).length = r := by rw [List.length_drop, hBS.len, HR.out]
      have hat1 : 0 < r → ∃ b o, A' = some ⟨b, o, none⟩ ∧ BytesAt (wr.alloc (.cells z128 5)) b o (l.drop (64 * k)) := fun h => by
        obtain ⟨b, o, e1, h1⟩ := hat h
        exact ⟨b, o, e1, h1.below hB1⟩
      rw [he] at hE ⊢
      generalize wr.alloc (Obj.cells z128 5) = W1 at hE hD1 hS1 hB1 hat1 ⊢
      obtain ⟨m, hmm⟩ : ∃ m, l.drop (64 * k) = m := ⟨_, rfl⟩
      rw [hmm] at hat1 hm
      have HMM := Lib.hid hmm
      have Hm := Lib.hid hm
      have HAT := Lib.hid hat1
      clear hmm hm hat hat1 hD hS hB hmk he
      iterate 7 go_step
      refine wpList_copy_splice rfl (.tmp 22) (.tmp 23) 22 22 rfl 5 Tryd.underlying22 (by kernel_rfl) (some ⟨e, 0, none⟩) A' 64 128 r c' rfl rfl e 0 (u8s (List.replicate 128 0)) 5 hE (u8s m) ?hn ?hpos ?hfit (u8s_one m) e W1 (Below.refl _ _) (Nat.le_refl _) ?_
      case hn => rw [u8s_length, Hm.out]; exact (Nat.min_eq_left (by omega)).symm
      case hfit => rw [u8s_length, u8s_length, Hm.out, List.length_replicate]; omega
      case hpos =>
        intro h
        rw [u8s_length, Hm.out] at h
        obtain ⟨b, o, e1, h1⟩ := HAT.out h
        exact ⟨rfl, _, e1, fun j v hj => bytes_cell h1 j v hj⟩
      intro w4 hH hB4
      have hE4 : Blk w4 e 5 (u8s (m ++ List.replicate (128 - r) 0)).toArray := by
        have := hH.out
        rw [splice_pad m r Hm.out] at this
        exact this
      have hD4 := hD1.below hB4 (by omega)
      have hS4 := hS1.below hB4 (by omega)
      have hBw := hB1.trans (hB4.mono (by omega))
      rw [u8s_length, Hm.out]
      clear hH hB4 hE hD1 hS1 hB1
      obtain ⟨v0, c1⟩ : ∃ v, w4.cell? ⟨e, r, none⟩ = some v := ⟨_, (hE4.cell r).trans (by rw [List.getElem?_toArray]; exact u8s_get _ _ (by rw [List.length_append, Hm.out, List.length_replicate]; omega))⟩
      have fr := hE4.frozen r
      go_upto_if 31 with fail
      have hE5 : Blk (w4.setCell ⟨e, r, none⟩ (.int .u8 128)) e 5 (u8s (m ++ 128 :: List.replicate (127 - r) 0)).toArray := by
        have := hE4.set_ r (.int .u8 128)
        rw [List.setIfInBounds_toArray, show Value.int .u8 128 = .int .u8 (((128 : UInt8).toNat : Nat) : Int) from rfl, ← u8s_set, set_pad m r Hm.out (by omega)] at this
        exact this
      have hD5 := hD4.far (p := ⟨e, r, none⟩) (show w.heap.size ≠ e by omega) (.int .u8 128)
      have hS5 := hS4.far (p := ⟨e, r, none⟩) (show w.heap.size + 1 ≠ e by omega) (.int .u8 128)
      have hB5 := hBw.setCell (p := ⟨e, r, none⟩) (show w.heap.size ≤ e by omega) (.int .u8 128)
      generalize w4.setCell ⟨e, r, none⟩ (.int .u8 128) = w5 at hE5 hD5 hS5 hB5 ⊢
      clear hE4 hD4 hS4 hBw c1 fr
      obtain ⟨T, hT'⟩ : ∃ T, (if r ≤ 55 then 64 else 128) = T := ⟨_, rfl⟩
      have hT1 : T = 64 ∧ r ≤ 55 ∨ T = 128 ∧ 55 < r ∧ r < 64 := by
        rw [← hT']
        by_cases h : r ≤ 55
        · rw [if_pos h]; exact .inl ⟨rfl, h⟩
        · rw [if_neg h]; exact .inr ⟨rfl, by omega, by omega⟩
      clear hT'
      have HT1 := Lib.hid hT1; clear hT1
      go_cut [6] (fun x wx => x = .slice (some ⟨e, 0, none⟩) T 128 ∧ w5 = wx)
      case first =>
        rcases HT1.out with ⟨h1, h2⟩ | ⟨h1, h2, _⟩
        · have h3 : ¬ (55 : Int) < r := by omega
          have H1 := Lib.hid h1; clear h1
          go_wp2_with fail
          go_meet
          exact ⟨by rw [H1.out], rfl⟩
        · have h3 : (55 : Int) < r := by omega
          have H1 := Lib.hid h1; clear h1
          go_wp2_with fail
          go_meet
          exact ⟨by rw [H1.out], rfl⟩
      case rest =>
        obtain ⟨rfl, rfl⟩ := hcut
        have b1 : 64 ≤ T := by have := HT1.out; omega
        have b2 : T ≤ 128 := by have := HT1.out; omega
        have cp := put_any (m ++ 128 :: List.replicate (127 - r) 0) e (T - 8) (T - (T - 8)) (128 - (T - 8)) (n * 8) 5 w5 hE5 (by omega) (by rw [tail_length m r Hm.out (by omega)]; omega) (by omega) (by rw [tail_length m r Hm.out (by omega)]; omega) (by omega)
        rw [show ((n * 8 : Nat) : Int) = (n : Int) * 8 by omega] at cp
        have hE2 := tail_take m r T (n * 8) Hm.out (by omega) (by have := HT1.out; omega) b2
        have hE2l := tail_len2 m r T (n * 8) Hm.out (by omega) b1 b2
        obtain ⟨E2, hE2e⟩ : ∃ E2, (m ++ 128 :: List.replicate (127 - r) 0).take (T - 8) ++ beB (n * 8) (T - (T - 8)) ++ (m ++ 128 :: List.replicate (127 - r) 0).drop (T - 8 + (T - (T - 8))) = E2 := ⟨_, rfl⟩
        rw [hE2e] at cp hE2 hE2l
        have hpad := pad_eq l m n k r T E2 hBS.len HMM.out Hm.out (by have := HR.out; omega) HT1.out hE2
        have CP := Lib.hid cp
        have HP := Lib.hid hpad
        have HL2 := Lib.hid hE2l
        clear cp hE2e hE2 hpad hE2l
        go_wp2_with fail
        refine CP.out.mono ?_
        rintro e1 w6 ⟨rfl, hE6, hG6, hz6⟩
        have hD6 := hD5.grown hG6 (by intro e'; injection e' with e'; omega)
        have hS6 := hS5.grown hG6 (by intro e'; injection e' with e'; omega)
        have hB6 := hB5.grown hG6 hB5.size (fun k e' => by cases e'; omega)
        have hS6' : Blk w6 (w.heap.size + 1) 128 (absorbN startS (pad l) k).arr := by
          rw [absorbN_congr startS (pad l) l k (fun i hi => by rw [← (HP.out).1]; exact (HP.out).2.2 i hi)]; exact hS6
        clear CP hE5 hD5 hS5 hB5 hG6 hS6
        go_wp2_with fail
        go_loopw [6] (fun x wq => ∃ (j : Nat) (A'' : Option Addr), 64 * j ≤ T ∧ x = .slice A'' (T - 64 * j) (128 - 64 * j) ∧ (0 < T - 64 * j → A'' = some ⟨e, 64 * j, none⟩) ∧ Below w.heap.size w wq ∧ Blk wq w.heap.size 41 z32 ∧ Blk wq e 5 (u8s E2).toArray ∧ Blk wq (w.heap.size + 1) 128 (absorbN startS (pad l) (k + j)).arr)
          (fun x _ => match x with | .slice _ m _ => m | _ => 0)
        case atStart => exact ⟨0, some ⟨e, 0, none⟩, by omega, rfl, fun _ => rfl, hB6, hD6, hE6, hS6'⟩
        case round =>
          obtain ⟨j, A'', hj, rfl, hA, hB, hD, hE, hS⟩ := hrel
          have hBE : BytesAt wr e (64 * j) ((E2.drop (64 * j)).take 64) := by
            refine ⟨fun i hi => ?_, fun _ => hE.lt⟩
            rw [List.length_take, List.length_drop] at hi
            rw [(hE.cell (64 * j + i)), List.getElem?_toArray, u8s_get _ _ (by omega), bI_take _ _ _ (by omega), bI_drop]
          by_cases hlt : 0 < T - 64 * j
          · have hj2 : j = 0 ∨ j = 1 ∧ T = 128 := by have := HT1.out; omega
            have h64 : 64 ≤ T - 64 * j := by have := HT1.out; omega
            have hTr := hT.below hB hT.lt
            have hblk : ((pad l).drop (64 * (k + j))).take 64 = (E2.drop (64 * j)).take 64 := by
              rw [← (HP.out).1, List.drop_append, List.drop_eq_nil_of_le (by rw [List.length_take]; omega), List.nil_append, List.length_take, hBS.len, Nat.min_eq_left (by omega), show 64 * (k + j) - 64 * k = 64 * j by omega, List.drop_take, List.take_take, Nat.min_eq_left (by omega)]
            have ca := absorb_any (w.heap.size + 1) e (64 * j) (128 - 64 * j) ((E2.drop (64 * j)).take 64) wr (by rw [List.length_take, List.length_drop, HL2.out]; omega) (by omega) (by omega) hBE _ hS Kc hTr.nums hTr.lt
            have hcomp : compress Kc (absorbN startS (pad l) (k + j)) ((E2.drop (64 * j)).take 64) = absorbN startS (pad l) (k + j + 1) := by
              rw [absorbN, hblk]
            rw [hcomp] at ca
            clear hcomp hblk hBE hTr
            obtain rfl := hA hlt
            clear hA
            obtain ⟨st2, hst2⟩ : ∃ x, (absorbN startS (pad l) (k + j + 1)).arr = x := ⟨_, rfl⟩
            rw [hst2] at ca
            have CA := Lib.hid ca
            have HST2 := Lib.hid hst2
            clear ca hst2
            rcases hj2 with rfl | ⟨rfl, h128⟩
            · simp only [Nat.mul_zero, Nat.sub_zero] at CA ⊢
              have HB := Lib.hid hB; have HD := Lib.hid hD; have HE := Lib.hid hE
              clear hB hD hE hS
              go_wp2_with fail
              refine CA.out.mono ?_
              rintro e1 w7 ⟨rfl, hG, hS2⟩
              rw [← HST2.out] at hS2
              have hB := HB.out; have hD := HD.out; have hE := HE.out
              go_wp2_with fail
              go_roundw
              case rel =>
                exact ⟨1, _, by omega, rfl, fun _ => rfl, hB.grown hG hB.size (fun k e => by cases e; omega), hD.grown hG (by intro e; injection e with e; omega), hE.grown hG (by intro e; injection e with e; omega), hS2⟩
              case measure => show T - 64 < T; omega
            · have hTe : T - 64 * 1 = 64 := by omega
              rw [hTe]
              have H128 := Lib.hid h128
              have HTe := Lib.hid hTe
              clear h128 hTe h64 hlt
              simp only [show 128 - 64 * 1 = 64 from rfl, Nat.mul_one] at CA
              rw [show 128 - 64 * 1 = 64 from rfl, show 64 * 1 = 64 from rfl]
              have HB := Lib.hid hB; have HD := Lib.hid hD; have HE := Lib.hid hE
              clear hB hD hE hS
              go_wp2_with fail
              refine CA.out.mono ?_
              rintro e1 w7 ⟨rfl, hG, hS2⟩
              rw [← HST2.out] at hS2
              have hB := HB.out; have hD := HD.out; have hE := HE.out
              go_wp2_with fail
              go_roundw
              case rel =>
                have h128 := H128.out
                exact ⟨2, some ⟨e, 64 * 1, none⟩, by omega, by rw [show T - 64 * 2 = 0 by omega], fun h => by omega, hB.grown hG hB.size (fun k e => by cases e; omega), hD.grown hG (by intro e; injection e with e; omega), hE.grown hG (by intro e; injection e with e; omega), hS2⟩
              case measure => show 0 < 64; decide
          · have hTj : T = 64 * j := by omega
            have hfin : k + j = (pad l).length / 64 := by rw [(HP.out).2.1, hTj]; omega
            rw [hfin] at hS
            have hz0 : T - 64 * j = 0 := by omega
            have HTj := Lib.hid hTj
            clear hTj
            obtain ⟨S, hSe⟩ : ∃ S, absorbN startS (pad l) ((pad l).length / 64) = S := ⟨_, rfl⟩
            rw [hSe] at hS
            have HSE := Lib.hid hSe
            clear hSe hfin hA hBE hE hlt
            rw [hz0]
            clear hz0
            go_upto_region 16 with fail
            have s0 := hS.cell 0
            have s1 := hS.cell 1
            have s2 := hS.cell 2
            have s3 := hS.cell 3
            have s4 := hS.cell 4
            have s5 := hS.cell 5
            have s6 := hS.cell 6
            have s7 := hS.cell 7
            simp only [S8.arr] at s0 s1 s2 s3 s4 s5 s6 s7
            go_wp2_with fail
            have hagg : (#[.int .u32 S.a, .int .u32 S.b, .int .u32 S.c, .int .u32 S.d, .int .u32 S.e, .int .u32 S.f, .int .u32 S.g, .int .u32 S.h] : Array Value) = S.arr := rfl
            rw [hagg]
            have hok : S.Ok := by rw [← HSE.out]; exact absorbN_ok _ _
            have HOK := Lib.hid hok
            have hgs : ∀ i, i < 8 → S.arr[i]? = some (.int .u32 (S.get i)) := S.arr_get
            have HGS := Lib.hid hgs
            have hD0 : Blk wr w.heap.size 41 (u8s (outZ S 0)).toArray := hD
            obtain ⟨ar, har⟩ : ∃ ar, S.arr = ar := ⟨_, rfl⟩
            rw [har] at HGS ⊢
            clear s0 s1 s2 s3 s4 s5 s6 s7 hagg hok hgs har hS hD hB6 hD6 hS6' hE6 hz6
            go_loopw [54] (fun x wq => ∃ i : Nat, i ≤ 8 ∧ x = .int .i64 i ∧ Below w.heap.size w wq ∧ Blk wq w.heap.size 41 (u8s (outZ S i)).toArray) (fun x _ => 8 - (intOf x).toNat)
            case atStart => exact ⟨0, by omega, rfl, hB, hD0⟩
            case round =>
              obtain ⟨i, hi, rfl, hB, hD⟩ := hrel
              by_cases hlt : i < 8
              · have hlt' : (i : Int) < 8 := by omega
                have hi0 : 0 ≤ (i : Int) := by omega
                obtain ⟨x, hx⟩ : ∃ x, S.get i = x := ⟨_, rfl⟩
                have hget := HGS.out i hlt
                have hok := HOK.out i hlt
                rw [hx] at hget hok
                obtain ⟨n0, rfl⟩ : ∃ n : Nat, x = n := ⟨x.toNat, by omega⟩
                have cp := put_any (outZ S i) w.heap.size (4 * i) 4 (32 - 4 * i) n0 41 wr hD (by omega) (by rw [outZ_length S i hi]; omega) (by omega) (by rw [outZ_length S i hi]; omega) (by omega)
                rw [show n0 = (S.get i).toNat by rw [hx]; rfl, outZ_succ S i hlt, hx] at cp
                have CP := Lib.hid cp
                have e1 : (4 * (i : Int)).toNat = 4 * i := by omega
                have e2 : (4 * (i : Int) + 4).toNat = 4 * i + 4 := by omega
                have g1 : 0 ≤ 4 * (i : Int) := by omega
                have g2 : 0 ≤ 4 * (i : Int) + 4 := by omega
                have g3 : 4 * (i : Int) + 4 ≤ 32 := by omega
                have g4 : 4 * (i : Int) ≤ 4 * (i : Int) + 4 := by omega
                have g5 : ¬ (i : Int) < 0 := by omega
                have g6 : 4 * i + 4 - 4 * i = 4 := by omega
                clear cp hx
                have hidx : (Instr.index 128 (.agg ar) (.int .i64 i)).run Tryd.prog wr = .ok (.int .u32 n0) wr := by
                  simp [Instr.index, run_underlying Tryd.underlying128, asIntOf, go_sem, hget, hlt', hi0]
                  intro h; omega
                clear hD
                go_wp2_with fail
                refine CP.out.mono ?_
                rintro e1 w7 ⟨rfl, hD2, hG, _⟩
                go_wp2_with fail
                go_roundw
                case rel =>
                  exact ⟨i + 1, by omega, by go_num, hB.grown hG hB.size (fun k e => by cases e; omega), hD2⟩
                case measure => simp [intOf]; omega
              · obtain rfl : i = 8 := by omega
                rw [show ((8 : Nat) : Int) = 8 from rfl]
                have hDs : Blk wr w.heap.size 41 (u8s (sha l)).toArray := by
                  have e : outZ S 8 = sha l := by unfold outZ sha; rw [HSE.out]; exact List.append_nil _
                  rw [← e]; exact hD
                have hsz : (u8s (sha l)).toArray.size = 32 := by rw [List.size_toArray, u8s_length, sha_length]
                have hall := u8s_all (sha l)
                obtain ⟨ds, hds⟩ : ∃ ds, (u8s (sha l)).toArray = ds := ⟨_, rfl⟩
                rw [hds] at hDs hsz hall
                have HDS := Lib.hid hds
                clear hD hds hD0
                have hl : (loadVar 41 ⟨w.heap.size, 0, none⟩).run Tryd.prog wr = .ok (.agg ds) wr := run_loadVar_row wr _ 41 41 ds _ _ hDs Tryd.underlying41 rfl (by rw [hsz]; kernel_rfl)
                have hst : (storeVar 41 ⟨w.heap.size, 0, none⟩ (.agg ds)).run Tryd.prog wr = .ok () wr := by
                  rw [run_storeVar_row wr _ 41 41 ds ds hDs (by rw [hsz]; kernel_rfl) rfl hall, hDs.setRow_same]
                go_upto_region 21 with fail
                apply wp_region_lit
                refine wpList_load_row rfl 41 (.tmp 2) rfl w.heap.size rfl 41 ds _ _ hDs Tryd.underlying41 rfl (by rw [hsz]; kernel_rfl) ?_
                refine wpList_store_row rfl 41 (.tmp 2) (.tmp 68) rfl w.heap.size ds rfl rfl 41 ds hDs (by rw [hsz]; kernel_rfl) rfl hall ?_
                rw [hDs.setRow_same]
                apply wpList_nil
                go_wp2_with fail
                rw [HDS.out]
                refine bodyPost_ret (v := .agg ds) ?_ rfl ⟨rfl, hB⟩
                exact results_cell_row (p := 2) (ty := 41) rfl _ wr w.heap.size 41 ds (0, 0) _ rfl hDs Tryd.underlying41 rfl (by rw [hsz]; kernel_rfl)
end Go.Proofs.YtedokiemlkccaaaDoor
