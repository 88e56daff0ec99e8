/- The walk of group.rest and group.Scalar. -/
import Derived.Test.YtedokiemlkccaaaDoorV
import Derived.Outline
set_option linter.all false
namespace Go.Proofs.YtedokiemlkccaaaDoor
open Go.RowKit
/-- one byte is folded into the rest. -/
theorem fold_any (x b m gn gm : Nat) (w : World) (hx : x < m) (hb : b < 256) (hm : 1152921504606846976 ≤ m) (hm' : m < 4611686018427387904)
    (h1 : w.cell? ⟨gn, 0, none⟩ = some (.int .u64 x)) (h2 : w.cell? ⟨gm, 0, none⟩ = some (.int .u64 m)) (hf : w.frozen? ⟨gn, 0, none⟩ = false) :
    Calls Tryd.prog 107 #[.int .u8 b, .pointer (some ⟨gn, 0, none⟩), .pointer (some ⟨gm, 0, none⟩)] w fun e w' => e = .returned (.tuple #[]) ∧ ∃ k, w' = (w.drewN k).setCell ⟨gn, 0, none⟩ (.int .u64 (((x * 256 + b) % m : Nat) : Int)) := by
  have hw : IntKind.u64.wrap ((x : Int) * 256) = ((x % 72057594037927936 * 2 ^ 8 : Nat) : Int) := by
    rw [show IntKind.u64.wrap ((x : Int) * 256) = (x : Int) * 256 % 18446744073709551616 from rfl]; omega
  have ho : bits .or .u64 (IntKind.u64.wrap ((x : Int) * 256)) (b : Int) = ((x % 72057594037927936 * 256 + b : Nat) : Int) := by
    rw [hw, M.orN _ b 8 hb (by omega)]
  have hd : (x : Int) / 72057594037927936 = ((x / 72057594037927936 : Nat) : Int) := by omega
  have cd := div64_any (x / 72057594037927936) (x % 72057594037927936 * 256 + b) m w (by omega) (by omega) hm hm'
  rw [show x / 72057594037927936 * 18446744073709551616 + (x % 72057594037927936 * 256 + b) = x * 256 + b by omega] at cd
  rw [← hd, ← ho] at cd
  obtain ⟨q, hq⟩ : ∃ q, (((x * 256 + b) / m : Nat) : Int) = q := ⟨_, rfl⟩
  obtain ⟨r, hr⟩ : ∃ r, (((x * 256 + b) % m : Nat) : Int) = r := ⟨_, rfl⟩
  rw [hq, hr] at cd
  rw [hr]
  have CD := Lib.hid cd
  clear cd ho hw hd hq hr
  go_enter Tryd.func107, Tryd.ntmps107
  go_wp2_with fail
  refine CD.out.mono ?_
  rintro e w1 ⟨rfl, k, rfl⟩
  have hf' : (w.drewN k).frozen? ⟨gn, 0, none⟩ = false := hf
  have h1' : (w.drewN k).cell? ⟨gn, 0, none⟩ = some (.int .u64 x) := h1
  go_wp2_with fail
  go_end0
  exact ⟨rfl, k, rfl⟩
/-- the number of a list of bytes, modulo m. -/
def restN (m : Nat) : List UInt8 → Nat → Nat
  | [], n => n
  | b :: l, n => restN m l ((n * 256 + b.toNat) % m)
theorem restN_append (m : Nat) : ∀ (l k : List UInt8) (n : Nat), restN m (l ++ k) n = restN m k (restN m l n)
  | [], _, _ => rfl
  | _ :: l, k, n => restN_append m l k _
theorem restN_lt (m : Nat) (hm : 0 < m) : ∀ (l : List UInt8) (n : Nat), n < m → restN m l n < m
  | [], _, h => h
  | _ :: l, _, _ => restN_lt m hm l _ (Nat.mod_lt _ hm)
theorem restN_take (m : Nat) (l : List UInt8) (i : Nat) (h : i < l.length) : restN m (l.take (i + 1)) 0 = (restN m (l.take i) 0 * 256 + (l[i]).toNat) % m := by
  rw [List.take_succ_eq_append_getElem h, restN_append]; rfl
theorem results_cell_one {P : Program} {fn : Func} {p : Tmp} {ty : TypeId} {k : IntKind} (h : fn.results = #[.cell p ty]) (tmps : Array Value) (w : World) (g : Nat) (v : Value)
    (hp : tmps.getD p undef = .pointer (some ⟨g, 0, none⟩)) (hc : w.cell? ⟨g, 0, none⟩ = some v) (hu : P.underlying ty = some (.int k)) : (results fn tmps).run P w = .ok v w := by
  have hp' : tmps[p]?.getD undef = .pointer (some ⟨g, 0, none⟩) := by simpa using hp
  simp [results, h, hp', asAddr, loadVar, isAgg, run_underlying hu, hc, go_sem]
set_option maxRecDepth 100000 in
/-- group.rest. -/
theorem rest_any (l : List UInt8) (m : Nat) (w : World) (hl : l.length = 32) (hm : 1152921504606846976 ≤ m) (hm' : m < 4611686018427387904) :
    Calls Tryd.prog 71 #[.agg (u8s l).toArray, .int .u64 m] w fun e w' => e = .returned (.int .u64 (restN m l 0)) ∧ Below w.heap.size w w' := by
  have hsz : (u8s l).toArray.size = 32 := by rw [List.size_toArray, u8s_length, hl]
  have hgs : ∀ i, (h : i < l.length) → (u8s l).toArray[i]? = some (.int .u8 ((l[i]).toNat : Int)) := fun i h => by
    rw [List.getElem?_toArray]; unfold u8s; rw [List.getElem?_map, List.getElem?_eq_getElem h]; rfl
  have HGS := Lib.hid hgs
  obtain ⟨ar, har⟩ : ∃ ar, (u8s l).toArray = ar := ⟨_, rfl⟩
  rw [har] at HGS hsz ⊢
  clear hgs har
  go_enter Tryd.func71, Tryd.ntmps71
  go_upto_region 1 with fail
  have ha : Blk (((w.alloc (.cells ar 41)).alloc (.cells #[.int .u64 m] 83)).alloc (.cells #[.int .u64 0] 83)) w.heap.size 41 ar := ((Blk.new _ _ _).alloc _).alloc _
  have hM : Blk (((w.alloc (.cells ar 41)).alloc (.cells #[.int .u64 m] 83)).alloc (.cells #[.int .u64 0] 83)) (w.heap.size + 1) 83 #[.int .u64 m] := by
    have := (Blk.new (w.alloc (.cells ar 41)) 83 #[.int .u64 m]).alloc (.cells #[.int .u64 0] 83)
    rwa [World.size_alloc] at this
  have hN : Blk (((w.alloc (.cells ar 41)).alloc (.cells #[.int .u64 m] 83)).alloc (.cells #[.int .u64 0] 83)) (w.heap.size + 1 + 1) 83 #[.int .u64 0] := by
    have := Blk.new ((w.alloc (.cells ar 41)).alloc (.cells #[.int .u64 m] 83)) 83 #[.int .u64 0]
    rwa [World.size_alloc, World.size_alloc] at this
  have hb1 : Below w.heap.size w (((w.alloc (.cells ar 41)).alloc (.cells #[.int .u64 m] 83)).alloc (.cells #[.int .u64 0] 83)) :=
    (((Below.refl _ w).alloc (Nat.le_refl _) _).alloc (by simp) _).alloc (by simp; omega) _
  generalize ((w.alloc (.cells ar 41)).alloc (.cells #[.int .u64 m] 83)).alloc (.cells #[.int .u64 0] 83) = w1 at ha hM hN hb1 ⊢
  go_upto_region 2 with fail
  apply wp_region_lit
  refine wpList_load_row rfl 41 (.tmp 2) rfl w.heap.size rfl 41 ar _ _ ha Tryd.underlying41 rfl (by rw [hsz]; kernel_rfl) ?_
  clear ha hsz
  go_wp2_with fail
  go_loopw [10] (fun x wr => ∃ i : Nat, i ≤ 32 ∧ x = .int .i64 i ∧ Below w.heap.size w wr ∧ Blk wr (w.heap.size + 1) 83 #[.int .u64 m] ∧ Blk wr (w.heap.size + 1 + 1) 83 #[.int .u64 (restN m (l.take i) 0)]) (fun x _ => 32 - (intOf x).toNat)
  case atStart => exact ⟨0, by omega, rfl, hb1, hM, hN⟩
  case round =>
    obtain ⟨i, hi, rfl, hB, hM, hN⟩ := hrel
    by_cases hlt : i < 32
    · have hlt' : (i : Int) < 32 := by omega
      have hi0 : 0 ≤ (i : Int) := by omega
      have hget := HGS.out i (by omega)
      have hbyte : (l[i]'(by omega)).toNat < 256 := (l[i]'(by omega)).toNat_lt
      have hstep := restN_take m l i (by omega)
      obtain ⟨b, hb⟩ : ∃ b, (l[i]'(by omega)).toNat = b := ⟨_, rfl⟩
      rw [hb] at hget hstep hbyte
      have hidx : (Instr.index 41 (.agg ar) (.int .i64 i)).run Tryd.prog wr = .ok (.int .u8 b) wr := by
        simp [Instr.index, run_underlying Tryd.underlying41, asIntOf, go_sem, hget, hi0]
        intro h; omega
      obtain ⟨x, hx⟩ : ∃ x, restN m (l.take i) 0 = x := ⟨_, rfl⟩
      have hxm : x < m := by rw [← hx]; exact restN_lt m (by omega) _ _ (by omega)
      rw [hx] at hN hstep
      have cf := fold_any x b m (w.heap.size + 1 + 1) (w.heap.size + 1) wr hxm hbyte hm hm' (hN.cell 0) (hM.cell 0) (hN.frozen 0)
      rw [← hstep] at cf
      have CF := Lib.hid cf
      clear cf hget hb hx hxm hbyte hstep
      go_wp2_with fail
      refine CF.out.mono ?_
      rintro e w2 ⟨rfl, k, rfl⟩
      go_wp2_with fail
      go_roundw
      case rel =>
        refine ⟨i + 1, by omega, by go_num, (below_drewN hB k).setCell (p := ⟨w.heap.size + 1 + 1, 0, none⟩) (by show w.heap.size ≤ w.heap.size + 1 + 1; omega) _, (hM.drewN k).far (p := ⟨w.heap.size + 1 + 1, 0, none⟩) (by show w.heap.size + 1 ≠ w.heap.size + 1 + 1; omega) _, (hN.drewN k).set_ 0 _⟩
      case measure => simp [intOf]; omega
    · obtain rfl : i = 32 := by omega
      rw [show ((32 : Nat) : Int) = 32 from rfl]
      rw [List.take_of_length_le (by omega)] at hN
      have c0 := hN.cell 0
      have f0 := hN.frozen 0
      go_wp2_with fail
      have hN2 := hN.set_ 0 (.int .u64 (restN m l 0))
      have c1 : (wr.setCell ⟨w.heap.size + 1 + 1, 0, none⟩ (.int .u64 (restN m l 0))).cell? ⟨w.heap.size + 1 + 1, 0, none⟩ = some (.int .u64 (restN m l 0)) := hN2.cell 0
      refine bodyPost_ret (v := .int .u64 (restN m l 0)) ?_ rfl ⟨rfl, hB.setCell (p := ⟨w.heap.size + 1 + 1, 0, none⟩) (by show w.heap.size ≤ w.heap.size + 1 + 1; omega) _⟩
      exact results_cell_one (p := 4) (ty := 83) rfl _ _ (w.heap.size + 1 + 1) _ rfl c1 Tryd.underlying83
/-- group.Scalar of what digest.Tagged hands back. -/
def scalN (d : List UInt8) : Nat := 1 + restN 2305843009213688668 d 0
theorem scalN_pos (d : List UInt8) : 1 ≤ scalN d ∧ scalN d < 2305843009213688669 := by
  have := restN_lt 2305843009213688668 (by omega) d 0 (by omega)
  unfold scalN; omega
def tagB (tag l : List UInt8) : List UInt8 := sha (sha tag ++ l)
theorem tagB_length (tag l : List UInt8) : (tagB tag l).length = 32 := sha_length _
/-- group.Scalar. -/
theorem scalar_any (tag : List UInt8) (A : Option Addr) (n c : Nat) (l : List UInt8) (w : World) (ht : tag.length ≤ 100000) (h : BS w A n c l) (hn : n ≤ 100000) (hT : Tabs w) :
    Calls Tryd.prog 29 #[.string ⟨tag.toArray⟩, .slice A n c] w fun e w' => e = .returned (.int .i64 (scalN (tagB tag l))) ∧ Below w.heap.size w w' := by
  have ct := tagged_any tag A n c l w ht h hn hT
  have cr := fun W => rest_any (tagB tag l) 2305843009213688668 W (tagB_length _ _) (by omega) (by omega)
  have hp := scalN_pos (tagB tag l)
  have hq : ((scalN (tagB tag l) : Nat) : Int) = 1 + (restN 2305843009213688668 (tagB tag l) 0 : Nat) := by unfold scalN; omega
  rw [show sha (sha tag ++ l) = tagB tag l from rfl] at ct
  obtain ⟨r, hr⟩ : ∃ r, restN 2305843009213688668 (tagB tag l) 0 = r := ⟨_, rfl⟩
  simp only [hr] at cr
  rw [hr] at hq
  have hr0 : (0 : Int) ≤ r := by omega
  have hr1 : (r : Int) < 2305843009213688668 := by omega
  rw [hq]
  have CT := Lib.hid ct; have CR := Lib.hid cr
  clear ct cr hp hq hr
  go_enter Tryd.func29, Tryd.ntmps29
  go_wp2_with fail
  refine CT.out.mono ?_
  rintro e w1 ⟨rfl, hb1⟩
  go_wp2_with fail
  refine (CR.out _).mono ?_
  rintro e w2 ⟨rfl, hb2⟩
  go_wp2_with fail
  go_ret
  exact ⟨rfl, bl hb1 hb2⟩
end Go.Proofs.YtedokiemlkccaaaDoor
