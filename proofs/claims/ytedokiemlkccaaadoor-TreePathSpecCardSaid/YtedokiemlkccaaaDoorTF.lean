/- Same of the reference of tree; nodes as words of their own; what the examples of chapter 41 need. -/
import Derived.Test.YtedokiemlkccaaaDoorTE
import Derived.Deep.QuietTactic
import Derived.Deep.RegionHeld3
set_option linter.all false
namespace Go.Proofs.YtedokiemlkccaaaDoor
open Go.RowKit
open Go.RowKit Go.Shelf
attribute [local go_sem] Oper.semAt_some
theorem climb_any (nd : Nd) (at_ many : Int) (A : Option Addr) (k c : Nat) (path : List Nd) (w : World) (hd : nd.d.length = 32) (h : NS w A k c path) (hT : Tabs w) : Calls Tryd.prog 48 #[.agg nd.arr, .int .i64 at_, .int .i64 many, .slice A k c] w fun e w' => e = .returned (.tuple #[.agg (climbV nd at_ many path).1.arr, .int .i64 (climbV nd at_ many path).2]) ∧ Below w.heap.size w w' := by
  cases hc : climbA at_ many
  · have e : climbV nd at_ many path = (nd0, 1) := by unfold climbV; rw [hc]; rfl
    rw [e]
    exact climb_arg nd at_ many A k c w hd hc
  · have h2 := of_decide_eq_true hc
    obtain ⟨j, rfl⟩ : ∃ j : Nat, at_ = j := ⟨at_.toNat, by omega⟩
    obtain ⟨m, rfl⟩ : ∃ m : Nat, many = m := ⟨many.toNat, by omega⟩
    exact climb_go nd j m A k c path w hd (by omega) (by omega) h hT
theorem stepR_len {n : Nd} {x : Bool × Nd} : (stepR n x).d.length = 32 := by unfold stepR; split <;> exact joinR_len _ _
theorem upV_len : ∀ (l : List (Bool × Nd)) (n : Nd), n.d.length = 32 → (upV n l).1.d.length = 32
  | [], n, h => h
  | x :: l, n, h => by
    unfold upV
    split
    · exact upV_len l _ stepR_len
    · rfl
theorem climbV_len (nd : Nd) (at_ many : Int) (path : List Nd) (hd : nd.d.length = 32) : (climbV nd at_ many path).1.d.length = 32 := by
  unfold climbV
  split
  · split
    · split
      · exact upV_len _ _ hd
      · rfl
    · rfl
  · rfl
theorem eq_digest_at (d : Nat) (a b : List UInt8) (ha : a.length = 32) (hb : b.length = 32) (W : World) :
    (Op.equalIn (d + 2) 41 (.agg (u8s a).toArray) (.agg (u8s b).toArray)).run Tryd.prog W = .ok (decide (a = b)) W := by
  obtain ⟨i, hi, _⟩ := info_parts info5
  have hall : ((List.range 32).all fun i => bI a i == bI b i) = decide (a = b) := by
    by_cases h : a = b
    · rw [decide_eq_true h, List.all_eq_true, h]
      intro i _; simp
    · rw [decide_eq_false h]
      apply Bool.eq_false_iff.2
      intro hall
      apply h
      apply bI_inj (by omega)
      intro i hi
      have := List.all_eq_true.1 hall i (List.mem_range.2 (by omega))
      simpa using this
  have hc : Tryd.prog.cellsOf 5 = 1 := by kernel_rfl
  have h1 := run_equalIn_array (P := Tryd.prog) W (d + 1) (u8s a).toArray (u8s b).toArray Tryd.underlying41 hi
  have h2 := eqItems_u8 a b W d (List.range 32) (fun i hi => by have := List.mem_range.1 hi; omega)
  rw [hall] at h2
  rw [hc] at h1
  exact h1.trans h2
/-- two nodes are equal. -/
def eqN (a b : Nd) : Bool := decide (a.d = b.d) && (a.c == b.c) && (a.p == b.p)
theorem eqN_iff (a b : Nd) : eqN a b = true ↔ a = b := by
  obtain ⟨d, c, p⟩ := a
  obtain ⟨d', c', p'⟩ := b
  simp [eqN, and_assoc]
theorem Nd.ext' {a b : Nd} (h1 : a.d = b.d) (h2 : a.c = b.c) (h3 : a.p = b.p) : a = b := by
  obtain ⟨d, c, p⟩ := a
  obtain ⟨d', c', p'⟩ := b
  cases h1; cases h2; cases h3; rfl
theorem eqN_self (a : Nd) : eqN a a = true := (eqN_iff a a).2 rfl
theorem eqN_ne {a b : Nd} (h : a ≠ b) : eqN a b = false := Bool.eq_false_iff.2 (fun e => h ((eqN_iff a b).1 e))
theorem fields46 : (Tryd.prog.fieldsOf 46).toList.map (fun f => (f.name != "_", f.type, f.offset)) = [(true, 41, 0), (true, 3, 32), (true, 3, 33)] := by kernel_rfl
theorem struct46 : Tryd.prog.underlying 46 = some (.struct (Tryd.prog.fieldsOf 46)) := by kernel_rfl
theorem run_part41 (n : Nd) (h : n.d.length = 32) (W : World) : (part 41 n.arr 0).run Tryd.prog W = .ok (.agg (u8s n.d).toArray) W := by
  obtain ⟨i41, h41, z41, s41, _⟩ := info_parts info41
  have e : n.arr.extract 0 32 = (u8s n.d).toArray := by
    unfold Nd.arr Nd.cells
    rw [List.extract_toArray, List.extract_eq_take_drop]
    simp only [List.drop_zero, Nat.sub_zero]
    rw [List.take_append_of_le_length (by rw [u8s_length]; omega), List.take_of_length_le (by rw [u8s_length]; omega)]
  simp [part, isAgg, run_underlying Tryd.underlying41, sizeOf, typeInfo, h41, s41]
  exact e
theorem eq_node (a b : Nd) (ha : a.d.length = 32) (hb : b.d.length = 32) (W : World) : (Op.equalIn 10000 46 (.agg a.arr) (.agg b.arr)).run Tryd.prog W = .ok (eqN a b) W := by
  have hf := fields46
  obtain ⟨f1, l1, e1, h1, r1⟩ := List.map_eq_cons_iff.1 hf
  obtain ⟨f2, l2, rfl, h2, r2⟩ := List.map_eq_cons_iff.1 r1
  obtain ⟨f3, l3, rfl, h3, r3⟩ := List.map_eq_cons_iff.1 r2
  obtain rfl := List.map_eq_nil_iff.1 r3
  have e123 : (Tryd.prog.fieldsOf 46).toList = [f1, f2, f3] := e1
  rw [e123] at hf
  simp only [List.map_cons, List.map_nil, List.cons.injEq, Prod.mk.injEq, and_true, bne_iff_ne] at hf
  obtain ⟨⟨n1, t1, o1⟩, ⟨n2, t2, o2⟩, n3, t3, o3⟩ := hf
  have p3 : Tryd.prog.plainKey 3 = true := by kernel_rfl
  have g32a := a.get32 ha
  have g33a := a.get33 ha
  have g32b := b.get32 hb
  have g33b := b.get33 hb
  rw [show (10000 : Nat) = 9999 + 1 from rfl, run_equalIn_struct W 9999 46 a.arr b.arr struct46 (by kernel_rfl), e123]
  have h9 := eq_digest_at 9997 a.d b.d ha hb W
  simp only [Op.eqFields, n1, n2, n3, t1, t2, t3, o1, o2, o3, ne_eq, not_false_eq_true, if_true, Sem.run_ite, Sem.run_bind, run_part41 a ha, run_part41 b hb, h9, Result.andThen_ok, run_part_plain W p3 g32a, run_part_plain W p3 g32b, run_part_plain W p3 g33a, run_part_plain W p3 g33b, run_equalIn_int W 9998 3 .i64 .i64 _ _ Tryd.underlying3, eqN]
  by_cases q1 : a.d = b.d
  · by_cases q2 : a.c = b.c
    · by_cases q3 : a.p = b.p
      · simp [q1, q2, q3]
      · simp [q1, q2, q3]
    · simp [q1, q2]
  · simp [q1]
open Go.RowKit Go.Shelf
attribute [local go_sem] Oper.semAt_some
/-- a load of a node, as a word of its own. -/
def ld46 (a : Addr) : Sem Value := loadVar 46 a
theorem ld46_in (a : Addr) : loadVar 46 a = ld46 a := rfl
/-- a store of a node, as a word of its own. -/
def st46 (a : Addr) (v : Value) : Sem Unit := storeVar 46 a v
theorem st46_in (a : Addr) (v : Value) : storeVar 46 a v = st46 a v := rfl
/-- a slice of nodes written out, as a word of its own. -/
def bs46 (n : Nat) (l : Array (Nat × Value)) : Sem Value := Instr.buildSlice 44 n l
theorem bs46_in (n : Nat) (l : Array (Nat × Value)) : Instr.buildSlice 44 n l = bs46 n l := rfl
/-- the cells of a node. -/
def OkX (X : Array Value) : Prop := X.size = 34 ∧ X.all (·.oneCell') = true
theorem okX (n : Nd) (h : n.d.length = 32) : OkX n.arr := ⟨Nd.size n h, nd_all n⟩
theorem ld_range {W : World} {g o : Nat} {cs : List Value} (hc : W.rangeAt g o cs) (hl : cs.length = 34) : (ld46 ⟨g, o, none⟩).run Tryd.prog W = .ok (.agg cs.toArray) W :=
  run_loadVar_mid W g o 46 cs _ hc Tryd.underlying46 rfl (by rw [hl]; exact size46)
theorem ld_blk {W : World} {g : Nat} {X : Array Value} (h : Blk W g 46 X) (hX : OkX X) : (ld46 ⟨g, 0, none⟩).run Tryd.prog W = .ok (.agg X) W :=
  run_loadVar_row (P := Tryd.prog) W g 46 46 X _ _ h Tryd.underlying46 rfl (by rw [hX.1]; exact size46)
theorem setRow_new (W : World) (old X : Array Value) : (W.alloc (.cells old 46)).setRow W.heap.size X = W.alloc (.cells X 46) := by
  unfold World.setRow World.alloc
  congr 1
  apply Array.ext_getElem?
  intro i
  rw [Array.getElem?_modify, Array.getElem?_push, Array.getElem?_push]
  by_cases h : W.heap.size = i
  · subst h; simp
  · rw [if_neg h, if_neg (fun e => h e.symm), if_neg (fun e => h e.symm)]
theorem st_new (W : World) (old X : Array Value) (ho : old.size = 34) (hX : OkX X) : (st46 ⟨W.heap.size, 0, none⟩ (.agg X)).run Tryd.prog (W.alloc (.cells old 46)) = .ok () (W.alloc (.cells X 46)) := by
  have h := run_storeVar_row (P := Tryd.prog) (W.alloc (.cells old 46)) W.heap.size 46 46 old X (Blk.new W 46 old) (by rw [hX.1]; exact size46) (by rw [ho, hX.1]) hX.2
  rw [setRow_new] at h
  exact h
theorem sl_one (W : World) (X : Array Value) (hX : OkX X) : (bs46 1 #[(0, .agg X)]).run Tryd.prog W = .ok (.slice (some ⟨W.heap.size, 0, none⟩) 1 1) (W.alloc (.cells X 46)) := run_one X hX.1 W
theorem sl_two (W : World) (X Y : Array Value) (hX : OkX X) (hY : OkX Y) : (bs46 2 #[(0, .agg X), (1, .agg Y)]).run Tryd.prog W = .ok (.slice (some ⟨W.heap.size, 0, none⟩) 2 2) (W.alloc (.cells (X ++ Y) 46)) := run_two X Y hX.1 hY.1 W
attribute [local go_sem ↓] ld46_in st46_in bs46_in
attribute [local go_sem] st_new sl_one sl_two
theorem bdrew {B : Nat} {w W : World} (h : Below B w W) : Below B w W.drew := by
  have := h
  exact ⟨h.os, h.tape, h.output, h.size, h.block⟩
/-- two lists of nodes are equal. -/
def sameN : List Nd → List Nd → Bool
  | [], [] => true
  | x :: l, y :: m => eqN x y && sameN l m
  | _, _ => false
theorem sameN_iff : ∀ l m : List Nd, sameN l m = true ↔ l = m
  | [], [] => by simp [sameN]
  | [], _ :: _ => by simp [sameN]
  | _ :: _, [] => by simp [sameN]
  | x :: l, y :: m => by rw [sameN, Bool.and_eq_true, eqN_iff, sameN_iff l m]; simp
theorem sameN_len : ∀ l m : List Nd, l.length ≠ m.length → sameN l m = false := fun l m h => Bool.eq_false_iff.2 (fun e => h (by rw [(sameN_iff l m).1 e]))
set_option maxRecDepth 100000 in
set_option maxHeartbeats 1000000 in
theorem same_any (A1 : Option Addr) (n c1 : Nat) (L1 : List Nd) (A2 : Option Addr) (n2 c2 : Nat) (L2 : List Nd) (w : World) (h1 : NS w A1 n c1 L1) (h2 : NS w A2 n2 c2 L2) :
    Calls Tryd.prog 50 #[.slice A1 n c1, .slice A2 n2 c2] w fun e w' => e = .returned (.bool (sameN L1 L2)) ∧ Below w.heap.size w w' := by
  have hl1 := h1.len
  have hl2 := h2.len
  have hc := h1.cap
  have hle := h1.le
  have hc2 := h2.cap
  have hle2 := h2.le
  have H1 := Lib.hid h1; have H2 := Lib.hid h2
  by_cases hk : n = n2
  · subst hk
    have hL : L1.length = L2.length := by omega
    clear h1 h2
    go_enter Tryd.func50, Tryd.ntmps50
    go_wp2_with fail
    go_loopw [5] (fun x wr => ∃ i : Nat, i ≤ n ∧ x = .int .i64 i ∧ Below w.heap.size w wr ∧ Hid (sameN (L1.drop i) (L2.drop i) = sameN L1 L2)) (fun x _ => n - (intOf x).toNat)
    case atStart => exact ⟨0, by omega, rfl, Below.refl _ _, Lib.hid rfl⟩
    case round =>
      obtain ⟨i, hi, rfl, hB, hS⟩ := hrel
      by_cases hlt : i < n
      · have hlt' : (i : Int) < n := by omega
        have i0 : (0 : Int) ≤ i := by omega
        obtain ⟨g1, o1, rfl, hN1, hg1⟩ := ((H1.out).below hB).at_ (by omega)
        obtain ⟨g2, o2, rfl, hN2, hg2⟩ := ((H2.out).below hB).at_ (by omega)
        have i1 : i < L1.length := by omega
        have i2 : i < L2.length := by omega
        have r1 := hN1 i i1
        have r2 := hN2 i i2
        have d1 := (H1.out).dig _ (List.getElem_mem i1)
        have d2 := (H2.out).dig _ (List.getElem_mem i2)
        have e1 := List.drop_eq_getElem_cons i1
        have e2 := List.drop_eq_getElem_cons i2
        obtain ⟨x, hx⟩ : ∃ x, L1[i] = x := ⟨_, rfl⟩
        obtain ⟨y, hy⟩ : ∃ y, L2[i] = y := ⟨_, rfl⟩
        rw [hx] at r1 d1 e1
        rw [hy] at r2 d2 e2
        rw [e1, e2, sameN] at hS
        have heq := fun W => eq_node x y d1 d2 W
        obtain ⟨X, hX⟩ : ∃ X, x.arr = X := ⟨_, rfl⟩
        obtain ⟨Y, hY⟩ : ∃ Y, y.arr = Y := ⟨_, rfl⟩
        have l1 := ld_range r1 (Nd.len x d1)
        have l2 := ld_range r2 (Nd.len y d2)
        rw [show x.cells.toArray = X from hX] at l1
        rw [show y.cells.toArray = Y from hY] at l2
        rw [hX, hY] at heq
        have l1' : (ld46 ⟨g1, o1 + i * 34, none⟩).run Tryd.prog wr.drew = .ok (.agg X) wr.drew := by rw [← hX]; exact ld_range (fun j v hv => r1 j v hv) (Nd.len x d1)
        have l2' : (ld46 ⟨g2, o2 + i * 34, none⟩).run Tryd.prog wr.drew = .ok (.agg Y) wr.drew := by rw [← hY]; exact ld_range (fun j v hv => r2 j v hv) (Nd.len y d2)
        obtain ⟨b, hb⟩ : ∃ b, eqN x y = b := ⟨_, rfl⟩
        rw [hb] at hS
        simp only [hb] at heq
        clear r1 r2 hN1 hN2 e1 e2 hX hY hb d1 d2 hx hy i1 i2
        go_upto_region 6 with fail
        go_region_held3 (fun W => (ld46 ⟨g1, o1 + i * 34, none⟩).run Tryd.prog W = .ok (.agg X) W ∧ (ld46 ⟨g2, o2 + i * 34, none⟩).run Tryd.prog W = .ok (.agg Y) W)
          (exact ⟨l1', l2'⟩) (fail)
        cases b
        · have hf : sameN L1 L2 = false := by rw [← hS.out]; rfl
          have HF := Lib.hid hf
          clear hf hS
          go_wp2_with fail
          go_ret
          exact ⟨by rw [HF.out]; rfl, bdrew hB⟩
        · rw [Bool.true_and] at hS
          go_wp2_with fail
          go_roundw
          case rel => exact ⟨i + 1, by omega, by go_num, bdrew hB, hS⟩
          case measure => simp [intOf]; omega
      · obtain rfl : i = n := by omega
        have h1 : L1.drop i = [] := List.drop_eq_nil_of_le (by omega)
        have h2 : L2.drop i = [] := List.drop_eq_nil_of_le (by omega)
        rw [h1, h2] at hS
        go_wp2_with fail
        go_ret
        exact ⟨by rw [← hS.out]; rfl, hB⟩
  · have hkn : ((n : Int) != (n2 : Int)) = true := by simp; omega
    have HS := Lib.hid (sameN_len L1 L2 (by omega))
    clear h1 h2 hk
    go_enter Tryd.func50, Tryd.ntmps50
    go_wp2_with fail
    go_ret
    exact ⟨by rw [HS.out]; rfl, Below.refl _ _⟩
open Go.RowKit Go.Shelf
attribute [local go_sem] Oper.semAt_some
theorem run_three (a b c : Array Value) (ha : a.size = 34) (hb : b.size = 34) (hc : c.size = 34) (w : World) : (Instr.buildSlice 44 3 #[(0, .agg a), (1, .agg b), (2, .agg c)]).run Tryd.prog w = .ok (.slice (some ⟨w.heap.size, 0, none⟩) 3 3) (w.alloc (.cells (a ++ b ++ c) 46)) := by
  obtain ⟨i46, h46, z46, s46, _⟩ := info_parts info46
  have hn0 : nd0.arr.size = 34 := rfl
  obtain ⟨r, hr, hsz, hk⟩ := Great.fill_dense (s := 34) (by decide) [.agg a, .agg b, .agg c] 0 ((Array.range (3 * 34)).map (nd0.arr[· % nd0.arr.size]!)) (by
    intro v hv
    simp only [List.mem_cons, List.not_mem_nil, or_false] at hv
    rcases hv with rfl | rfl | rfl
    · exact ha
    · exact hb
    · exact hc) (by simp)
  have hr2 : r = a ++ b ++ c := by
    apply Array.ext_getElem?
    intro k
    rw [hk k]
    by_cases h1 : k < 34
    · rw [if_pos (by simp; omega), Array.getElem?_append_left (by rw [Array.size_append]; omega), Array.getElem?_append_left (by omega), show k / 34 - 0 = 0 by omega, Nat.mod_eq_of_lt h1]; rfl
    · by_cases h2 : k < 68
      · rw [if_pos (by simp; omega), Array.getElem?_append_left (by rw [Array.size_append]; omega), Array.getElem?_append_right (by omega), show k / 34 - 0 = 1 by omega, ha, show k % 34 = k - 34 by omega]; rfl
      · by_cases h3 : k < 102
        · rw [if_pos (by simp; omega), Array.getElem?_append_right (by rw [Array.size_append]; omega), show k / 34 - 0 = 2 by omega, Array.size_append, ha, hb, show k % 34 = k - (34 + 34) by omega]; rfl
        · rw [if_neg (by simp; omega), Array.getElem?_eq_none (by simp; omega), Array.getElem?_eq_none (by rw [Array.size_append, Array.size_append]; omega)]
  subst hr2
  have hr' : Instr.fill (fun i => some (i * 34, 34)) (Array.map (fun x => (Value.agg nd0.arr).cells[x % (Value.agg nd0.arr).cells.size]!) (Array.range 102)) [(0, .agg a), (1, .agg b), (2, .agg c)] = some (a ++ b ++ c) := hr
  simp [Instr.buildSlice, zeroValue, run_underlying Tryd.underlying44, sizeOf, typeInfo, h46, z46, s46]
  rw [hr']
  simp [newRow]
theorem sl_three (W : World) (X Y Z : Array Value) (hX : OkX X) (hY : OkX Y) (hZ : OkX Z) : (bs46 3 #[(0, .agg X), (1, .agg Y), (2, .agg Z)]).run Tryd.prog W = .ok (.slice (some ⟨W.heap.size, 0, none⟩) 3 3) (W.alloc (.cells (X ++ Y ++ Z) 46)) := run_three X Y Z hX.1 hY.1 hZ.1 W
/-- blocks of nodes. -/
def Bk (W : World) (l : List (Nat × Array Value)) : Prop := ∀ p ∈ l, Blk W p.1 46 p.2
theorem Bk.below {W W' : World} {l : List (Nat × Array Value)} (h : Bk W l) (k : Below W.heap.size W W') : Bk W' l := fun p hp => (h p hp).below k (h p hp).lt
theorem Bk.alloc {W : World} {l : List (Nat × Array Value)} (h : Bk W l) (o : Obj) : Bk (W.alloc o) l := fun p hp => (h p hp).alloc o
theorem Bk.new {W : World} {l : List (Nat × Array Value)} (h : Bk W l) (X : Array Value) : Bk (W.alloc (.cells X 46)) ((W.heap.size, X) :: l) := fun p hp => by
  rcases List.mem_cons.1 hp with rfl | hp
  · exact Blk.new _ _ _
  · exact (h p hp).alloc _
/-- nodes in a block of their own. -/
theorem nat_flat {W : World} {g : Nat} {L : List Nd} {C : Array Value} (h : Blk W g 46 C) (hC : C.toList = L.flatMap Nd.cells) (hd : ∀ x ∈ L, x.d.length = 32) : NAt W g 0 L := fun i hi j u hu => by
  have hj : j < 34 := by
    rcases Nat.lt_or_ge j 34 with h | h
    · exact h
    · rw [List.getElem?_eq_none (by rw [Nd.len _ (hd _ (List.getElem_mem hi))]; exact h)] at hu; cases hu
  rw [Nat.zero_add]
  exact (h.cell _).trans (by rw [← Array.getElem?_toList, hC, nflat_get L hd i hi j hj]; exact hu)
theorem ns_flat {W : World} {g : Nat} {L : List Nd} {C : Array Value} (h : Blk W g 46 C) (hC : C.toList = L.flatMap Nd.cells) (hd : ∀ x ∈ L, x.d.length = 32) (n : Nat) (hn : L.length = n) (h9 : n ≤ 100000) : NS W (some ⟨g, 0, none⟩) n n L :=
  ⟨hn, Nat.le_refl _, by omega, (fun e => by cases e), fun _ => ⟨g, 0, rfl, nat_flat h hC hd, h.lt⟩, hd⟩
theorem rootB_len {L : List Nd} (hd : ∀ x ∈ L, x.d.length = 32) : (rootV L).d.length = 32 := rootV_len hd
/-- salts of the examples. -/
def saltE (k : UInt8) : List UInt8 := k :: List.replicate 31 0
theorem saltE_len (k : UInt8) : (saltE k).length = 32 := by unfold saltE; rw [List.length_cons, List.length_replicate]
theorem leafV_len (l : Ln) (d : List UInt8) : (leafV l d).d.length = 32 := tagB_length _ _
theorem nodes3 (X Y Z : Nd) : (X.arr ++ Y.arr ++ Z.arr).toList = [X, Y, Z].flatMap Nd.cells := by
  simp [Nd.arr]
/-- the examples of the chapter. -/
theorem ex_facts (da db dc : List UInt8) (ha : da.length = 32) (hb : db.length = 32) (hc : dc.length = 32) :
    let a : Nd := ⟨da, 4, 24⟩; let b : Nd := ⟨db, 4, 24⟩; let c : Nd := ⟨dc, 60, 720⟩
    validB [a, b] = true ∧ validB [joinV a b, c] = true ∧ rootE [a, b, c] = true ∧ rootV [a, b, c] = joinV (joinV a b) c ∧ pathE [a, b, c] 2 = 0 ∧ pathL [a, b, c] 2 = [joinV a b] ∧ climbV c 2 3 [joinV a b] = (joinV (joinV a b) c, 0) ∧ (joinV (joinV a b) c).c = 68 ∧ (joinV (joinV a b) c).p = 768 := by
  intro a b c
  have h3 : halfN 3 = 2 := by unfold halfN; rw [hfA_yes (by decide) (by decide), hfA_no (by decide)]
  have h2 : halfN 2 = 1 := by unfold halfN; rw [hfA_no (by decide)]
  have v2 : validB [a, b] = true := rfl
  have v3 : validB [joinV a b, c] = true := rfl
  have vc : validB [c] = true := rfl
  have v : validB [a, b, c] = true := rfl
  have r : rootE [a, b, c] = true := rfl
  have r2 : rootE [a, b] = true := rfl
  have f2 : foldV [a, b] = joinV a b := by
    rw [foldV_two (ns := [a, b]) (show 2 ≤ 2 by decide)]
    show joinV (foldV ([a, b].take (halfN 2))) (foldV ([a, b].drop (halfN 2))) = _
    rw [h2]
    show joinV (foldV [a]) (foldV [b]) = _
    rw [foldV_one, foldV_one]
  have f3 : foldV [a, b, c] = joinV (joinV a b) c := by
    rw [foldV_two (ns := [a, b, c]) (show 2 ≤ 3 by decide)]
    show joinV (foldV ([a, b, c].take (halfN 3))) (foldV ([a, b, c].drop (halfN 3))) = _
    rw [h3]
    show joinV (foldV [a, b]) (foldV [c]) = _
    rw [foldV_one, f2]
  have p0 : pathE [a, b, c] 2 = 0 := by unfold pathE; rw [if_pos r, if_neg (by show ¬ ((2 : Int) < 0 ∨ ((3 : Nat) : Int) ≤ 2); omega)]
  have wl : wayL 2 0 3 = [(false, 0, 2)] := by
    rw [wayL_right (by decide) (by rw [show 3 - 0 = 3 from rfl, h3]; decide), show 3 - 0 = 3 from rfl, h3, wayL_end (by decide)]
  have rv : rootV [a, b] = joinV a b := by unfold rootV; rw [if_pos r2, if_neg (by simp), f2]
  refine ⟨v2, v3, r, by unfold rootV; rw [if_pos r, if_neg (by simp), f3], p0, ?_, ?_, rfl, rfl⟩
  · unfold pathL
    rw [if_pos p0]
    show (List.map (fun s => rootV (partL [a, b, c] s)) (wayL 2 0 3)).reverse = _
    rw [wl]
    show [rootV [a, b]] = _
    rw [rv]
  · unfold climbV
    have ca : climbA 2 3 = true := rfl
    have sl : sidesL 2 3 = [false] := by
      unfold sidesL
      show ((wayL 2 0 3).map (·.1)).reverse = _
      rw [wl]; rfl
    rw [if_pos ca, sl, if_pos (by rfl), if_pos vc]
    have j : joinE (joinV a b) c = 0 := by unfold joinE; rw [if_pos v3]
    have jr : joinR (joinV a b) c = joinV (joinV a b) c := by unfold joinR; rw [if_pos v3]
    show (if joinE (joinV a b) c = 0 then upV (joinR (joinV a b) c) [] else _) = _
    rw [if_pos j, jr]; rfl
open Go.RowKit Go.Shelf
attribute [local go_sem] Oper.semAt_some
def exA : Nd := leafV ⟨3, 5, 6, 4, 0⟩ (saltE 1)
def exB : Nd := leafV ⟨3, 5, 6, 4, 0⟩ (saltE 2)
def exC : Nd := leafV ⟨0, 0, 12, 60, 6⟩ (saltE 3)
def exM : Nd := joinV exA exB
def exR : Nd := joinV exM exC
def exN : Nd := ⟨tagB sumS [], 0, 0⟩
theorem exA_eq : leafV ⟨3, 5, 6, 4, 0⟩ (saltE 1) = exA := rfl
theorem exB_eq : leafV ⟨3, 5, 6, 4, 0⟩ (saltE 2) = exB := rfl
theorem exC_eq : leafV ⟨0, 0, 12, 60, 6⟩ (saltE 3) = exC := rfl
theorem exM_eq : joinV exA exB = exM := rfl
theorem exR_eq : joinV exM exC = exR := rfl
theorem dA : exA.d.length = 32 := leafV_len _ _
theorem dB : exB.d.length = 32 := leafV_len _ _
theorem dC : exC.d.length = 32 := leafV_len _ _
theorem dM : exM.d.length = 32 := joinV_len _ _
theorem dR : exR.d.length = 32 := joinV_len _ _
theorem dN : exN.d.length = 32 := tagB_length _ _
theorem exA_nd : exA = ⟨exA.d, 4, 24⟩ := rfl
theorem exB_nd : exB = ⟨exB.d, 4, 24⟩ := rfl
theorem exC_nd : exC = ⟨exC.d, 60, 720⟩ := rfl
theorem ex_all : validB [exA, exB] = true ∧ validB [exM, exC] = true ∧ rootE [exA, exB, exC] = true ∧ rootV [exA, exB, exC] = exR ∧ pathE [exA, exB, exC] 2 = 0 ∧ pathL [exA, exB, exC] 2 = [exM] ∧ climbV exC 2 3 [exM] = (exR, 0) ∧ exR.c = 68 ∧ exR.p = 768 := by
  have h := ex_facts exA.d exB.d exC.d dA dB dC
  simp only [← exA_nd, ← exB_nd, ← exC_nd, exM_eq, exR_eq] at h
  exact h
theorem exA_call (W : World) (hT : Tabs W) : Calls Tryd.prog 54 #[.agg #[.int .i64 3, .int .i64 5, .int .i64 6, .int .i64 4, .int .i64 0], .agg (u8s (saltE 1)).toArray] W fun e w' => e = .returned (.tuple #[.agg exA.arr, .int .i64 0]) ∧ Below W.heap.size W w' := by
  have := leaf_yes ⟨3, 5, 6, 4, 0⟩ (saltE 1) W rfl (saltE_len 1) hT
  rw [exA_eq] at this
  exact this
theorem exB_call (W : World) (hT : Tabs W) : Calls Tryd.prog 54 #[.agg #[.int .i64 3, .int .i64 5, .int .i64 6, .int .i64 4, .int .i64 0], .agg (u8s (saltE 2)).toArray] W fun e w' => e = .returned (.tuple #[.agg exB.arr, .int .i64 0]) ∧ Below W.heap.size W w' := by
  have := leaf_yes ⟨3, 5, 6, 4, 0⟩ (saltE 2) W rfl (saltE_len 2) hT
  rw [exB_eq] at this
  exact this
theorem exC_call (W : World) (hT : Tabs W) : Calls Tryd.prog 54 #[.agg #[.int .i64 0, .int .i64 0, .int .i64 12, .int .i64 60, .int .i64 6], .agg (u8s (saltE 3)).toArray] W fun e w' => e = .returned (.tuple #[.agg exC.arr, .int .i64 0]) ∧ Below W.heap.size W w' := by
  have := leaf_yes ⟨0, 0, 12, 60, 6⟩ (saltE 3) W rfl (saltE_len 3) hT
  rw [exC_eq] at this
  exact this
theorem exD_call (ar : Array Value) (W : World) : Calls Tryd.prog 54 #[.agg #[.int .i64 0, .int .i64 0, .int .i64 13, .int .i64 0, .int .i64 0], .agg ar] W fun e w' => e = .returned (.tuple #[.agg nd0.arr, .int .i64 410]) ∧ Below W.heap.size W w' :=
  leaf_no ⟨0, 0, 13, 0, 0⟩ ar W rfl
theorem exM_call (W : World) (hT : Tabs W) : Calls Tryd.prog 44 #[.agg exA.arr, .agg exB.arr] W fun e w' => e = .returned (.tuple #[.agg exM.arr, .int .i64 0]) ∧ Below W.heap.size W w' := by
  have := join_yes exA exB W dA dB ex_all.1 hT
  rw [exM_eq] at this
  exact this
theorem exR_call (W : World) (hT : Tabs W) : Calls Tryd.prog 44 #[.agg exM.arr, .agg exC.arr] W fun e w' => e = .returned (.tuple #[.agg exR.arr, .int .i64 0]) ∧ Below W.heap.size W w' := by
  have := join_yes exM exC W dM dC ex_all.2.1 hT
  rw [exR_eq] at this
  exact this
theorem exL_ns {W : World} {g : Nat} (h : Blk W g 46 (exA.arr ++ exB.arr ++ exC.arr)) : NS W (some ⟨g, 0, none⟩) 3 3 [exA, exB, exC] :=
  ns_flat h (nodes3 _ _ _) (by intro x hx; simp at hx; rcases hx with rfl | rfl | rfl; exact dA; exact dB; exact dC) 3 rfl (by omega)
theorem exS_call (W : World) (hT : Tabs W) (g : Nat) (h : Blk W g 46 (exA.arr ++ exB.arr ++ exC.arr)) : Calls Tryd.prog 42 #[.slice (some ⟨g, 0, none⟩) 3 3] W fun e w' => e = .returned (.tuple #[.agg exR.arr, .int .i64 0]) ∧ Below W.heap.size W w' := by
  have := root_any (some ⟨g, 0, none⟩) 3 3 [exA, exB, exC] W (exL_ns h) hT
  rw [ex_all.2.2.1, ex_all.2.2.2.1, if_pos rfl] at this
  exact this
theorem exP_call (W : World) (hT : Tabs W) (g : Nat) (h : Blk W g 46 (exA.arr ++ exB.arr ++ exC.arr)) : Calls Tryd.prog 46 #[.slice (some ⟨g, 0, none⟩) 3 3, .int .i64 2] W fun e w' => ∃ A' n' c', e = .returned (.tuple #[.slice A' n' c', .int .i64 0]) ∧ NS w' A' n' c' [exM] ∧ Below W.heap.size W w' := by
  have := path_any (some ⟨g, 0, none⟩) 3 3 [exA, exB, exC] 2 W (exL_ns h) hT
  rw [ex_all.2.2.2.2.1, ex_all.2.2.2.2.2.1] at this
  exact this
theorem exE_call (W : World) (hT : Tabs W) : Calls Tryd.prog 42 #[.slice none 0 0] W fun e w' => e = .returned (.tuple #[.agg exN.arr, .int .i64 0]) ∧ Below W.heap.size W w' := by
  have := root_any none 0 0 [] W (ns_nil W) hT
  rw [show rootE [] = true from rfl, show rootV [] = exN from by unfold rootV; rw [show rootE [] = true from rfl]; rfl, if_pos rfl] at this
  exact this
theorem exF_call (W : World) (hT : Tabs W) : Calls Tryd.prog 46 #[.slice none 0 0, .int .i64 0] W fun e w' => ∃ A' n' c', e = .returned (.tuple #[.slice A' n' c', .int .i64 1]) ∧ NS w' A' n' c' [] ∧ Below W.heap.size W w' := by
  have := path_any none 0 0 [] 0 W (ns_nil W) hT
  have e : pathE [] 0 = 1 := rfl
  have e2 : pathL [] 0 = [] := by unfold pathL; rw [e]; rfl
  rw [e, e2] at this
  exact this
theorem exG_call (W : World) (hT : Tabs W) : Calls Tryd.prog 48 #[.agg exA.arr, .int .i64 0, .int .i64 0, .slice none 0 0] W fun e w' => e = .returned (.tuple #[.agg nd0.arr, .int .i64 1]) ∧ Below W.heap.size W w' := by
  have := climb_any exA 0 0 none 0 0 [] W dA (ns_nil W) hT
  have e : climbV exA 0 0 [] = (nd0, 1) := by unfold climbV; rw [show climbA 0 0 = false from rfl]; rfl
  rw [e] at this
  exact this
theorem exU_call (W : World) (hT : Tabs W) (A : Option Addr) (n c : Nat) (h : NS W A n c [exM]) : Calls Tryd.prog 48 #[.agg exC.arr, .int .i64 2, .int .i64 3, .slice A n c] W fun e w' => e = .returned (.tuple #[.agg exR.arr, .int .i64 0]) ∧ Below W.heap.size W w' := by
  have := climb_any exC 2 3 A n c [exM] W dC h hT
  rw [ex_all.2.2.2.2.2.2.1] at this
  exact this
theorem sum_tagged (W : World) (hT : Tabs W) : Calls Tryd.prog 40 #[.string ⟨sumS.toArray⟩, .slice none 0 0] W fun e w' => e = .returned (.agg (u8s (tagB sumS [])).toArray) ∧ Below W.heap.size W w' :=
  tagged_any sumS none 0 0 [] W (by decide) (bs_nil0 W) (by omega) hT
theorem exQ_call (W : World) (A : Option Addr) (n c g : Nat) (h : NS W A n c [exM]) (k : Blk W g 46 exM.arr) : Calls Tryd.prog 50 #[.slice A n c, .slice (some ⟨g, 0, none⟩) 1 1] W fun e w' => e = .returned (.bool true) ∧ Below W.heap.size W w' := by
  have := same_any A n c [exM] (some ⟨g, 0, none⟩) 1 1 [exM] W h (one_ns k dM)
  rw [(sameN_iff _ _).2 rfl] at this
  exact this
end Go.Proofs.YtedokiemlkccaaaDoor
