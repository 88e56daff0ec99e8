/- Path and Climb of package tree. -/
import Derived.Test.YtedokiemlkccaaaDoorTD
import Derived.Sort.CutIn
set_option linter.all false
namespace Go.Proofs.YtedokiemlkccaaaDoor
open Go.RowKit
open Go.RowKit Go.Shelf
attribute [local go_sem] Oper.semAt_some
theorem wpListIn_run {F : Fence} (hF : ∀ f, F.fn f) {n : Nat} {P : Program} {ops : Array Oper} {rest : List Oper} {o : Oper} {a : Act} {w : World} {Q : Exit → Act → World → Prop} (hg : o.guard = none) (hd : ∀ c, o.op ≠ .defer c)
    (v : Value) (w' : World) (hr : (execOp a.eval o).run P w = .ok (.value v) w') (h : wpListIn F n P ops Q rest (a.put o.dst v) w') : wpListIn F n P ops Q (o :: rest) a w := by
  refine wpListIn_plain hg fun K hK => ?_
  unfold Oper.wpIn
  refine ⟨fun f _ => hF f, ?_⟩
  rw [Oper.semAt_plain F _ _ hd, hr]
  exact hK _ _ h
theorem wpListIn_skp {F : Fence} (hF : ∀ f, F.fn f) {n : Nat} {P : Program} {ops : Array Oper} {rest : List Oper} {o : Oper} {a : Act} {w : World} {Q : Exit → Act → World → Prop} (hg : o.guard = none) (hd : ∀ c, o.op ≠ .defer c)
    (w' : World) (hr : (execOp a.eval o).run P w = .ok .skip w') (h : wpListIn F n P ops Q rest (a.put o.dst undef) w') : wpListIn F n P ops Q (o :: rest) a w := by
  refine wpListIn_plain hg fun K hK => ?_
  unfold Oper.wpIn
  refine ⟨fun f _ => hF f, ?_⟩
  rw [Oper.semAt_plain F _ _ hd, hr]
  exact hK _ _ h
theorem exec_load_row {o : Oper} {a : Act} {w : World} (ty : TypeId) (x : Operand) (ho : o.op = .load ty x) (g : Nat) (hx : a.eval x = .pointer (some ⟨g, 0, none⟩)) (t : TypeId) (cs : Array Value) (d : TypeDesc) (h : Blk w g t cs)
    (hu : Tryd.prog.underlying ty = some d) (hd : d.isRow = true) (hi : (Tryd.prog.info? ty).map (·.size) = some cs.size) : (execOp a.eval o).run Tryd.prog w = .ok (.value (.agg cs)) w := by
  have hl := run_loadVar_mid (P := Tryd.prog) w g 0 ty cs.toList d (fun j v hv => by rw [Nat.zero_add, h.cell j]; simpa using hv) hu hd (by simpa using hi)
  unfold execOp
  simp only [ho, hx, Instr.loadAt, Instr.sureAddr, Sem.run_bind, Sem.run_pure, Result.andThen_ok, hl]
theorem exec_load_mid {o : Oper} {a : Act} {w : World} (ty : TypeId) (x : Operand) (ho : o.op = .load ty x) (b off : Nat) (hx : a.eval x = .pointer (some ⟨b, off, none⟩)) (cs : List Value) (d : TypeDesc) (hc : w.rangeAt b off cs)
    (hu : Tryd.prog.underlying ty = some d) (hd : d.isRow = true) (hi : (Tryd.prog.info? ty).map (·.size) = some cs.length) : (execOp a.eval o).run Tryd.prog w = .ok (.value (.agg cs.toArray)) w := by
  unfold execOp
  simp only [ho, hx, Instr.loadAt, Instr.sureAddr, Sem.run_bind, Sem.run_pure, Result.andThen_ok, run_loadVar_mid w b off ty cs d hc hu hd hi]
theorem exec_store_mid {o : Oper} {a : Act} {w : World} (ty : TypeId) (x y : Operand) (ho : o.op = .store ty x y) (b off : Nat) (cells : Array Value) (hx : a.eval x = .pointer (some ⟨b, off, none⟩)) (hy : a.eval y = .agg cells)
    (ht : w.there b off cells.size) (hi : (Tryd.prog.info? ty).map (·.size) = some cells.size) (h1 : cells.all (·.oneCell') = true) : (execOp a.eval o).run Tryd.prog w = .ok .skip (w.setCells b off cells.toList) := by
  unfold execOp
  simp only [ho, hx, hy, Instr.storeAt, Instr.sureAddr, Sem.run_bind, Sem.run_pure, Result.andThen_ok, run_storeVar_mid w b off ty cells ht hi h1]
/-- a node in a block of its own. -/
theorem setCells_row {w : World} {g : Nat} {t : TypeId} {cs : Array Value} {vs : List Value} (h : Blk w g t cs) (hl : vs.length = cs.size) : Blk (w.setCells g 0 vs) g t vs.toArray := blk_setAll h hl
theorem keeps_below {W W' : World} (k : Below W.heap.size W W') : KeepsOthers W W' := ⟨k.size, fun b _ h _ => (k.block b (Array.getElem?_eq_some_iff.1 h).1).trans h⟩
theorem keeps_setRow {W : World} {g : Nat} {t : TypeId} {old : Array Value} (h : Blk W g t old) (cs : Array Value) : KeepsOthers W (W.setRow g cs) :=
  ⟨(below_setRow (Below.refl g W) (Nat.le_refl _) cs).size, fun b o hb ho => by
    by_cases e : b = g
    · subst e
      rw [show W.heap[b]? = _ from h] at hb
      cases hb
      cases ho
    · exact (setRow_other _ _ _ _ e).trans hb⟩
theorem nflat_get (L : List Nd) (hd : ∀ x ∈ L, x.d.length = 32) : ∀ (i : Nat) (hi : i < L.length) (j : Nat), j < 34 → (L.flatMap Nd.cells)[i * 34 + j]? = (L[i]).cells[j]? := by
  induction L with
  | nil => intro i hi; simp at hi
  | cons x L ih =>
    intro i hi j hj
    have hx := Nd.len x (hd x (by simp))
    cases i with
    | zero => rw [Nat.zero_mul, Nat.zero_add, List.flatMap_cons, List.getElem?_append_left (by omega)]; rfl
    | succ i =>
      rw [List.flatMap_cons, List.getElem?_append_right (by omega), hx, show (i + 1) * 34 + j - 34 = i * 34 + j by omega]
      exact ih (fun y hy => hd y (by simp [hy])) i (by simpa using hi) j hj
theorem nflat_len (L : List Nd) (hd : ∀ x ∈ L, x.d.length = 32) : (L.flatMap Nd.cells).length = L.length * 34 := by
  induction L with
  | nil => rfl
  | cons x L ih => rw [List.flatMap_cons, List.length_append, Nd.len x (hd x (by simp)), ih (fun y hy => hd y (by simp [hy])), List.length_cons]; omega
/-- nodes of a slice of the call's own. -/
theorem own_nodes {W : World} {base : Nat} {v : Value} {k : Nat} {L : List Nd} (h : W.ownsRow base 46 34 v k (L.flatMap Nd.cells)) (hl : L.length = k) (hd : ∀ x ∈ L, x.d.length = 32) :
    (v = .slice none 0 0 ∧ k = 0) ∨ ∃ g cap, v = .slice (some ⟨g, 0, none⟩) k cap ∧ base ≤ g ∧ k ≤ cap ∧ cap ≤ 9223372036854775807 ∧ NAt W g 0 L ∧ (∀ m, m < k → W.there g (0 + m * 34) 34) ∧ g < W.heap.size := by
  rcases h.2 with ⟨rfl, h0⟩ | ⟨g, cap, cur, rfl, hb, hg, h1, h2, h3, h4⟩
  · exact .inl ⟨rfl, h0⟩
  · refine .inr ⟨g, cap, rfl, hb, h1, by unfold maxLen at h2; omega, fun i hi j u hu => ?_, fun m hm j hj => ?_, (Array.getElem?_eq_some_iff.1 hg).1⟩
    · have hj : j < 34 := by
        rcases Nat.lt_or_ge j 34 with h | h
        · exact h
        · rw [List.getElem?_eq_none (by rw [Nd.len _ (hd _ (List.getElem_mem hi))]; exact h)] at hu; cases hu
      have := nflat_get L hd i hi j hj
      rw [hu] at this
      rw [Nat.zero_add]
      have h5 : cur[i * 34 + j]? = some u := by
        have hlt : i * 34 + j < k * 34 := by
          have : (i + 1) * 34 ≤ k * 34 := Nat.mul_le_mul_right _ (by omega)
          omega
        rw [← this, ← h4, List.getElem?_take, if_pos hlt, Array.getElem?_toList]
      exact (cell_of_row _ _ _ _ _ _ hg).trans h5
    · rw [Nat.zero_add]
      have hlt : m * 34 + j < cur.size := by
        rw [h3]
        have : (m + 1) * 34 ≤ cap * 34 := Nat.mul_le_mul_right _ (by omega)
        omega
      refine ⟨?_, ?_⟩
      · rw [cell_of_row _ _ _ _ _ _ hg, Array.getElem?_eq_getElem hlt]; rfl
      · exact frozen_of_row hg _
/-- one node as a new slice. -/
theorem run_one (a : Array Value) (ha : a.size = 34) (w : World) : (Instr.buildSlice 44 1 #[(0, .agg a)]).run Tryd.prog w = .ok (.slice (some ⟨w.heap.size, 0, none⟩) 1 1) (w.alloc (.cells a 46)) := by
  obtain ⟨i46, h46, z46, s46, _⟩ := info_parts info46
  have hn0 : nd0.arr.size = 34 := rfl
  obtain ⟨r, hr, hsz, hk⟩ := Great.fill_dense (s := 34) (by decide) [.agg a] 0 ((Array.range (1 * 34)).map (nd0.arr[· % nd0.arr.size]!)) (by
    intro v hv
    simp only [List.mem_cons, List.not_mem_nil, or_false] at hv
    subst hv
    exact ha) (by simp)
  have hr2 : r = a := by
    apply Array.ext_getElem?
    intro k
    rw [hk k]
    by_cases h1 : k < 34
    · rw [if_pos (by simp; omega), show k / 34 - 0 = 0 by omega, Nat.mod_eq_of_lt h1]; rfl
    · rw [if_neg (by simp; omega), Array.getElem?_eq_none (by simp; omega), Array.getElem?_eq_none (by omega)]
  subst hr2
  have hr' : Instr.fill (fun i => some (i * 34, 34)) (Array.map (fun x => (Value.agg nd0.arr).cells[x % (Value.agg nd0.arr).cells.size]!) (Array.range 34)) [(0, .agg r)] = some r := hr
  simp [Instr.buildSlice, zeroValue, run_underlying Tryd.underlying44, sizeOf, typeInfo, h46, z46, s46]
  rw [hr']
  simp [newRow]
theorem wayL_length (at_ : Nat) : ∀ (d lo hi : Nat), hi - lo ≤ d → (wayL at_ lo hi).length ≤ hi - lo
  | 0, lo, hi, h => by rw [wayL_end (by omega)]; simp
  | d + 1, lo, hi, h => by
    by_cases h2 : 2 ≤ hi - lo
    · have hs := half_spec h2
      by_cases h3 : at_ < lo + halfN (hi - lo)
      · have := wayL_length at_ d lo (lo + halfN (hi - lo)) (by omega)
        rw [wayL_left h2 h3, List.length_cons]; omega
      · have := wayL_length at_ d (lo + halfN (hi - lo)) hi (by omega)
        rw [wayL_right h2 h3, List.length_cons]; omega
    · rw [wayL_end h2]; simp
theorem NS.part {w : World} {A : Option Addr} {n c : Nat} {ns : List Nd} (h : NS w A n c ns) {lo hi : Nat} (h1 : lo < hi) (h2 : hi ≤ n) : ∃ g o, A = some ⟨g, o, none⟩ ∧ NS w (some ⟨g, o + lo * 34, none⟩) (hi - lo) (c - lo) ((ns.drop lo).take (hi - lo)) := by
  obtain ⟨g, o, e, hN, hg⟩ := h.at_ (by omega)
  have hl := h.len
  have hle := h.le
  have hcap := h.cap
  exact ⟨g, o, e, by rw [List.length_take, List.length_drop]; omega, by omega, by omega, (fun e => by cases e), fun _ => ⟨g, _, rfl, (hN.drop lo).take _, hg⟩, fun x hx => h.dig x (List.mem_of_mem_drop (List.mem_of_mem_take hx))⟩
theorem rev_zero (A : Option Addr) (c : Nat) (w : World) : Calls Tryd.prog 91 #[.slice A (0 : Nat) c] w fun e w' => (∃ v, e = .returned v) ∧ w = w' := by
  go_enter Tryd.func91, Tryd.ntmps91
  go_wp2_with fail
  go_loop [2, 3] (fun x y => x = .int .i64 0 ∧ y = .int .i64 (-1)) (fun _ _ => 0)
  case atStart => exact ⟨rfl, rfl⟩
  case round =>
    obtain ⟨rfl, rfl⟩ := hrel
    go_wp2_with fail
    go_end0
    exact ⟨⟨_, rfl⟩, rfl⟩
theorem exec_load_cell44 {o : Oper} {a : Act} {w : World} (x : Operand) (ho : o.op = .load 44 x) (g : Nat) (hx : a.eval x = .pointer (some ⟨g, 0, none⟩)) (v : Value) (h : w.cell? ⟨g, 0, none⟩ = some v) : (execOp a.eval o).run Tryd.prog w = .ok (.value v) w := by
  have hl : (loadVar 44 ⟨g, 0, none⟩).run Tryd.prog w = .ok v w := by
    simp [loadVar, isAgg, run_underlying Tryd.underlying44, h, go_sem]
  unfold execOp
  simp only [ho, hx, Instr.loadAt, Instr.sureAddr, Sem.run_bind, Sem.run_pure, Result.andThen_ok, hl]
theorem exec_one {o : Oper} {a : Act} {w : World} (x : Operand) (ho : o.op = .buildSlice 44 1 #[(0, x)]) (ar : Array Value) (hx : a.eval x = .agg ar) (ha : ar.size = 34) : (execOp a.eval o).run Tryd.prog w = .ok (.value (.slice (some ⟨w.heap.size, 0, none⟩) 1 1)) (w.alloc (.cells ar 46)) := by
  unfold execOp
  simp only [ho, Sem.run_bind, Sem.run_pure, List.map_toArray, List.map_cons, List.map_nil, hx, run_one ar ha w, Result.andThen_ok]
theorem grown_below {W W' : World} (k : Below W.heap.size W W') : W.grownBy W' none := ⟨k.os, k.tape, k.output, k.size, fun b hb _ => k.block b hb⟩
theorem owns_below {W W' : World} (k : Below W.heap.size W W') {B n sz : Nat} {E : TypeId} {v : Value} {xs : List Value} (h : W.ownsRow B E sz v n xs) : W'.ownsRow B E sz v n xs := h.kept (grown_below k) (by cases hv : v.ownBlock <;> simp)
theorem boxed_below {W W' : World} {g : Nat} {t : TypeId} {v : Value} (h : Boxed W g t v) (k : Below W.heap.size W W') : Boxed W' g t v := (k.block _ h.lt).trans h
theorem NAt.kept {w w' : World} {g o : Nat} {row : Option Nat} {ns : List Nd} (h : NAt w g o ns) (hg : w.grownBy w' row) (hne : some g ≠ row) : NAt w' g o ns := fun i hi j v hv => hg.cell (h i hi j v hv) hne
theorem own_is_cells {W : World} {B n sz k cap g : Nat} {E : TypeId} {v : Value} {xs : List Value} (h : W.ownsRow B E sz v n xs) (hv : v = .slice (some ⟨g, 0, none⟩) k cap) : ∃ cs, W.heap[g]? = some (.cells cs E (0, 0)) := by
  rcases h.2 with ⟨rfl, h0⟩ | ⟨g', cap', cur, rfl, hb, hg, _⟩
  · cases hv
  · cases hv; exact ⟨_, hg⟩
open Go.RowKit Go.Shelf
attribute [local go_sem] Oper.semAt_some
theorem results_path {f : Func} (hf : f.results = #[.cell 4 44, .tmp 5]) {tmps : Array Value} {W : World} {g : Nat} {v : Value} {e : Value} (h : W.cell? ⟨g, 0, none⟩ = some v) (h1 : tmps.getD 4 undef = .pointer (some ⟨g, 0, none⟩)) (h2 : tmps.getD 5 undef = e) :
    (results f tmps).run Tryd.prog W = .ok (.tuple #[v, e]) W := by
  rw [results_cell_tmp (p := 4) (u := 5) (ty := 44) hf, h1, h2]
  have hl : (loadVar 44 ⟨g, 0, none⟩).run Tryd.prog W = .ok v W := by
    simp [loadVar, isAgg, run_underlying Tryd.underlying44, h, go_sem]
  simp only [asAddr, Sem.run_pure, Result.andThen_ok, hl]
theorem ns_nil (w : World) : NS w none 0 0 [] := ⟨rfl, Nat.le_refl _, by omega, fun _ => rfl, fun h => absurd h (by omega), fun _ h => by cases h⟩
theorem rootV_len {ns : List Nd} (hd : ∀ x ∈ ns, x.d.length = 32) : (rootV ns).d.length = 32 := by
  unfold rootV
  split
  · split
    · exact tagB_length _ _
    · exact foldV_len (fun e => by subst e; simp at *) hd
  · rfl
/-- what Path says of an error. -/
def pathE (ns : List Nd) (at_ : Int) : Int := if rootE ns then (if at_ < 0 ∨ (ns.length : Int) ≤ at_ then 1 else 0) else 410
/-- the nodes of a part. -/
def partL (ns : List Nd) (s : Bool × Nat × Nat) : List Nd := (ns.drop s.2.1).take (s.2.2 - s.2.1)
/-- the path of a leaf. -/
def pathL (ns : List Nd) (at_ : Int) : List Nd := if pathE ns at_ = 0 then ((wayL at_.toNat 0 ns.length).map fun s => rootV (partL ns s)).reverse else []
set_option maxRecDepth 100000 in
set_option maxHeartbeats 2000000 in
theorem path_any (A : Option Addr) (n c : Nat) (ns : List Nd) (at_ : Int) (w : World) (h : NS w A n c ns) (hT : Tabs w) : Calls Tryd.prog 46 #[.slice A n c, .int .i64 at_] w fun e w' => ∃ A' n' c', e = .returned (.tuple #[.slice A' n' c', .int .i64 (pathE ns at_)]) ∧ NS w' A' n' c' (pathL ns at_) ∧ Below w.heap.size w w' := by
  have HR := Lib.hid fun (W : World) (hb : Below w.heap.size w W) => root_any A n c ns W (h.below hb) (hT.ext hb)
  obtain ⟨na, hna⟩ : ∃ na, nd0.arr = na := ⟨_, rfl⟩
  have hs : na.size = 34 := by rw [← hna]; rfl
  have hsr : (rootV ns).arr.size = 34 := Nd.size _ (rootV_len h.dig)
  have hallr := nd_all (rootV ns)
  obtain ⟨R, hR⟩ : ∃ R, (rootV ns).arr = R := ⟨_, rfl⟩
  rw [hR] at hsr hallr
  simp only [hR] at HR
  obtain ⟨cs, rfl⟩ : ∃ cs : List Value, R = cs.toArray := ⟨R.toList, by simp⟩
  have hcl : cs.length = 34 := by simpa using hsr
  have hone : ∀ v ∈ cs, v.oneCell' = true := fun v hv => (Array.all_eq_true_iff_forall_mem.1 hallr) v (by simpa using hv)
  have hi46 : (Tryd.prog.info? 46).map (·.size) = some cs.length := by rw [hcl]; exact size46
  obtain ⟨E, hE⟩ : ∃ E : Int, (if rootE ns then 0 else 410 : Int) = E := ⟨_, rfl⟩
  simp only [hE] at HR
  have hlit : (#[Value.int IntKind.u8 0, Value.int IntKind.u8 0, Value.int IntKind.u8 0, Value.int IntKind.u8 0, Value.int IntKind.u8 0, Value.int IntKind.u8 0, Value.int IntKind.u8 0, Value.int IntKind.u8 0, Value.int IntKind.u8 0, Value.int IntKind.u8 0, Value.int IntKind.u8 0, Value.int IntKind.u8 0, Value.int IntKind.u8 0, Value.int IntKind.u8 0, Value.int IntKind.u8 0, Value.int IntKind.u8 0, Value.int IntKind.u8 0, Value.int IntKind.u8 0, Value.int IntKind.u8 0, Value.int IntKind.u8 0, Value.int IntKind.u8 0, Value.int IntKind.u8 0, Value.int IntKind.u8 0, Value.int IntKind.u8 0, Value.int IntKind.u8 0, Value.int IntKind.u8 0, Value.int IntKind.u8 0, Value.int IntKind.u8 0, Value.int IntKind.u8 0, Value.int IntKind.u8 0, Value.int IntKind.u8 0, Value.int IntKind.u8 0, Value.int IntKind.i64 0, Value.int IntKind.i64 0] : Array Value) = na := hna
  clear hna hR hsr hallr
  have b0 := Boxed.new w 44 (.slice A n c)
  have b1 := Boxed.new (w.alloc (.cells #[.slice A n c] 44)) 44 (.slice none 0 0)
  rw [World.size_alloc] at b1
  have b0 := b0.alloc (.cells #[.slice none 0 0] 44)
  have hb : Below w.heap.size w ((w.alloc (.cells #[.slice A n c] 44)).alloc (.cells #[.slice none 0 0] 44)) := ((Below.refl _ w).alloc (Nat.le_refl _) _).alloc (by simp) _
  refine (callsIn_wide (n := 5)).1 ?_
  refine callsIn_of_wp_marks Tryd.func46 rfl trivial ?_ rfl
  simp only [Tryd.ntmps46, List.size_toArray, List.length_cons, List.length_nil, Nat.reduceAdd, Nat.reduceSub, Array.replicate_succ, Array.replicate_zero, List.push_toArray, List.append_toArray, List.nil_append, List.cons_append]
  gi_upto_region 1 with fail
  generalize (w.alloc (Obj.cells #[Value.slice A n c] 44)).alloc (Obj.cells #[Value.slice none 0 0] 44) = W1 at b0 b1 hb ⊢
  have HRR := Lib.hid (HR.out W1 hb)
  have c0 := b0.cell
  have HB := Lib.hid hb; have B1 := Lib.hid b1; have B0 := Lib.hid b0
  clear hb b0 b1 HR
  gi_wp2_with fail
  refine ⟨trivial, ?_⟩
  refine (callsIn_wide.2 HRR.out).mono ?_
  rintro e w3 ⟨rfl, k3⟩
  have b0 : Boxed w3 w.heap.size 44 (.slice A n c) := (k3.block _ (B0.out).lt).trans B0.out
  have b1 : Boxed w3 (w.heap.size + 1) 44 (.slice none 0 0) := (k3.block _ (B1.out).lt).trans B1.out
  have hb := bl HB.out k3
  have st := store_row (W := w3.alloc (.cells na 46)) (g := w3.heap.size) (cs := cs) (Blk.new _ _ _) (by omega) hone
  have th := blk_there (Blk.new w3 46 na) hs
  clear c0 B0 B1 HB k3 HRR
  gi_upto_region 2 with fail
  have d0 : Boxed ((w3.alloc (.cells na 46)).setRow w3.heap.size cs.toArray) w.heap.size 44 (.slice A n c) := (setRow_other _ _ _ _ (fun e => by have := b0.lt; omega)).trans (b0.alloc _)
  have d1 : Boxed ((w3.alloc (.cells na 46)).setRow w3.heap.size cs.toArray) (w.heap.size + 1) 44 (.slice none 0 0) := (setRow_other _ _ _ _ (fun e => by have := b1.lt; omega)).trans (b1.alloc _)
  have hb4 : Below w.heap.size w ((w3.alloc (.cells na 46)).setRow w3.heap.size cs.toArray) := below_setRow (hb.alloc hb.size _) hb.size _
  generalize (w3.alloc (Obj.cells na 46)).setRow w3.heap.size cs.toArray = w4 at d0 d1 hb4 ⊢
  have HLIT := Lib.hid hlit; have HSN := Lib.hid hs
  clear st th b0 b1 hb hone hi46 hcl hlit hs
  have c0 := d0.cell
  have c1 := d1.cell
  have f1 := d1.frozen
  by_cases hre : rootE ns = true
  · have hE0 : E = 0 := by rw [← hE, if_pos hre]
    subst hE0
    by_cases hat : at_ < 0 ∨ (ns.length : Int) ≤ at_
    · have hpe : pathE ns at_ = 1 := by unfold pathE; rw [if_pos hre, if_pos hat]
      have hpl : pathL ns at_ = [] := by unfold pathL; rw [hpe]; rfl
      have hl := h.len
      have HPE := Lib.hid hpe; have HPL := Lib.hid hpl; have HB := Lib.hid hb4; have D1 := Lib.hid d1
      clear hpe hpl hb4 h d1 hre hT
      by_cases hlt : at_ < 0
      · have g0 : decide (at_ < 0) = true := decide_eq_true hlt
        clear hat hlt
        gi_wp2_with fail
        have d9 := (D1.out).set (.slice none 0 0)
        exact ⟨_, results_path rfl d9.cell rfl rfl, none, 0, 0, by rw [HPE.out]; rfl, by rw [HPL.out]; exact ns_nil _, (HB.out).setCell (p := ⟨w.heap.size + 1, 0, none⟩) (Nat.le_succ _) _⟩
      · have g0 : decide (at_ < 0) = false := decide_eq_false hlt
        have g1 : decide ((n : Int) ≤ at_) = true := decide_eq_true (by omega)
        clear hat hlt
        gi_wp2_with fail
        have d9 := (D1.out).set (.slice none 0 0)
        exact ⟨_, results_path rfl d9.cell rfl rfl, none, 0, 0, by rw [HPE.out]; rfl, by rw [HPL.out]; exact ns_nil _, (HB.out).setCell (p := ⟨w.heap.size + 1, 0, none⟩) (Nat.le_succ _) _⟩
    · have hpe : pathE ns at_ = 0 := by unfold pathE; rw [if_pos hre, if_neg hat]
      obtain ⟨j, rfl⟩ : ∃ j : Nat, at_ = j := ⟨at_.toNat, by omega⟩
      have hl := h.len
      have g0 : decide ((j : Int) < 0) = false := decide_eq_false (by omega)
      have g1 : decide (n ≤ j) = false := decide_eq_false (by omega)
      gi_upto_region 6 with fail
      gi_wp2_with (refine ⟨trivial, ?_⟩; gi_at_call 90; refine (callsIn_wide.2 (way_any j n _)).mono ?_; rintro e w' ⟨rfl, rfl⟩)
      have e0 := (d0.alloc (.cells #[.int .i64 j] 3)).alloc (.cells #[.int .i64 n] 3)
      have e1 := (d1.alloc (.cells #[.int .i64 j] 3)).alloc (.cells #[.int .i64 n] 3)
      have eA := (Boxed.new w4 3 (.int .i64 j)).alloc (.cells #[.int .i64 n] 3)
      have eM := Boxed.new (w4.alloc (.cells #[.int .i64 j] 3)) 3 (.int .i64 n)
      rw [World.size_alloc] at eM
      have hb5 := (hb4.alloc hb4.size (.cells #[.int .i64 j] 3)).alloc (by have := hb4.size; simp; omega) (.cells #[.int .i64 n] 3)
      generalize (w4.alloc (Obj.cells #[Value.int IntKind.i64 j] 3)).alloc (Obj.cells #[Value.int IntKind.i64 n] 3) = w5 at e0 e1 eA eM hb5 ⊢
      have hn1 : rootE ns = true := hre
      have hn9 : ns.length ≤ 4096 := by unfold rootE at hre; rw [Bool.and_eq_true] at hre; exact of_decide_eq_true hre.1
      refine wpIn_rangeFunc_ownH rfl (by omega) (gf := 116) (lb := #[.pointer (some ⟨w4.heap.size + 1, 0, none⟩), .pointer (some ⟨w4.heap.size, 0, none⟩)]) rfl trivial (enters_of Tryd.func116 (by kernel_rfl) rfl)
        (way_stops (5 - 1) (by omega) (w4.heap.size + 1) w4.heap.size j n (by omega) (by omega) w5 eM.cell eA.cell eM.lt eA.lt) keepsCell_t (keepsCell_b eA.lt) (Below.refl _ _) (fun _ => rfl)
        (fun pre W => ((∃ v, Boxed W (w.heap.size + 1) 44 v ∧ W.ownsRow w.heap.size 46 34 v pre.length ((pre.map fun x : WX n => rootV (partL ns x.1)).flatMap Nd.cells) ∧ True) ∧ (Boxed W w.heap.size 44 (.slice A n c) ∧ Boxed W w4.heap.size 3 (.int .i64 j))) ∧ Below w.heap.size w W)
        (fun _ _ _ => False)
        (OwnFrom.and (OwnFrom.and (Own.from (holdsRow_own w.heap.size (w.heap.size + 1) 44 46 34 (fun pre : List (WX n) => pre.length) (fun pre => (pre.map fun x : WX n => rootV (partL ns x.1)).flatMap Nd.cells) (fun _ _ => True)) _) (OwnFrom.and (Own.from (boxed_own _ _ _) _) (Own.from (boxed_own _ _ _) _))) (ownFrom_below (Nat.le_refl _) hb5.size))
        (fun _ _ _ _ _ hs _ _ => hs)
        ⟨⟨⟨_, e1, World.ownsRow_nil _ _ _ _, trivial⟩, e0, eA⟩, hb5⟩
        (fun x a' W => ∃ Bx, Blk W Bx 105 #[.int .i64 x.1.2.1, .int .i64 x.1.2.2] ∧ a' = { tmps := #[.slice A n c, .int .i64 j, .pointer (some ⟨w.heap.size, 0, none⟩), undef, .pointer (some ⟨w.heap.size + 1, 0, none⟩), .int .i64 0, .pointer (some ⟨w3.heap.size, 0, none⟩), .int .i64 0, undef, .pointer (some ⟨Bx, 0, none⟩), undef, undef, .tuple #[.agg cs.toArray, .int .i64 0], .slice A n c, .tuple #[.agg cs.toArray, .int .i64 0], .agg cs.toArray, .int .i64 0, .int .i64 0, .bool false, undef, .int .i64 j, .bool false, .bool false, .int .i64 j, .slice A n c, .int .i64 n, .bool false, .bool false, .int .i64 j, .slice A n c, .int .i64 n, .func (.func 116) #[] #[.pointer (some ⟨w4.heap.size + 1, 0, none⟩), .pointer (some ⟨w4.heap.size, 0, none⟩)], .bool x.1.1, .agg #[.int .i64 x.1.2.1, .int .i64 x.1.2.2], undef, undef, undef, undef, undef, undef, undef, undef, undef, undef, undef, undef, undef, undef, undef, undef, undef], defers := [] }) ?hax ?assign ?body ?done ?stop
      case hax =>
        rintro x a' _ X Y row ⟨Bx, hb, e⟩ hg hr
        refine ⟨Bx, (hg.block Bx hb.lt (fun e' => ?_)).trans hb, e⟩
        obtain ⟨_, o, ho, hc⟩ := hr Bx e'.symm
        rw [show X.heap[Bx]? = _ from hb] at ho; cases ho; cases hc
      case assign =>
        rintro l pre x W K ⟨⟨⟨v, hv, hrow, _⟩, hs0, hsA⟩, hB⟩ hK
        obtain ⟨⟨r, lo, hi⟩, hx1, hx2⟩ := x
        dsimp only [encW]
        gi_wp2
        refine hK _ _ ((KeepsOthers.alloc _ _).from _) ?_ ⟨⟨⟨v, hv.alloc _, hrow.alloc _, trivial⟩, hs0.alloc _, hsA.alloc _⟩, hB.alloc hB.size _⟩ ⟨W.heap.size, Blk.new _ _ _, rfl⟩
        exact (hsA.alloc _).cell.trans hsA.cell.symm
      case body =>
        rintro l pre x a' W hl _ ⟨⟨⟨v, hv, hrow, _⟩, hs0, hsA⟩, hB⟩ ⟨Bx, hbx, rfl⟩ hlt
        obtain ⟨⟨r, lo, hi⟩, hx1, hx2⟩ := x
        dsimp only at hx1 hx2 hbx ⊢
        obtain ⟨g, o, rfl, hpart⟩ := (h.below hB).part hx1 hx2
        have cR := root_any _ _ _ _ W hpart (hT.ext hB)
        have hd2 : (rootV (partL ns (r, lo, hi))).d.length = 32 := rootV_len hpart.dig
        have hsr := Nd.size _ hd2
        have hall := nd_all (rootV (partL ns (r, lo, hi)))
        have hcap := hpart.cap
        have hle : n ≤ c := h.le
        obtain ⟨E2, hE2⟩ : ∃ E2 : Int, (if rootE ((ns.drop lo).take (hi - lo)) then 0 else 410 : Int) = E2 := ⟨_, rfl⟩
        have hpe : (ns.drop lo).take (hi - lo) = partL ns (r, lo, hi) := rfl
        rw [hE2] at cR
        have hfl := List.flatMap_append (xs := pre.map fun x : WX n => rootV (partL ns x.1)) (ys := [rootV (partL ns (r, lo, hi))]) (f := Nd.cells)
        rw [hpe] at cR
        obtain ⟨R2, hR2⟩ : ∃ R2, (rootV (partL ns (r, lo, hi))).arr = R2 := ⟨_, rfl⟩
        have hcl2 := Nd.len _ hd2
        have hR2c : (rootV (partL ns (r, lo, hi))).cells.toArray = R2 := hR2
        obtain ⟨cs2, hcs2⟩ : ∃ cs2, (rootV (partL ns (r, lo, hi))).cells = cs2 := ⟨_, rfl⟩
        rw [hcs2] at hR2c hcl2
        rw [hR2] at cR hsr hall
        subst hR2c
        have hone : ∀ v ∈ cs2, v.oneCell' = true := fun v hv => (Array.all_eq_true_iff_forall_mem.1 hall) v (by simpa using hv)
        have hi46 : (Tryd.prog.info? 46).map (·.size) = some cs2.length := by rw [hcl2]; exact size46
        have CR := Lib.hid cR
        have x0 : W.cell? ⟨Bx, 0, none⟩ = some (.int .i64 lo) := hbx.cell 0
        have x1 : W.cell? ⟨Bx, 1, none⟩ = some (.int .i64 hi) := hbx.cell 1
        have c8 := hs0.cell
        have i0 : (0 : Int) ≤ (lo : Int) := by omega
        have i1 : (lo : Int) ≤ (hi : Int) := by omega
        have i2 : (hi : Int) ≤ (c : Int) := by omega
        have d3 : (c = lo) = False := eq_false (by omega)
        have HV := Lib.hid hv; have HROW := Lib.hid hrow; have HS0 := Lib.hid hs0; have HSA := Lib.hid hsA; have HB := Lib.hid hB; have HFL := Lib.hid hfl; have HCS := Lib.hid hcs2; have HD2 := Lib.hid hd2
        have hlit := HLIT.out
        have hs := HSN.out
        clear hv hrow hs0 hsA hB hfl hbx cR e0 e1 eA eM hcs2 hR2 hd2
        gi_wp2_with fail
        refine ⟨trivial, ?_⟩
        refine (CallsIn.inRound l (callsIn_wide.2 CR.out)).mono ?_
        rintro e wR ⟨rfl, kR⟩
        have st := store_row (W := wR.alloc (.cells na 46)) (g := wR.heap.size) (cs := cs2) (Blk.new _ _ _) (by omega) hone
        have th := blk_there (Blk.new wR 46 na) hs
        clear c8 x0 x1
        gi_upto_region 9 with fail
        have kW : Below W.heap.size W ((wR.alloc (.cells na 46)).setRow wR.heap.size cs2.toArray) := below_setRow (kR.alloc kR.size _) kR.size _
        have yX : Blk ((wR.alloc (.cells na 46)).setRow wR.heap.size cs2.toArray) wR.heap.size 46 cs2.toArray := setRow_heap _ _ _ _ _ _ (Blk.new wR 46 na)
        clear st th
        generalize (wR.alloc (.cells na 46)).setRow wR.heap.size cs2.toArray = w9 at kW yX ⊢
        have y4 := boxed_below HV.out kW
        have y2 := boxed_below HS0.out kW
        have yA := boxed_below HSA.out kW
        have yR := owns_below kW HROW.out
        have yB := bl HB.out kW
        apply wpIn_region_lit
        refine wpListIn_run (fun _ => trivial) rfl (by intro c h; cases h) v w9 (exec_load_cell44 (.tmp 4) rfl (w.heap.size + 1) (by rfl) v y4.cell) ?_
        refine wpListIn_run (fun _ => trivial) rfl (by intro c h; cases h) (.agg cs2.toArray) w9 (exec_load_row 46 (.tmp 10) rfl _ (by rfl) 46 cs2.toArray _ yX Tryd.underlying46 rfl (by rw [List.size_toArray]; exact hi46)) ?_
        refine wpListIn_run (fun _ => trivial) rfl (by intro c h; cases h) _ _ (exec_one (.tmp 45) rfl cs2.toArray (by rfl) (by rw [List.size_toArray]; exact hcl2)) ?_
        have hlen : pre.length < 4096 := by have := wayL_length j n 0 n (Nat.le_refl _); omega
        obtain ⟨i0', hi', hzr, hsize, hby⟩ := info_parts info46
        refine wpListIn_append_own _ rfl (.tmp 44) (.tmp 46) 44 rfl w.heap.size 46 i0' (.agg nd0.arr) 34 48 Tryd.underlying44 hi' hzr hsize hby rfl (by decide) v pre.length _ (by rfl) (yR.alloc _) ⟨w9.heap.size, 0, none⟩ 1 1 cs2 (by rfl) hcl2 (fun q u hu => ?_) hone (by unfold maxLen; omega) (by omega) (by have := yB.size; simp; omega) ?_
        · rw [addr_mid, Nat.zero_add]
          exact ((Blk.new w9 46 cs2.toArray).cell q).trans (by simpa using hu)
        intro v' w1 hown' hgrow _
        obtain ⟨g', cap', rfl⟩ := ownsRow_succ hown'
        obtain ⟨hv1, hv2, hr2, hk2, hb2⟩ := y4.appended (by decide) yR yB.size (Nat.le_succ _) hown' hgrow
        have z2 : Boxed (w1.setCell ⟨w.heap.size + 1, 0, none⟩ (.slice (some ⟨g', 0, none⟩) (pre.length + 1) cap')) w.heap.size 44 (.slice (some ⟨g, o, none⟩) n c) := ((y2.alloc _).kept hgrow (y2.not_row (by decide) yR)).other (by omega) _
        have zA : Boxed (w1.setCell ⟨w.heap.size + 1, 0, none⟩ (.slice (some ⟨g', 0, none⟩) (pre.length + 1) cap')) w4.heap.size 3 (.int .i64 j) := ((yA.alloc _).kept hgrow (yA.not_row (by decide) yR)).other (by have := d1.lt; omega) _
        have hc1 := hv1.cell
        have hf1 := hv1.frozen
        clear y4 y2 yX
        gi_wp2_with fail
        refine ⟨((keeps_below kW).trans hk2).from _, ?_, ⟨⟨_, hv2, ?_, trivial⟩, z2, zA⟩, yB.trans hb2⟩
        · exact zA.cell.trans (HSA.out).cell.symm
        · rw [List.length_append, List.map_append, List.flatMap_append]
          have e : List.flatMap Nd.cells (List.map (fun x : WX n => rootV (partL ns x.val)) [⟨(r, lo, hi), ⟨hx1, hx2⟩⟩]) = cs2 := by
            rw [List.map_singleton, List.flatMap_singleton]; exact HCS.out
          rw [e]
          exact hr2
      case done =>
        rintro D ys W hD hys ⟨⟨⟨v, hv, hrow, _⟩, hs0, hsA⟩, hB⟩ hK
        have hdg : ∀ x ∈ ys.map (fun x : WX n => rootV (partL ns x.1)), x.d.length = 32 := by
          intro x hx
          obtain ⟨y, _, rfl⟩ := List.mem_map.1 hx
          exact rootV_len (fun z hz => h.dig z (List.mem_of_mem_drop (List.mem_of_mem_take hz)))
        have hpl : pathL ns j = (ys.map (fun x : WX n => rootV (partL ns x.1))).reverse := by
          unfold pathL
          rw [if_pos hpe, Int.toNat_natCast, hl, ← hys, List.map_map]; rfl
        have hlen : ys.length < 4097 := by
          have := wayL_length j n 0 n (Nat.le_refl _)
          rw [← hys, List.length_map] at this
          omega
        have hc4 := hv.cell
        have HPE := Lib.hid hpe; have HPL := Lib.hid hpl; have HYS := Lib.hid hys; have HH := Lib.hid h; have HT := Lib.hid hT; have HK := Lib.hid hK; have HV := Lib.hid hv; have HB := Lib.hid hB
        rcases own_nodes hrow (List.length_map _) hdg with ⟨rfl, h0⟩ | ⟨g, cap, rfl, hbase, hkc, hcap, hN, hth, hg⟩
        · have hfr := hv.frozen
          clear hpe hpl hys h hT hK hrow hs0 hsA e0 e1 eA eM hv hB
          gi_wp2_with (refine ⟨trivial, ?_⟩; gi_at_call 91; refine (callsIn_wide.2 (rev_zero none 0 _)).mono ?_; rintro e w' ⟨⟨v, rfl⟩, rfl⟩)
          have v9 := (HV.out).set (.slice none 0 0)
          have k9 := (KeepsOthers.setCell W ⟨w.heap.size + 1, 0, none⟩ (.slice none 0 0)).same D _ HK.out rfl
          have b9 := (HB.out).setCell (p := ⟨w.heap.size + 1, 0, none⟩) (Nat.le_succ _) (.slice none 0 0)
          refine ⟨by simp, .inl ⟨_, _, rfl, run_takeDeferred k9, ?_⟩⟩
          refine ⟨_, results_path rfl (cell_kept v9.cell (grownBy_putObj' _ D (.deferred none)) (fun r e => by cases e; exact ⟨_, k9, rfl⟩)) rfl rfl, none, 0, 0, by rw [HPE.out]; rfl, ?_, b9.trans (belowK_b (w := w) (Nat.le_refl _) _ D _ _ (Nat.le_trans hb5.size hD) k9 rfl rfl)⟩
          rw [HPL.out, List.length_eq_zero_iff.1 h0]
          exact ns_nil _
        · have hfr := hv.frozen
          have hLl : (ys.map (fun x : WX n => rootV (partL ns x.1))).length = ys.length := List.length_map _
          have CRV := Lib.hid (rev_nodes g 0 ys.length cap _ W hLl (by omega) hkc hcap hN hdg hth)
          have hgne : g ≠ D := fun e => by
            have h1 := HK.out
            rw [← e] at h1
            have := hth
            obtain ⟨_, hgt⟩ := own_is_cells hrow rfl
            rw [h1] at hgt; cases hgt
          have hne4 : w.heap.size + 1 ≠ g := fun e => by
            have := hv.not_row (by decide) hrow
            exact this (by rw [e]; rfl)
          clear hpe hpl hys h hT hK hrow hs0 hsA e0 e1 eA eM hv hB hN hth
          gi_wp2_with fail
          refine ⟨trivial, ?_⟩
          refine (callsIn_wide.2 CRV.out).mono ?_
          rintro e W2 ⟨⟨v, rfl⟩, hN2, hG2⟩
          have v2 := (HV.out).kept hG2 (fun e => hne4 (by cases e; rfl))
          have c2 := v2.cell
          have f2 := v2.frozen
          gi_wp2_with fail
          have hDl : D < W.heap.size := (Array.getElem?_eq_some_iff.1 HK.out).1
          have k2 := (hG2.block D hDl (fun e => hgne (by cases e; rfl))).trans HK.out
          have k9 := (KeepsOthers.setCell W2 ⟨w.heap.size + 1, 0, none⟩ (.slice (some ⟨g, 0, none⟩) ys.length cap)).same D _ k2 rfl
          have v9 := v2.set (.slice (some ⟨g, 0, none⟩) ys.length cap)
          have b2 := (HB.out).grown hG2 (HB.out).size (fun k e => by cases e; exact hbase)
          have b9 := b2.setCell (p := ⟨w.heap.size + 1, 0, none⟩) (Nat.le_succ _) (.slice (some ⟨g, 0, none⟩) ys.length cap)
          have N9 := (hN2.kept (grownBy_setCell' W2 (w.heap.size + 1) (.slice (some ⟨g, 0, none⟩) ys.length cap)) (fun e => hne4 (by cases e; rfl))).kept (grownBy_putObj' _ D (.deferred none)) (fun e => hgne (by cases e; rfl))
          refine ⟨by simp, .inl ⟨_, _, rfl, run_takeDeferred k9, ?_⟩⟩
          refine ⟨_, results_path rfl (cell_kept v9.cell (grownBy_putObj' _ D (.deferred none)) (fun r e => by cases e; exact ⟨_, k9, rfl⟩)) rfl rfl, some ⟨g, 0, none⟩, ys.length, cap, by rw [HPE.out]; rfl, ?_, b9.trans (belowK_b (w := w) (Nat.le_refl _) _ D _ _ (Nat.le_trans hb5.size hD) k9 rfl rfl)⟩
          rw [HPL.out]
          refine ⟨by rw [List.length_reverse, hLl], hkc, hcap, (fun e => by cases e), fun _ => ⟨g, 0, rfl, N9, ?_⟩, fun x hx => hdg x (List.mem_reverse.1 hx)⟩
          have := hG2.size
          simp
          omega
      case stop =>
        rintro D c pre W _ _ h _
        exact h.elim
  · have hE0 : E = 410 := by rw [← hE, if_neg hre]
    subst hE0
    have hpe : pathE ns at_ = 410 := by unfold pathE; rw [if_neg hre]
    have hpl : pathL ns at_ = [] := by unfold pathL; rw [hpe]; rfl
    have HPE := Lib.hid hpe; have HPL := Lib.hid hpl; have HB := Lib.hid hb4; have H := Lib.hid h; have D1 := Lib.hid d1
    clear hpe hpl hb4 h d1 hre hT
    gi_wp2_with fail
    have d9 := (D1.out).set (.slice none 0 0)
    exact ⟨_, results_path rfl d9.cell rfl rfl, none, 0, 0, by rw [HPE.out]; rfl, by rw [HPL.out]; exact ns_nil _, (HB.out).setCell (p := ⟨w.heap.size + 1, 0, none⟩) (Nat.le_succ _) _⟩
open Go.RowKit Go.Shelf
attribute [local go_sem] Oper.semAt_some
theorem exec_store_row {o : Oper} {a : Act} {w : World} (ty : TypeId) (x y : Operand) (ho : o.op = .store ty x y) (g : Nat) (cells : Array Value) (hx : a.eval x = .pointer (some ⟨g, 0, none⟩)) (hy : a.eval y = .agg cells)
    (t : TypeId) (old : Array Value) (hg : Blk w g t old) (hi : (Tryd.prog.info? ty).map (·.size) = some cells.size) (hold : old.size = cells.size) (h1 : cells.all (·.oneCell') = true) : (execOp a.eval o).run Tryd.prog w = .ok .skip (w.setRow g cells) := by
  unfold execOp
  simp only [ho, hx, hy, Instr.storeAt, Instr.sureAddr, Sem.run_bind, Sem.run_pure, Result.andThen_ok, run_storeVar_row w g t ty old cells hg hi hold h1]
theorem results_node3 {f : Func} (hf : f.results = #[.cell 8 46, .tmp 9]) {tmps : Array Value} {W : World} {g : Nat} {ar : Array Value} {e : Value} (h : Blk W g 46 ar) (hs : ar.size = 34) (h1 : tmps.getD 8 undef = .pointer (some ⟨g, 0, none⟩)) (h2 : tmps.getD 9 undef = e) :
    (results f tmps).run Tryd.prog W = .ok (.tuple #[.agg ar, e]) W := by
  rw [results_cell_tmp (p := 8) (u := 9) (ty := 46) hf, h1, h2]
  have hl := run_loadVar_row (P := Tryd.prog) W g 46 46 ar _ _ h Tryd.underlying46 rfl (by rw [hs]; exact size46)
  simp only [asAddr, Sem.run_pure, Result.andThen_ok, hl]
/-- what Join returns. -/
def joinR (a b : Nd) : Nd := if validB [a, b] then joinV a b else nd0
/-- what Join says of an error. -/
def joinE (a b : Nd) : Int := if validB [a, b] then 0 else 410
theorem join_any (a b : Nd) (w : World) (ha : a.d.length = 32) (hb : b.d.length = 32) (hT : Tabs w) : Calls Tryd.prog 44 #[.agg a.arr, .agg b.arr] w fun e w' => e = .returned (.tuple #[.agg (joinR a b).arr, .int .i64 (joinE a b)]) ∧ Below w.heap.size w w' := by
  unfold joinR joinE
  cases hv : validB [a, b]
  · exact join_no a b w ha hb hv
  · exact join_yes a b w ha hb hv hT
theorem joinR_len (a b : Nd) : (joinR a b).d.length = 32 := by unfold joinR; split; exact joinV_len _ _; rfl
/-- a step of Climb. -/
def stepR (n : Nd) (x : Bool × Nd) : Nd := if x.1 then joinR n x.2 else joinR x.2 n
def stepE (n : Nd) (x : Bool × Nd) : Int := if x.1 then joinE n x.2 else joinE x.2 n
/-- the way up. -/
def upV : Nd → List (Bool × Nd) → Nd × Int
  | n, [] => (n, 0)
  | n, x :: l => if stepE n x = 0 then upV (stepR n x) l else (nd0, stepE n x)
def climbA (at_ many : Int) : Bool := decide (1 ≤ many ∧ many ≤ 4096 ∧ 0 ≤ at_ ∧ at_ < many)
/-- the sides on the way up. -/
def sidesL (at_ many : Int) : List Bool := ((wayL at_.toNat 0 many.toNat).map (·.1)).reverse
/-- what Climb returns. -/
def climbV (n : Nd) (at_ many : Int) (path : List Nd) : Nd × Int :=
  if climbA at_ many then (if path.length = (sidesL at_ many).length then (if validB [n] then upV n ((sidesL at_ many).zip path) else (nd0, 410)) else (nd0, 1)) else (nd0, 1)
set_option maxRecDepth 100000 in
set_option maxHeartbeats 2000000 in
theorem climb_arg (n : Nd) (at_ many : Int) (A : Option Addr) (k c : Nat) (w : World) (hd : n.d.length = 32) (h : climbA at_ many = false) : Calls Tryd.prog 48 #[.agg n.arr, .int .i64 at_, .int .i64 many, .slice A k c] w fun e w' => e = .returned (.tuple #[.agg nd0.arr, .int .i64 1]) ∧ Below w.heap.size w w' := by
  obtain ⟨ar, har⟩ : ∃ ar, n.arr = ar := ⟨_, rfl⟩
  obtain ⟨na, hna⟩ : ∃ na, nd0.arr = na := ⟨_, rfl⟩
  have hs : na.size = 34 := by rw [← hna]; rfl
  have hall : na.all (·.oneCell') = true := by rw [← hna]; exact nd0_all
  rw [har, hna]
  have HNA := Lib.hid hna
  have hz : Blk ((w.alloc (.cells ar 46)).alloc (.cells na 46)) (w.heap.size + 1) 46 na := by
    have := Blk.new (w.alloc (.cells ar 46)) 46 na
    rwa [World.size_alloc] at this
  have hb : Below w.heap.size w ((w.alloc (.cells ar 46)).alloc (.cells na 46)) := ((Below.refl _ w).alloc (Nat.le_refl _) _).alloc (by simp) _
  clear hna har
  have h2 : many < 1 ∨ 4096 < many ∨ at_ < 0 ∨ many ≤ at_ := by
    have := of_decide_eq_false h
    omega
  clear h
  go_enter Tryd.func48, Tryd.ntmps48
  go_upto_region 1 with fail
  generalize hW0 : (w.alloc (Obj.cells ar 46)).alloc (Obj.cells _ 46) = W1
  have hzz : (w.alloc (.cells ar 46)).alloc (.cells na 46) = W1 := by rw [← HNA.out]; exact hW0
  rw [hzz] at hz hb
  clear hW0 hzz
  by_cases c1 : many < 1
  · have d1 : decide (many < 1) = true := decide_eq_true c1
    clear h2 c1
    go_upto_region 2 with fail
    apply wp_region_lit
    refine wpList_load_row rfl 46 (.tmp 8) rfl (w.heap.size + 1) rfl 46 na _ _ hz Tryd.underlying46 rfl (by rw [hs]; exact size46) ?_
    refine wpList_store_row rfl 46 (.tmp 8) (.tmp 29) rfl (w.heap.size + 1) na (by rfl) (by rfl) 46 na hz (by rw [hs]; exact size46) rfl hall ?_
    rw [hz.setRow_same]
    go_wp2_with fail
    refine bodyPost_ret (v := .tuple #[.agg na, .int .i64 1]) ?_ rfl ⟨rfl, hb⟩
    exact results_node3 rfl hz hs rfl rfl
  · have d1 : decide (many < 1) = false := decide_eq_false c1
    by_cases c2 : 4096 < many
    · have d2 : decide (4096 < many) = true := decide_eq_true c2
      clear h2 c1 c2
      go_upto_region 2 with fail
      apply wp_region_lit
      refine wpList_load_row rfl 46 (.tmp 8) rfl (w.heap.size + 1) rfl 46 na _ _ hz Tryd.underlying46 rfl (by rw [hs]; exact size46) ?_
      refine wpList_store_row rfl 46 (.tmp 8) (.tmp 29) rfl (w.heap.size + 1) na (by rfl) (by rfl) 46 na hz (by rw [hs]; exact size46) rfl hall ?_
      rw [hz.setRow_same]
      go_wp2_with fail
      refine bodyPost_ret (v := .tuple #[.agg na, .int .i64 1]) ?_ rfl ⟨rfl, hb⟩
      exact results_node3 rfl hz hs rfl rfl
    · have d2 : decide (4096 < many) = false := decide_eq_false c2
      by_cases c3 : at_ < 0
      · have d3 : decide (at_ < 0) = true := decide_eq_true c3
        clear h2 c1 c2 c3
        go_upto_region 2 with fail
        apply wp_region_lit
        refine wpList_load_row rfl 46 (.tmp 8) rfl (w.heap.size + 1) rfl 46 na _ _ hz Tryd.underlying46 rfl (by rw [hs]; exact size46) ?_
        refine wpList_store_row rfl 46 (.tmp 8) (.tmp 29) rfl (w.heap.size + 1) na (by rfl) (by rfl) 46 na hz (by rw [hs]; exact size46) rfl hall ?_
        rw [hz.setRow_same]
        go_wp2_with fail
        refine bodyPost_ret (v := .tuple #[.agg na, .int .i64 1]) ?_ rfl ⟨rfl, hb⟩
        exact results_node3 rfl hz hs rfl rfl
      · have d3 : decide (at_ < 0) = false := decide_eq_false c3
        have d4 : decide (many ≤ at_) = true := decide_eq_true (by omega)
        clear h2 c1 c2 c3
        go_upto_region 2 with fail
        apply wp_region_lit
        refine wpList_load_row rfl 46 (.tmp 8) rfl (w.heap.size + 1) rfl 46 na _ _ hz Tryd.underlying46 rfl (by rw [hs]; exact size46) ?_
        refine wpList_store_row rfl 46 (.tmp 8) (.tmp 29) rfl (w.heap.size + 1) na (by rfl) (by rfl) 46 na hz (by rw [hs]; exact size46) rfl hall ?_
        rw [hz.setRow_same]
        go_wp2_with fail
        refine bodyPost_ret (v := .tuple #[.agg na, .int .i64 1]) ?_ rfl ⟨rfl, hb⟩
        exact results_node3 rfl hz hs rfl rfl
open Go.RowKit Go.Shelf
attribute [local go_sem] Oper.semAt_some
theorem blk_own {β : Type} (g : Nat) (t : TypeId) (cs : Array Value) : Own (fun (_ : β) W => Blk W g t cs) := fun s X Y row hs hg hrow =>
  (hg.block g hs.lt (fun e' => by obtain ⟨o, ho, hc⟩ := hrow g e'.symm; rw [show X.heap[g]? = _ from hs] at ho; cases ho; cases hc)).trans hs
theorem blk_not_row {W : World} {g : Nat} {t e : TypeId} {cs : Array Value} (h : Blk W g t cs) (hte : t ≠ e) {base size k : Nat} {v : Value} {xs : List Value} (hr : W.ownsRow base e size v k xs) : some g ≠ v.ownBlock := by
  rcases hr.2 with ⟨rfl, _⟩ | ⟨g', cap, cur, rfl, _, hgb, _⟩
  · simp [Value.ownBlock]
  · intro e'
    obtain rfl : g = g' := by simpa [Value.ownBlock] using e'
    have := (show W.heap[g]? = _ from h).symm.trans hgb
    simp at this
    exact hte this.2
theorem blk_kept {W W' : World} {row : Option Nat} {g : Nat} {t : TypeId} {cs : Array Value} (h : Blk W g t cs) (hg : W.grownBy W' row) (hne : some g ≠ row) : Blk W' g t cs := (hg.block g h.lt hne).trans h
theorem info4 : (Tryd.prog.info? 4).map (fun i => (i.zero, i.size, i.bytes)) = some (some (.bool false), 1, 1) := by kernel_rfl
/-- what Climb keeps behind its range. -/
structure CS (w : World) (gR D : Nat) (v : Value) (na arr : Array Value) (W : World) : Prop where
  b : Below w.heap.size w W
  h4 : Blk W w.heap.size 46 arr
  h8 : Blk W (w.heap.size + 1) 46 na
  hv : Boxed W gR 108 v
  hK : W.heap[D]? = some (.deferred (some []))
theorem CS.below {w : World} {gR D : Nat} {v : Value} {na arr : Array Value} {W W' : World} (h : CS w gR D v na arr W) (k : Below W.heap.size W W') : CS w gR D v na arr W' :=
  ⟨bl h.b k, h.h4.below k h.h4.lt, h.h8.below k h.h8.lt, boxed_below h.hv k, (k.block _ (Array.getElem?_eq_some_iff.1 h.hK).1).trans h.hK⟩
theorem CS.grown {w : World} {gR D : Nat} {v : Value} {na arr : Array Value} {W W' : World} {row : Option Nat} (h : CS w gR D v na arr W) (k : W.grownBy W' row) (hr : ∀ g, row = some g → w.heap.size ≤ g ∧ ∃ cs, W.heap[g]? = some (.cells cs 4 (0, 0))) : CS w gR D v na arr W' := by
  have ne : ∀ (g : Nat) (o : Obj), W.heap[g]? = some o → (∀ cs, o ≠ .cells cs 4 (0, 0)) → some g ≠ row := fun g o ho hc e => by
    obtain ⟨_, cs, h2⟩ := hr g e.symm
    rw [ho] at h2; cases h2; exact hc _ rfl
  refine ⟨h.b.grown k h.b.size (fun g e => (hr g e).1), blk_kept h.h4 k (ne _ _ h.h4 (fun cs e => by cases e)), blk_kept h.h8 k (ne _ _ h.h8 (fun cs e => by cases e)), h.hv.kept k (ne _ _ h.hv (fun cs e => by cases e)), ?_⟩
  exact (k.block _ (Array.getElem?_eq_some_iff.1 h.hK).1 (ne _ _ h.hK (fun cs e => by cases e))).trans h.hK
theorem CS.store4 {w : World} {gR D : Nat} {v : Value} {na arr : Array Value} {W : World} (h : CS w gR D v na arr W) (hgR : w.heap.size + 1 < gR) (ar2 : Array Value) : CS w gR D v na ar2 (W.setRow w.heap.size ar2) :=
  ⟨below_setRow h.b (Nat.le_refl _) _, setRow_heap _ _ _ _ _ _ h.h4, (setRow_other _ _ _ _ (by omega)).trans h.h8, (setRow_other _ _ _ _ (by omega)).trans h.hv, (keeps_setRow h.h4 ar2).same D _ h.hK rfl⟩
theorem CS.store8 {w : World} {gR D : Nat} {v : Value} {na arr : Array Value} {W : World} (h : CS w gR D v na arr W) (hgR : w.heap.size + 1 < gR) (ar2 : Array Value) : CS w gR D v ar2 arr (W.setRow (w.heap.size + 1) ar2) :=
  ⟨below_setRow h.b (Nat.le_succ _) _, (setRow_other _ _ _ _ (by omega)).trans h.h4, setRow_heap _ _ _ _ _ _ h.h8, (setRow_other _ _ _ _ (by omega)).trans h.hv, (keeps_setRow h.h8 ar2).same D _ h.hK rfl⟩
theorem joinE_cases (a b : Nd) : joinE a b = 0 ∨ joinE a b = 410 := by unfold joinE; split <;> simp
theorem rev_zero93 (A : Option Addr) (c : Nat) (w : World) : Calls Tryd.prog 93 #[.slice A (0 : Nat) c] w fun e w' => (∃ v, e = .returned v) ∧ w = w' := by
  go_enter Tryd.func93, Tryd.ntmps93
  go_wp2_with fail
  go_loop [2, 3] (fun x y => x = .int .i64 0 ∧ y = .int .i64 (-1)) (fun _ _ => 0)
  case atStart => exact ⟨rfl, rfl⟩
  case round =>
    obtain ⟨rfl, rfl⟩ := hrel
    go_wp2_with fail
    go_end0
    exact ⟨⟨_, rfl⟩, rfl⟩
/-- truth values of a slice of the call's own. -/
theorem own_bools {W : World} {base : Nat} {v : Value} {k : Nat} {L : List Bool} (h : W.ownsRow base 4 1 v k (L.map Value.bool)) (hl : L.length = k) :
    (v = .slice none 0 0 ∧ k = 0) ∨ ∃ g cap, v = .slice (some ⟨g, 0, none⟩) k cap ∧ base ≤ g ∧ k ≤ cap ∧ cap ≤ 9223372036854775807 ∧ RevB W g 0 k L 0 ∧ ∃ cs, W.heap[g]? = some (.cells cs 4 (0, 0)) := by
  rcases h.2 with ⟨rfl, h0⟩ | ⟨g, cap, cur, rfl, hb, hg, h1, h2, h3, h4⟩
  · exact .inl ⟨rfl, h0⟩
  · refine .inr ⟨g, cap, rfl, hb, h1, by unfold maxLen at h2; omega, fun m hm => ⟨?_, frozen_of_row hg _⟩, _, hg⟩
    have h5 : cur[m]? = some (Value.bool L[m]) := by
      have : (L.map Value.bool)[m]? = some (Value.bool L[m]) := by rw [List.getElem?_map, List.getElem?_eq_getElem (by omega)]; rfl
      rw [← this, ← h4, List.getElem?_take, if_pos (by omega), Array.getElem?_toList]
    have e : revB L 0 m = L[m] := by
      unfold revB
      rw [if_neg (by omega), List.getD_eq_getElem?_getD, List.getElem?_eq_getElem (by omega)]; rfl
    rw [e, Nat.zero_add]
    exact (cell_of_row _ _ _ _ _ _ hg).trans h5
/-- Reverse of the sides. -/
theorem rev_sides {W : World} {base : Nat} {v : Value} {k : Nat} {L : List Bool} (h : W.ownsRow base 4 1 v k (L.map Value.bool)) (hl : L.length = k) (hk : k ≤ 100000) :
    ∃ A c, v = .slice A k c ∧ k ≤ c ∧ c ≤ 9223372036854775807 ∧ (0 < k → ∃ g, A = some ⟨g, 0, none⟩) ∧ (∀ g, A = some ⟨g, 0, none⟩ → ∃ cs, W.heap[g]? = some (.cells cs 4 (0, 0))) ∧ Calls Tryd.prog 93 #[v] W fun e w' => (∃ v, e = .returned v) ∧ (∀ g, A = some ⟨g, 0, none⟩ → BAt w' g 0 L.reverse) ∧ ∃ row, W.grownBy w' row ∧ ∀ g, row = some g → base ≤ g ∧ ∃ cs, W.heap[g]? = some (.cells cs 4 (0, 0)) := by
  rcases own_bools h hl with ⟨rfl, rfl⟩ | ⟨g, cap, rfl, hb, h1, h2, h3, h4⟩
  · exact ⟨none, 0, rfl, Nat.le_refl _, by omega, fun h => absurd h (by omega), (fun g e => by cases e), (rev_zero93 none 0 W).mono fun e w' ⟨h1, h2⟩ => ⟨h1, (fun g e => by cases e), none, h2 ▸ ⟨rfl, rfl, rfl, Nat.le_refl _, fun _ _ _ => rfl⟩, (fun g e => by cases e)⟩⟩
  · exact ⟨_, cap, rfl, h1, h2, fun _ => ⟨g, rfl⟩, (fun g' e => by cases e; exact h4), (rev_bools g 0 k cap L W hl hk h3).mono fun e w' ⟨h1, h5, h6⟩ => ⟨h1, (fun g' e => by cases e; exact h5), some g, h6, (fun g' e => by cases e; exact ⟨hb, h4⟩)⟩⟩
theorem climb_ret {w : World} {gR D : Nat} {v : Value} {na arr : Array Value} {W : World} (h : CS w gR D v na arr W) (hs : na.size = 34) (hD : w.heap.size ≤ D) :
    Blk (W.putObj D (.deferred none)) (w.heap.size + 1) 46 na ∧ Below w.heap.size w (W.putObj D (.deferred none)) := by
  refine ⟨blk_kept h.h8 (grownBy_putObj' _ D (.deferred none)) (fun e => ?_), h.b.trans (belowK_b (w := w) (Nat.le_refl _) _ D _ _ hD h.hK rfl rfl)⟩
  have h8 := h.h8
  have e2 : w.heap.size + 1 = D := by injection e
  rw [e2] at h8
  have := h8.symm.trans h.hK
  cases this
theorem one_ns {W : World} {g : Nat} {nd : Nd} (h : Blk W g 46 nd.arr) (hd : nd.d.length = 32) : NS W (some ⟨g, 0, none⟩) 1 1 [nd] :=
  ⟨rfl, Nat.le_refl _, by omega, (fun e => by cases e), fun _ => ⟨g, 0, rfl, fun i hi j v hv => by
    have : i = 0 := by simp at hi; omega
    subst this
    rw [Nat.zero_mul, Nat.add_zero, Nat.zero_add, h.cell j]
    unfold Nd.arr; rw [List.getElem?_toArray]; exact hv, h.lt⟩, fun x hx => by simp at hx; subst hx; exact hd⟩
theorem BAt.below {W W' : World} {g o : Nat} {l : List Bool} (h : BAt W g o l) (hg : g < W.heap.size) (k : Below W.heap.size W W') : BAt W' g o l := fun m hm => (k.cell (p := ⟨g, o + m, none⟩) hg).trans (h m hm)
theorem BAt.setRow {W : World} {g o b : Nat} {l : List Bool} (h : BAt W g o l) (hb : g ≠ b) (cs : Array Value) : BAt (W.setRow b cs) g o l := fun m hm => by
  have e := setRow_other W b g cs hb
  rw [← h m hm]
  unfold World.cell?
  rw [e]
theorem exec_move {o : Oper} {a : Act} {w : World} (x : Operand) (ho : o.op = .move x) (v : Value) (hx : a.eval x = v) : (execOp a.eval o).run Tryd.prog w = .ok (.value v) w := by
  unfold execOp
  simp only [ho, hx]; rfl
theorem exec_assign {o : Oper} {a : Act} {w : World} (x : Operand) (ho : o.op = .assign x) (v : Value) (hx : a.eval x = v) : (execOp a.eval o).run Tryd.prog w = .ok (.value v) w := by
  unfold execOp
  simp only [ho, hx]; rfl
theorem exec_alloc46 {o : Oper} {a : Act} {w : World} (ho : o.op = .alloc 46) : (execOp a.eval o).run Tryd.prog w = .ok (.value (.pointer (some ⟨w.heap.size, 0, none⟩))) (w.alloc (.cells nd0.arr 46)) := by
  unfold execOp
  simp only [ho]; kernel_rfl
open Go.RowKit Go.Shelf
attribute [local go_sem] Oper.semAt_some
set_option maxRecDepth 100000 in
set_option maxHeartbeats 1000000 in
theorem climb_go (nd : Nd) (j m : Nat) (A : Option Addr) (k c : Nat) (path : List Nd) (w : World) (hd : nd.d.length = 32) (hjm : j < m) (hm : m ≤ 4096) (h : NS w A k c path) (hT : Tabs w) : Calls Tryd.prog 48 #[.agg nd.arr, .int .i64 j, .int .i64 m, .slice A k c] w fun e w' => e = .returned (.tuple #[.agg (climbV nd j m path).1.arr, .int .i64 (climbV nd j m path).2]) ∧ Below w.heap.size w w' := by
  obtain ⟨ar, har⟩ : ∃ ar, nd.arr = ar := ⟨_, rfl⟩
  obtain ⟨na, hna⟩ : ∃ na, nd0.arr = na := ⟨_, rfl⟩
  have hs : na.size = 34 := by rw [← hna]; rfl
  have hall : na.all (·.oneCell') = true := by rw [← hna]; exact nd0_all
  rw [har]
  have HNA := Lib.hid hna
  have HAR := Lib.hid har
  have hy : Blk ((w.alloc (.cells ar 46)).alloc (.cells na 46)) w.heap.size 46 ar := (Blk.new w 46 ar).alloc _
  have hz : Blk ((w.alloc (.cells ar 46)).alloc (.cells na 46)) (w.heap.size + 1) 46 na := by
    have := Blk.new (w.alloc (.cells ar 46)) 46 na
    rwa [World.size_alloc] at this
  have hb : Below w.heap.size w ((w.alloc (.cells ar 46)).alloc (.cells na 46)) := ((Below.refl _ w).alloc (Nat.le_refl _) _).alloc (by simp) _
  clear hna har
  have d1 : decide ((m : Int) < 1) = false := decide_eq_false (by omega)
  have d2 : decide ((4096 : Int) < m) = false := decide_eq_false (by omega)
  have d3 : decide ((j : Int) < 0) = false := decide_eq_false (by omega)
  have d4 : decide (m ≤ j) = false := decide_eq_false (by omega)
  refine (callsIn_wide (n := 5)).1 ?_
  refine callsIn_of_wp_marks Tryd.func48 rfl trivial ?_ rfl
  simp only [Tryd.ntmps48, List.size_toArray, List.length_cons, List.length_nil, Nat.reduceAdd, Nat.reduceSub, Array.replicate_succ, Array.replicate_zero, List.push_toArray, List.append_toArray, List.nil_append, List.cons_append]
  gi_upto_region 1 with fail
  generalize hW0 : (w.alloc (Obj.cells ar 46)).alloc (Obj.cells _ 46) = W1
  have hzz : (w.alloc (.cells ar 46)).alloc (.cells na 46) = W1 := by rw [← HNA.out]; exact hW0
  rw [hzz] at hy hz hb
  clear hW0 hzz
  gi_upto_region 4 with fail
  have e4 := hy.alloc (.cells #[.slice none 0 0] 108)
  have e8 := hz.alloc (.cells #[.slice none 0 0] 108)
  have eR := Boxed.new W1 108 (.slice none 0 0)
  have hb4 := hb.alloc hb.size (.cells #[.slice none 0 0] 108)
  obtain ⟨gR, hgR⟩ : ∃ g, W1.heap.size = g := ⟨_, rfl⟩
  have hgR2 : w.heap.size + 1 < gR := by have := hz.lt; omega
  have hsz4 : (W1.alloc (.cells #[.slice none 0 0] 108)).heap.size = gR + 1 := by simp [hgR]
  rw [hgR] at eR ⊢
  generalize W1.alloc (.cells #[.slice none 0 0] 108) = w4 at e4 e8 eR hb4 hsz4 ⊢
  clear hy hz hb d1 d2 d3 d4
  gi_wp2_with (refine ⟨trivial, ?_⟩; gi_at_call 90; refine (callsIn_wide.2 (way_any j m _)).mono ?_; rintro e w' ⟨rfl, rfl⟩)
  have e4 := (e4.alloc (.cells #[.int .i64 j] 3)).alloc (.cells #[.int .i64 m] 3)
  have e8 := (e8.alloc (.cells #[.int .i64 j] 3)).alloc (.cells #[.int .i64 m] 3)
  have eR := (eR.alloc (.cells #[.int .i64 j] 3)).alloc (.cells #[.int .i64 m] 3)
  have eA := (Boxed.new w4 3 (.int .i64 j)).alloc (.cells #[.int .i64 m] 3)
  have eM := Boxed.new (w4.alloc (.cells #[.int .i64 j] 3)) 3 (.int .i64 m)
  rw [World.size_alloc] at eM
  have hb5 := (hb4.alloc hb4.size (.cells #[.int .i64 j] 3)).alloc (by have := hb4.size; simp; omega) (.cells #[.int .i64 m] 3)
  rw [hsz4] at eA eM
  generalize (w4.alloc (Obj.cells #[Value.int IntKind.i64 j] 3)).alloc (Obj.cells #[Value.int IntKind.i64 m] 3) = w5 at e4 e8 eR eA eM hb5 ⊢
  have hwl := wayL_length j m 0 m (Nat.le_refl _)
  clear hb4 hsz4
  refine wpIn_rangeFunc_ownG rfl (by omega) (gf := 116) (lb := #[.pointer (some ⟨gR + 1 + 1, 0, none⟩), .pointer (some ⟨gR + 1, 0, none⟩)]) rfl trivial (enters_of Tryd.func116 (by kernel_rfl) rfl)
    (way_stops (5 - 1) (by omega) (gR + 1 + 1) (gR + 1) j m (by omega) (by omega) w5 eM.cell eA.cell eM.lt eA.lt) keepsCell_t (keepsCell_b eA.lt) (Below.refl _ _) (fun _ => rfl)
    (fun pre W => ((∃ v, Boxed W gR 108 v ∧ W.ownsRow w.heap.size 4 1 v pre.length (pre.map fun x : WX m => Value.bool x.1.1) ∧ True) ∧ (Boxed W (gR + 1) 3 (.int .i64 j) ∧ Blk W w.heap.size 46 ar ∧ Blk W (w.heap.size + 1) 46 na)) ∧ Below w.heap.size w W)
    (fun _ _ _ => False)
    (OwnFrom.and (OwnFrom.and (Own.from (holdsRow_own w.heap.size gR 108 4 1 (fun pre : List (WX m) => pre.length) (fun pre => pre.map fun x : WX m => Value.bool x.1.1) (fun _ _ => True)) _) (OwnFrom.and (Own.from (boxed_own _ _ _) _) (OwnFrom.and (Own.from (blk_own _ _ _) _) (Own.from (blk_own _ _ _) _)))) (ownFrom_below (Nat.le_refl _) hb5.size))
    (fun _ _ _ _ _ hs _ _ => hs)
    ⟨⟨⟨_, eR, World.ownsRow_nil _ _ _ _, trivial⟩, eA, e4, e8⟩, hb5⟩
    (fun x => { tmps := #[.agg ar, .int .i64 j, .int .i64 m, .slice A k c, .pointer (some ⟨w.heap.size, 0, none⟩), undef, undef, undef, .pointer (some ⟨w.heap.size + 1, 0, none⟩), .int .i64 0, .pointer (some ⟨gR, 0, none⟩), .bool x.1.1, undef, undef, .int .i64 m, .bool false, .bool false, .int .i64 m, .bool false, .bool false, .bool false, .int .i64 j, .bool false, .bool false, .bool false, .int .i64 j, .int .i64 m, .bool false, .bool false, undef, .int .i64 j, .int .i64 m, .func (.func 116) #[] #[.pointer (some ⟨gR + 1 + 1, 0, none⟩), .pointer (some ⟨gR + 1, 0, none⟩)], .bool x.1.1, .agg #[.int .i64 x.1.2.1, .int .i64 x.1.2.2], undef, undef, undef, undef, undef, undef, undef, undef, undef, undef, undef, undef, undef, undef, undef, undef, undef, undef, undef, undef, undef, undef, undef, undef, undef, undef, undef, undef, undef, undef, undef, undef, undef, undef, undef, undef, undef, undef, undef, undef, undef, undef, undef, undef, undef, undef], defers := [] }) ?assign ?body ?done ?stop
  case assign =>
    intro l x W K hK
    obtain ⟨⟨r, lo, hi⟩, hx1, hx2⟩ := x
    dsimp only [encW]
    gi_wp2
    exact hK
  case body =>
    rintro l pre x W ⟨⟨⟨v, hv, hrow, _⟩, hA, h4, h8⟩, hB⟩ hlt
    obtain ⟨⟨r, lo, hi⟩, hx1, hx2⟩ := x
    obtain ⟨i0, hi0, hz0, hz1, hz2⟩ := info_parts info4
    have hc := hv.cell
    have hBs := hB.size
    have hV := Lib.hid hv; have HROW := Lib.hid hrow; have HA := Lib.hid hA; have H4 := Lib.hid h4; have H8 := Lib.hid h8; have HB := Lib.hid hB
    clear hv hrow hA h4 h8 hB e4 e8 eR eA eM hT h
    gi_wp2_with (gi_at_builtin; refine wpListIn_append_own _ rfl _ _ 108 rfl w.heap.size 4 i0 (.bool false) 1 1 Tryd.underlying108 hi0 hz0 hz1 hz2 rfl (by decide) _ _ _ rfl ((HROW.out).alloc _) ⟨W.heap.size, 0, none⟩ 1 1 [.bool r] rfl rfl (cell_one_new _ _ _) (by simp [Value.oneCell']) (by unfold maxLen; omega) (by omega) (by simp; omega) ?_; intro v' w1 hown' hgrow _; obtain ⟨g', cap', rfl⟩ := ownsRow_succ hown'; obtain ⟨hv1, hv2, hr2, hk2, hb2⟩ := (hV.out).appended (by decide) HROW.out hBs (by omega) hown' hgrow; have hc1 := hv1.cell; have hf1 := hv1.frozen)
    have zA : Boxed (w1.setCell ⟨gR, 0, none⟩ (.slice (some ⟨g', 0, none⟩) (pre.length + 1) cap')) (gR + 1) 3 (.int .i64 j) := (((HA.out).alloc _).kept hgrow ((HA.out).not_row (by decide) HROW.out)).other (by omega) _
    have z4 : Blk (w1.setCell ⟨gR, 0, none⟩ (.slice (some ⟨g', 0, none⟩) (pre.length + 1) cap')) w.heap.size 46 ar := (blk_kept ((H4.out).alloc _) hgrow (blk_not_row H4.out (by decide) HROW.out)).far (p := ⟨gR, 0, none⟩) (by show w.heap.size ≠ gR; omega) _
    have z8 : Blk (w1.setCell ⟨gR, 0, none⟩ (.slice (some ⟨g', 0, none⟩) (pre.length + 1) cap')) (w.heap.size + 1) 46 na := (blk_kept ((H8.out).alloc _) hgrow (blk_not_row H8.out (by decide) HROW.out)).far (p := ⟨gR, 0, none⟩) (by show w.heap.size + 1 ≠ gR; omega) _
    refine ⟨hk2.from _, ?_, ⟨⟨_, hv2, ?_, trivial⟩, zA, z4, z8⟩, (HB.out).trans hb2⟩
    · exact zA.cell.trans (HA.out).cell.symm
    · rw [List.length_append, List.map_append]
      exact hr2
  case done =>
    rintro D ys W hD hys ⟨⟨⟨v, hv, hrow, _⟩, hA, h4, h8⟩, hB⟩ hK
    have hL : (ys.map fun x : WX m => Value.bool x.1.1) = (ys.map fun x : WX m => x.1.1).map Value.bool := by rw [List.map_map]; rfl
    rw [hL] at hrow
    have hsl : sidesL j m = (ys.map fun x : WX m => x.1.1).reverse := by unfold sidesL; rw [Int.toNat_natCast, Int.toNat_natCast, ← hys, List.map_map]; rfl
    obtain ⟨q, hq⟩ : ∃ q, ys.length = q := ⟨_, rfl⟩
    have hq9 : q ≤ 4096 := by rw [← hys, List.length_map] at hwl; omega
    rw [hq] at hrow
    obtain ⟨LB, hLB⟩ : ∃ L, (ys.map fun x : WX m => x.1.1) = L := ⟨_, rfl⟩
    have hql : LB.length = q := by rw [← hLB, List.length_map]; exact hq
    rw [hLB] at hrow hsl
    obtain ⟨A2, c2, rfl, hqc, hc9, hA2, -, -⟩ := rev_sides hrow hql (by omega)
    have hC : CS w gR D _ na ar W := ⟨hB, h4, h8, hv, hK⟩
    have hca : climbA j m = true := decide_eq_true (by omega)
    have hc10 := hv.cell
    have hpl := h.len
    have hkc := h.le
    have hcc := h.cap
    have hD2 := Nat.le_trans hb5.size hD
    have HC := Lib.hid hC; have HRW := Lib.hid hrow; have HA2 := Lib.hid hA2; have HSL := Lib.hid hsl; have HCA := Lib.hid hca; have HN := Lib.hid h; have HT := Lib.hid hT
    clear hC hA2 hsl hca h hT hrow hA h4 h8 hB hK hv e4 e8 eR eA eM hL hys hLB hwl hb5
    by_cases hkq : k = q
    · have t7 : (k = q) = True := eq_true hkq
      gi_upto_region 9 with fail
      have har : ar.size = 34 := by rw [← HAR.out]; exact Nd.size _ hd
      apply wpIn_region_lit
      refine wpListIn_run (fun _ => trivial) rfl (by intro c h; cases h) (.agg ar) W (exec_load_row 46 (.tmp 4) rfl w.heap.size (by rfl) 46 ar _ (HC.out).h4 Tryd.underlying46 rfl (by rw [har]; exact size46)) ?_
      refine wpListIn_run (fun _ => trivial) rfl (by intro c h; cases h) _ _ (exec_one (.tmp 45) rfl ar (by rfl) har) ?_
      have hCA := (HC.out).below (Below.alloc (Below.refl _ W) (Nat.le_refl _) (.cells ar 46))
      have cv := (one_ns (show Blk (W.alloc (.cells ar 46)) W.heap.size 46 nd.arr by rw [HAR.out]; exact Blk.new _ _ _) hd).valid (by omega)
      have CV := Lib.hid cv
      have kA : Below W.heap.size W (W.alloc (.cells ar 46)) := Below.alloc (Below.refl _ W) (Nat.le_refl _) _
      clear cv
      generalize W.alloc (.cells ar 46) = W3 at hCA CV kA ⊢
      have HCA' := Lib.hid hCA; have KA := Lib.hid kA
      clear hCA kA
      gi_wp2_with fail
      refine ⟨trivial, ?_⟩
      refine (callsIn_wide.2 CV.out).mono ?_
      rintro e W4 ⟨rfl, k4⟩
      have hC4 := (HCA'.out).below k4
      have kW : Below W.heap.size W W4 := bl KA.out k4
      cases hvn : validB [nd]
      · have hcv : climbV nd j m path = (nd0, 410) := by unfold climbV; rw [if_pos HCA.out, if_pos (by rw [HSL.out, List.length_reverse, hql, hpl]; exact hkq), hvn]; rfl
        have HC4 := Lib.hid hC4
        clear hC4
        gi_upto_region 10 with fail
        apply wpIn_region_lit
        refine wpListIn_run (fun _ => trivial) rfl (by intro c h; cases h) (.agg na) W4 (exec_load_row 46 (.tmp 8) rfl (w.heap.size + 1) (by rfl) 46 na _ (HC4.out).h8 Tryd.underlying46 rfl (by rw [hs]; exact size46)) ?_
        refine wpListIn_skp (fun _ => trivial) rfl (by intro c h; cases h) _ (exec_store_row 46 (.tmp 8) (.tmp 49) rfl (w.heap.size + 1) na (by rfl) (by rfl) 46 na (HC4.out).h8 (by rw [hs]; exact size46) rfl hall) ?_
        rw [((HC4.out).h8).setRow_same]
        have HCV := Lib.hid hcv
        clear hcv
        gi_wp2_with fail
        have r9 := climb_ret HC4.out hs hD2
        exact ⟨by simp, .inl ⟨_, _, rfl, run_takeDeferred (HC4.out).hK, _, results_node3 rfl r9.1 hs rfl rfl, by rw [HCV.out, ← HNA.out]; rfl, r9.2⟩⟩
      · have hcv : climbV nd j m path = upV nd (LB.reverse.zip path) := by unfold climbV; rw [if_pos HCA.out, HSL.out, if_pos (by rw [List.length_reverse, hql, hpl]; exact hkq), hvn]; rfl
        obtain ⟨A3, c3, e3, -, -, -, hty, crev⟩ := rev_sides (owns_below kW HRW.out) hql (by omega)
        cases e3
        have hc4 := (hC4.hv).cell
        have HC4 := Lib.hid hC4; have CREV := Lib.hid crev; have HTY := Lib.hid hty; have HCV := Lib.hid hcv
        have HPQ : Hid (path.length = q) := Lib.hid (by omega)
        clear hC4 crev hty hcv hkq t7
        gi_wp2_with fail
        refine ⟨trivial, ?_⟩
        refine (callsIn_wide.2 CREV.out).mono ?_
        rintro e W5 ⟨⟨v, rfl⟩, hB5, row, hG5, hrow5⟩
        have hC5 := (HC4.out).grown hG5 hrow5
        have hgs : ∀ g, A2 = some ⟨g, 0, none⟩ → g < W5.heap.size ∧ BAt W5 g 0 LB.reverse ∧ g ≠ w.heap.size := fun g e => by
          obtain ⟨cs, hcs⟩ := HTY.out g e
          refine ⟨Nat.lt_of_lt_of_le (Array.getElem?_eq_some_iff.1 hcs).1 hG5.size, hB5 g e, fun e' => ?_⟩
          subst e'
          have := (HC4.out).h4
          rw [show W4.heap[w.heap.size]? = _ from this] at hcs
          cases hcs
        have HC5 := Lib.hid hC5; have HGS := Lib.hid hgs
        have hd2 : nd.arr = ar := HAR.out
        clear hB5 hG5 hrow5 hC5 hgs kW k4
        gi_wp2_with fail
        gi_loopw [9, 54] (fun x y wr => ∃ (i : Nat) (n : Nd), i ≤ q ∧ x = .int .i64 0 ∧ y = .int .i64 i ∧ n.d.length = 32 ∧ Hid (upV n ((LB.reverse.zip path).drop i) = upV nd (LB.reverse.zip path)) ∧ Hid (CS w gR D (.slice A2 q c2) na n.arr wr) ∧ Hid (∀ g, A2 = some ⟨g, 0, none⟩ → g < wr.heap.size ∧ BAt wr g 0 LB.reverse ∧ g ≠ w.heap.size)) (fun _ y _ => q - (intOf y).toNat)
        case atStart => exact ⟨0, nd, by omega, rfl, rfl, hd, Lib.hid rfl, by rw [hd2]; exact HC5, HGS⟩
        case round =>
          obtain ⟨i, n, hik, rfl, rfl, hnd, hup, hC, hg⟩ := hrel
          clear HC4 HC5 HGS CREV HTY HCA' KA CV HRW HC
          by_cases hlt : i < q
          · have hlt' : (i : Int) < q := by omega
            have i0 : (0 : Int) ≤ i := by omega
            have hip : i < path.length := by rw [HPQ.out]; exact hlt
            have hir : i < LB.reverse.length := by rw [List.length_reverse]; omega
            have hz : (LB.reverse.zip path).drop i = (LB.reverse[i], path[i]) :: (LB.reverse.zip path).drop (i + 1) := by
              rw [List.drop_eq_getElem_cons (by rw [List.length_zip, HPQ.out, List.length_reverse]; omega), List.getElem_zip]
            obtain ⟨gp, op, rfl, hNp, hgp⟩ := ((HN.out).below (hC.out).b).at_ (by have := HPQ.out; omega)
            have hrg := hNp i hip
            have hxd := (HN.out).dig _ (List.getElem_mem hip)
            obtain ⟨x, hx⟩ : ∃ x, path[i] = x := ⟨_, rfl⟩
            obtain ⟨b, hb⟩ : ∃ b, LB.reverse[i] = b := ⟨_, rfl⟩
            obtain ⟨gb, hgb⟩ := HA2.out (by omega)
            subst hgb
            obtain ⟨hgl, hBA, hgne⟩ := (hg.out) gb rfl
            have cb : wr.cell? ⟨gb, i, none⟩ = some (.bool b) := by have := hBA i hir; rw [hb, Nat.zero_add] at this; exact this
            have ch := (hC.out).hv.cell
            rw [hx] at hrg hxd hz
            rw [hb] at hz
            rw [hz] at hup
            obtain ⟨cs, hcs⟩ : ∃ cs, x.cells = cs := ⟨_, rfl⟩
            have hcl := x.len hxd
            rw [hcs] at hrg hcl
            have HRG := Lib.hid hrg; have HCL := Lib.hid hcl
            clear hrg hcl hNp hBA hz
            gi_upto_region 14 with fail
            apply wpIn_region_lit
            iterate 6 gi_step
            refine wpListIn_run (fun _ => trivial) rfl (by intro c h; cases h) _ wr (exec_load_mid 46 (.tmp 57) rfl gp (op + i * 34) (by rfl) cs _ HRG.out Tryd.underlying46 rfl (by rw [HCL.out]; exact size46)) ?_
            refine wpListIn_run (fun _ => trivial) rfl (by intro c h; cases h) _ _ (exec_alloc46 rfl) ?_
            refine wpListIn_run (fun _ => trivial) rfl (by intro c h; cases h) _ _ (exec_assign (.tmp 56) rfl _ (by rfl)) ?_
            rw [HNA.out]
            refine wpListIn_skp (fun _ => trivial) rfl (by intro c h; cases h) _ (exec_store_row 46 (.tmp 13) (.tmp 58) rfl wr.heap.size cs.toArray (by rfl) (by rfl) 46 na (Blk.new _ _ _) (by rw [List.size_toArray, HCL.out]; exact size46) (by simp only [Array.length_toList, List.size_toArray, HCL.out, hs]) (by rw [← hcs]; exact nd_all x)) ?_
            have hX : Blk ((wr.alloc (.cells na 46)).setRow wr.heap.size cs.toArray) wr.heap.size 46 cs.toArray := setRow_heap _ _ _ _ _ _ (Blk.new wr 46 na)
            have k6 : Below wr.heap.size wr ((wr.alloc (.cells na 46)).setRow wr.heap.size cs.toArray) := below_setRow ((Below.refl _ wr).alloc (Nat.le_refl _) _) (Nat.le_refl _) _
            have hC6 := (hC.out).below k6
            generalize (wr.alloc (.cells na 46)).setRow wr.heap.size cs.toArray = w6 at hX k6 hC6 ⊢
            have ch6 := hC6.hv.cell
            have cb6 : w6.cell? ⟨gb, i, none⟩ = some (.bool b) := (k6.cell (p := ⟨gb, i, none⟩) hgl).trans cb
            obtain ⟨gx, hgx⟩ : ∃ g, wr.heap.size = g := ⟨_, rfl⟩
            rw [hgx] at hX ⊢
            have HX := Lib.hid hX; have HC6 := Lib.hid hC6
            clear hX hC6 ch cb
            apply wpListIn_nil
            cases b
            · gi_upto_region 17 with fail
              apply wpIn_region_lit
              refine wpListIn_run (fun _ => trivial) rfl (by intro c h; cases h) _ w6 (exec_load_row 46 (.tmp 13) rfl gx (by rfl) 46 cs.toArray _ HX.out Tryd.underlying46 rfl (by rw [List.size_toArray, HCL.out]; exact size46)) ?_
              refine wpListIn_run (fun _ => trivial) rfl (by intro c h; cases h) _ w6 (exec_load_row 46 (.tmp 4) rfl w.heap.size (by rfl) 46 n.arr _ (HC6.out).h4 Tryd.underlying46 rfl (by rw [Nd.size _ hnd]; exact size46)) ?_
              have CJ := join_any x n w6 hxd hnd ((HT.out).ext (HC6.out).b)
              have hjl := joinR_len x n
              have hup2 : upV n ((false, x) :: List.drop (i + 1) (LB.reverse.zip path)) = if joinE x n = 0 then upV (joinR x n) (List.drop (i + 1) (LB.reverse.zip path)) else (nd0, joinE x n) := rfl
              rw [hup2] at hup
              obtain ⟨J, hJ⟩ : ∃ J, joinR x n = J := ⟨_, rfl⟩
              rw [hJ] at CJ hjl hup
              have hone := nd_all J
              have hc2l := J.len hjl
              obtain ⟨cs2, hcs2⟩ : ∃ cs2, J.cells = cs2 := ⟨_, rfl⟩
              have hJa : J.arr = cs2.toArray := by rw [← hcs2]; rfl
              rw [hJa, show x.arr = cs.toArray by rw [← hcs]; rfl] at CJ
              rw [hJa] at hone
              rw [hcs2] at hc2l
              have HONE := Lib.hid fun (v : Value) (hv : v ∈ cs2) => (Array.all_eq_true_iff_forall_mem.1 hone) v (by simpa using hv)
              have CJ := Lib.hid CJ; have HCS2 := Lib.hid hcs2; have HC2L := Lib.hid hc2l; have HJA := Lib.hid hJa
              clear hone hc2l hcs2 hJa hJ hup2
              gi_wp2_with fail
              refine ⟨trivial, ?_⟩
              refine (callsIn_wide.2 CJ.out).mono ?_
              rintro e w7 ⟨rfl, k7⟩
              have hC7 := (HC6.out).below k7
              have hns : n.arr.size = 34 := Nd.size _ hnd
              have st := store_row hC7.h4 (by rw [HC2L.out, hns]) HONE.out
              have th := blk_there hC7.h4 hns
              have hC8 := hC7.store4 hgR2 cs2.toArray
              have hg8 : ∀ g, (some ⟨gb, 0, none⟩ : Option Addr) = some ⟨g, 0, none⟩ → g < (w7.setRow w.heap.size cs2.toArray).heap.size ∧ BAt (w7.setRow w.heap.size cs2.toArray) g 0 LB.reverse ∧ g ≠ w.heap.size := fun g e => by
                obtain ⟨z1, z2, z3⟩ := hg.out g e
                have z4 := Nat.lt_of_lt_of_le z1 k6.size
                have z5 := Nat.lt_of_lt_of_le z4 k7.size
                refine ⟨?_, ((z2.below z1 k6).below z4 k7).setRow z3 _, z3⟩
                exact Nat.lt_of_lt_of_le z5 (keeps_setRow hC7.h4 cs2.toArray).size
              have HC8 := Lib.hid hC8; have HG8 := Lib.hid hg8
              clear hC7 hC8 hg8 hg hC HC6 HX CJ
              gi_upto_region 18 with fail
              clear st th
              generalize w7.setRow w.heap.size cs2.toArray = w8 at HC8 HG8 ⊢
              rcases joinE_cases x n with hE | hE
              · rw [hE, if_pos rfl] at hup
                rw [hE]
                gi_wp2_with fail
                go_roundw
                case rel => exact ⟨i + 1, J, by omega, rfl, by go_num, hjl, hup, by rw [HJA.out]; exact HC8, HG8⟩
                case measure => simp [intOf]; omega
              · rw [hE, if_neg (by decide)] at hup
                rw [hE]
                gi_upto_region 19 with fail
                apply wpIn_region_lit
                refine wpListIn_run (fun _ => trivial) rfl (by intro c h; cases h) (.agg na) w8 (exec_load_row 46 (.tmp 8) rfl (w.heap.size + 1) (by rfl) 46 na _ (HC8.out).h8 Tryd.underlying46 rfl (by rw [hs]; exact size46)) ?_
                refine wpListIn_run (fun _ => trivial) rfl (by intro c h; cases h) _ w8 (exec_move (.tmp 9) rfl _ (by rfl)) ?_
                refine wpListIn_skp (fun _ => trivial) rfl (by intro c h; cases h) _ (exec_store_row 46 (.tmp 8) (.tmp 77) rfl (w.heap.size + 1) na (by rfl) (by rfl) 46 na (HC8.out).h8 (by rw [hs]; exact size46) rfl hall) ?_
                rw [((HC8.out).h8).setRow_same]
                gi_wp2_with fail
                have r9 := climb_ret HC8.out hs hD2
                exact ⟨by simp, .inl ⟨_, _, rfl, run_takeDeferred (HC8.out).hK, _, results_node3 rfl r9.1 hs rfl rfl, by rw [HCV.out, ← hup.out, ← HNA.out]; rfl, r9.2⟩⟩
            · gi_upto_region 16 with fail
              apply wpIn_region_lit
              refine wpListIn_run (fun _ => trivial) rfl (by intro c h; cases h) _ w6 (exec_load_row 46 (.tmp 4) rfl w.heap.size (by rfl) 46 n.arr _ (HC6.out).h4 Tryd.underlying46 rfl (by rw [Nd.size _ hnd]; exact size46)) ?_
              refine wpListIn_run (fun _ => trivial) rfl (by intro c h; cases h) _ w6 (exec_load_row 46 (.tmp 13) rfl gx (by rfl) 46 cs.toArray _ HX.out Tryd.underlying46 rfl (by rw [List.size_toArray, HCL.out]; exact size46)) ?_
              have CJ := join_any n x w6 hnd hxd ((HT.out).ext (HC6.out).b)
              have hjl := joinR_len n x
              have hup2 : upV n ((true, x) :: List.drop (i + 1) (LB.reverse.zip path)) = if joinE n x = 0 then upV (joinR n x) (List.drop (i + 1) (LB.reverse.zip path)) else (nd0, joinE n x) := rfl
              rw [hup2] at hup
              obtain ⟨J, hJ⟩ : ∃ J, joinR n x = J := ⟨_, rfl⟩
              rw [hJ] at CJ hjl hup
              have hone := nd_all J
              have hc2l := J.len hjl
              obtain ⟨cs2, hcs2⟩ : ∃ cs2, J.cells = cs2 := ⟨_, rfl⟩
              have hJa : J.arr = cs2.toArray := by rw [← hcs2]; rfl
              rw [hJa, show x.arr = cs.toArray by rw [← hcs]; rfl] at CJ
              rw [hJa] at hone
              rw [hcs2] at hc2l
              have HONE := Lib.hid fun (v : Value) (hv : v ∈ cs2) => (Array.all_eq_true_iff_forall_mem.1 hone) v (by simpa using hv)
              have CJ := Lib.hid CJ; have HCS2 := Lib.hid hcs2; have HC2L := Lib.hid hc2l; have HJA := Lib.hid hJa
              clear hone hc2l hcs2 hJa hJ hup2
              gi_wp2_with fail
              refine ⟨trivial, ?_⟩
              refine (callsIn_wide.2 CJ.out).mono ?_
              rintro e w7 ⟨rfl, k7⟩
              have hC7 := (HC6.out).below k7
              have hns : n.arr.size = 34 := Nd.size _ hnd
              have st := store_row hC7.h4 (by rw [HC2L.out, hns]) HONE.out
              have th := blk_there hC7.h4 hns
              have hC8 := hC7.store4 hgR2 cs2.toArray
              have hg8 : ∀ g, (some ⟨gb, 0, none⟩ : Option Addr) = some ⟨g, 0, none⟩ → g < (w7.setRow w.heap.size cs2.toArray).heap.size ∧ BAt (w7.setRow w.heap.size cs2.toArray) g 0 LB.reverse ∧ g ≠ w.heap.size := fun g e => by
                obtain ⟨z1, z2, z3⟩ := hg.out g e
                have z4 := Nat.lt_of_lt_of_le z1 k6.size
                have z5 := Nat.lt_of_lt_of_le z4 k7.size
                refine ⟨?_, ((z2.below z1 k6).below z4 k7).setRow z3 _, z3⟩
                exact Nat.lt_of_lt_of_le z5 (keeps_setRow hC7.h4 cs2.toArray).size
              have HC8 := Lib.hid hC8; have HG8 := Lib.hid hg8
              clear hC7 hC8 hg8 hg hC HC6 HX CJ
              gi_upto_region 18 with fail
              clear st th
              generalize w7.setRow w.heap.size cs2.toArray = w8 at HC8 HG8 ⊢
              rcases joinE_cases n x with hE | hE
              · rw [hE, if_pos rfl] at hup
                rw [hE]
                gi_wp2_with fail
                go_roundw
                case rel => exact ⟨i + 1, J, by omega, rfl, by go_num, hjl, hup, by rw [HJA.out]; exact HC8, HG8⟩
                case measure => simp [intOf]; omega
              · rw [hE, if_neg (by decide)] at hup
                rw [hE]
                gi_upto_region 19 with fail
                apply wpIn_region_lit
                refine wpListIn_run (fun _ => trivial) rfl (by intro c h; cases h) (.agg na) w8 (exec_load_row 46 (.tmp 8) rfl (w.heap.size + 1) (by rfl) 46 na _ (HC8.out).h8 Tryd.underlying46 rfl (by rw [hs]; exact size46)) ?_
                refine wpListIn_run (fun _ => trivial) rfl (by intro c h; cases h) _ w8 (exec_move (.tmp 9) rfl _ (by rfl)) ?_
                refine wpListIn_skp (fun _ => trivial) rfl (by intro c h; cases h) _ (exec_store_row 46 (.tmp 8) (.tmp 77) rfl (w.heap.size + 1) na (by rfl) (by rfl) 46 na (HC8.out).h8 (by rw [hs]; exact size46) rfl hall) ?_
                rw [((HC8.out).h8).setRow_same]
                gi_wp2_with fail
                have r9 := climb_ret HC8.out hs hD2
                exact ⟨by simp, .inl ⟨_, _, rfl, run_takeDeferred (HC8.out).hK, _, results_node3 rfl r9.1 hs rfl rfl, by rw [HCV.out, ← hup.out, ← HNA.out]; rfl, r9.2⟩⟩
          · obtain rfl : i = q := by omega
            have hnil : (LB.reverse.zip path).drop i = [] := List.drop_eq_nil_of_le (by rw [List.length_zip, HPQ.out, List.length_reverse]; omega)
            rw [hnil] at hup
            have hns : n.arr.size = 34 := Nd.size _ hnd
            gi_upto_region 21 with fail
            apply wpIn_region_lit
            refine wpListIn_run (fun _ => trivial) rfl (by intro c h; cases h) (.agg n.arr) wr (exec_load_row 46 (.tmp 4) rfl w.heap.size (by rfl) 46 n.arr _ (hC.out).h4 Tryd.underlying46 rfl (by rw [hns]; exact size46)) ?_
            refine wpListIn_skp (fun _ => trivial) rfl (by intro c h; cases h) _ (exec_store_row 46 (.tmp 8) (.tmp 80) rfl (w.heap.size + 1) n.arr (by rfl) (by rfl) 46 na (hC.out).h8 (by rw [hns]; exact size46) (by rw [hs, hns]) (nd_all n)) ?_
            have hC9 := (hC.out).store8 hgR2 n.arr
            generalize wr.setRow (w.heap.size + 1) n.arr = w9 at hC9 ⊢
            have HC9 := Lib.hid hC9
            clear hC hg hC9
            gi_wp2_with fail
            have r9 := climb_ret HC9.out hns hD2
            exact ⟨by simp, .inl ⟨_, _, rfl, run_takeDeferred (HC9.out).hK, _, results_node3 rfl r9.1 hns rfl rfl, by rw [HCV.out, ← hup.out]; rfl, r9.2⟩⟩
    · have t7 : (k = q) = False := eq_false hkq
      have hcv : climbV nd j m path = (nd0, 1) := by unfold climbV; rw [if_pos HCA.out, HSL.out, List.length_reverse, hql, hpl, if_neg hkq]
      gi_upto_region 8 with fail
      apply wpIn_region_lit
      refine wpListIn_run (fun _ => trivial) rfl (by intro c h; cases h) (.agg na) W (exec_load_row 46 (.tmp 8) rfl (w.heap.size + 1) (by rfl) 46 na _ (HC.out).h8 Tryd.underlying46 rfl (by rw [hs]; exact size46)) ?_
      refine wpListIn_skp (fun _ => trivial) rfl (by intro c h; cases h) _ (exec_store_row 46 (.tmp 8) (.tmp 44) rfl (w.heap.size + 1) na (by rfl) (by rfl) 46 na (HC.out).h8 (by rw [hs]; exact size46) rfl hall) ?_
      rw [((HC.out).h8).setRow_same]
      have HCV := Lib.hid hcv
      clear hcv
      gi_wp2_with fail
      have r9 := climb_ret HC.out hs hD2
      exact ⟨by simp, .inl ⟨_, _, rfl, run_takeDeferred (HC.out).hK, _, results_node3 rfl r9.1 hs rfl rfl, by rw [HCV.out, ← HNA.out]; rfl, r9.2⟩⟩
  case stop =>
    rintro D c pre W _ _ h _
    exact h.elim
end Go.Proofs.YtedokiemlkccaaaDoor
