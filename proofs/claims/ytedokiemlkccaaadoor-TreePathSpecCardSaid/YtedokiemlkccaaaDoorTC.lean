/- Join and Root of package tree. -/
import Derived.Test.YtedokiemlkccaaaDoorTB
import Derived.Deep.AppendSrc
set_option linter.all false
namespace Go.Proofs.YtedokiemlkccaaaDoor
open Go.RowKit
theorem size44 : Tryd.prog.cellsOf 46 = 34 := by kernel_rfl
/-- two nodes as a new slice. -/
theorem run_two (a b : Array Value) (ha : a.size = 34) (hb : b.size = 34) (w : World) : (Instr.buildSlice 44 2 #[(0, .agg a), (1, .agg b)]).run Tryd.prog w = .ok (.slice (some ⟨w.heap.size, 0, none⟩) 2 2) (w.alloc (.cells (a ++ b) 46)) := by
  obtain ⟨i46, h46, z46, s46, _⟩ := info_parts info46
  have hn0 : nd0.arr.size = 34 := rfl
  obtain ⟨r, hr, hsz, hk⟩ := Great.fill_dense (s := 34) (by decide) [.agg a, .agg b] 0 ((Array.range (2 * 34)).map (nd0.arr[· % nd0.arr.size]!)) (by
    intro v hv
    simp only [List.mem_cons, List.not_mem_nil, or_false] at hv
    rcases hv with rfl | rfl
    · exact ha
    · exact hb) (by simp)
  have hr2 : r = a ++ b := by
    apply Array.ext_getElem?
    intro k
    rw [hk k]
    by_cases h1 : k < 34
    · rw [if_pos (by simp; omega), Array.getElem?_append_left (by omega), show k / 34 - 0 = 0 by omega, Nat.mod_eq_of_lt h1]; rfl
    · by_cases h2 : k < 68
      · rw [if_pos (by simp; omega), Array.getElem?_append_right (by omega), show k / 34 - 0 = 1 by omega, ha, show k % 34 = k - 34 by omega]; rfl
      · rw [if_neg (by simp; omega), Array.getElem?_eq_none (by simp; omega), Array.getElem?_eq_none (by rw [Array.size_append]; omega)]
  subst hr2
  have hr' : Instr.fill (fun i => some (i * 34, 34)) (Array.map (fun x => (Value.agg nd0.arr).cells[x % (Value.agg nd0.arr).cells.size]!) (Array.range 68)) [(0, .agg a), (1, .agg b)] = some (a ++ b) := hr
  simp [Instr.buildSlice, zeroValue, run_underlying Tryd.underlying44, sizeOf, typeInfo, h46, z46, s46]
  rw [hr']
  simp [newRow]
theorem nd_bytes {W : World} {g o : Nat} {t : TypeId} {n : Nd} (h : Blk W g t n.arr) (hd : n.d.length = 32) : BS W (some ⟨g, 0, none⟩) 32 32 n.d :=
  ⟨hd, by omega, by omega, fun e => (by cases e), fun _ => ⟨g, 0, rfl, ⟨fun i hi => by
    have e : n.arr[i]? = (u8s n.d ++ [Value.int .i64 n.c, .int .i64 n.p])[i]? := List.getElem?_toArray
    rw [Nat.zero_add, h.cell i, e, List.getElem?_append_left (by rw [u8s_length]; exact hi)]; exact u8s_get _ _ hi, fun _ => h.lt⟩⟩⟩
/-- append(b, c...) where b is full: a new row. -/
theorem append_full (a1 a2 : Addr) (l1 l2 : List UInt8) (w : World) (h1 : BS w (some a1) 32 32 l1) (h2 : BS w (some a2) 32 32 l2) (ty : TypeId) :
    ∃ G w', (Builtin.append_ #[22, 22] ty #[.slice (some a1) 32 32, .slice (some a2) 32 32]).run Tryd.prog w = .ok (.slice (some ⟨w.heap.size, 0, none⟩) 64 G) w' ∧ BS w' (some ⟨w.heap.size, 0, none⟩) 64 G (l1 ++ l2) ∧ Below w.heap.size w w' ∧ w'.heap.size = w.heap.size + 1 := by
  obtain ⟨i0, hi, hzr, hsize, hby⟩ := info_parts info5
  have hl1 := h1.len
  have hl2 := h2.len
  obtain ⟨b1, o1, e1, hb1⟩ := h1.at_ (by omega)
  obtain ⟨b2, o2, e2, hb2⟩ := h2.at_ (by omega)
  cases e1; cases e2
  have hold : (Builtin.firstCells i0.size 32 (.slice (some ⟨b1, o1, none⟩) 32 32)).run Tryd.prog w.drew = .ok (u8s l1).toArray w.drew := by
    rw [hsize]
    exact run_firstCells_some w.drew 1 32 ⟨b1, o1, none⟩ 32 32 (u8s l1) (by rw [u8s_length]; omega) (fun j v hj => bytes_cell (w := w) hb1 j v hj)
  have hsrc : Src Tryd.prog i0.size 22 (.slice (some ⟨b2, o2, none⟩) 32 32) 32 (u8s l2) w := by
    rw [hsize]
    exact Src.ofSlice w Tryd.underlying22 ⟨b2, o2, none⟩ 32 32 (u8s l2) (by rw [u8s_length]; omega) (fun j v hj => bytes_cell hb2 j v hj) (u8s_one l2)
  have hr := run_append_grow_src (P := Tryd.prog) w 22 22 ty 5 i0 (.int .u8 0) Tryd.underlying22 hi hzr (some ⟨b1, o1, none⟩) 32 32 (u8s l1) hold (.slice (some ⟨b2, o2, none⟩) 32 32) 32 (u8s l2) hsrc (by omega) (by omega)
    (growslice_fits (by omega) (by rw [hby]; omega))
  have hge := grownCap_ge w (32 + 32) 32 5
  have hcm2 : grownCap w (32 + 32) 32 5 ≤ maxLen := grownCap_le_maxLen w _ _ 5 (by unfold maxLen; omega)
  refine ⟨_, _, hr, ⟨by rw [List.length_append]; omega, hge, by unfold maxLen at hcm2; omega, fun e => (by cases e), fun _ => ⟨_, 0, rfl, ⟨fun i hi => ?_, fun _ => by simp⟩⟩⟩, (below_dr (Below.refl _ w) 1).alloc (Nat.le_refl _) _, by simp⟩
  rw [Nat.zero_add]
  refine (cell_of_row _ _ i _ 5 _ (heap_new w.drew _)).trans ?_
  rw [Array.getElem?_append_left (by rw [List.size_toArray, ← u8s_append, u8s_length]; exact hi), List.getElem?_toArray, ← u8s_append]
  exact u8s_get _ _ hi
theorem step_append_run {w : World} {ops : Array Oper} {o : Oper} {a : Act} {K : Act → World → Prop} {Q : Exit → Act → World → Prop} {E : Prop} (hgd : o.guard = none) (s x : Operand)
    (ho : o.op = .call { callee := .builtin .append, args := #[s, x], argTypes := #[22, 22] }) (vs vx : Value) (hs : a.eval s = vs) (hx : a.eval x = vx) (v' : Value) (w' : World) (hr : (Builtin.append_ #[22, 22] o.type #[vs, vx]).run Tryd.prog w = .ok v' w')
    (h : K (a.put o.dst v') w') : if Region.wanted o (yielded ops a.tmps) = true then Oper.wp Tryd.prog o a w K Q else E := by
  have hw : Region.wanted o (yielded ops a.tmps) = true := by simp [Region.wanted, hgd]
  rw [if_pos hw]
  exact Lib.wp_append_run w s x 22 22 ho vs vx hs hx v' w' hr h
theorem wpList_buildTwo {w : World} {ops : Array Oper} {rest : List Oper} {o : Oper} {a : Act} {Q : Exit → Act → World → Prop} (hgd : o.guard = none) (t : TypeId) (n : Nat) (x y : Operand) (ho : o.op = .buildSlice t n #[(0, x), (1, y)])
    (vx vy : Value) (hx : a.eval x = vx) (hy : a.eval y = vy) (v : Value) (w' : World) (hr : (Instr.buildSlice t n #[(0, vx), (1, vy)]).run Tryd.prog w = .ok v w') (h : wpList Tryd.prog ops Q rest (a.put o.dst v) w') : wpList Tryd.prog ops Q (o :: rest) a w := by
  refine wpList_plain hgd fun K hK => ?_
  unfold Oper.wp execOp
  simp only [ho, Sem.run_bind, Sem.run_pure, List.map_toArray, List.map_cons, List.map_nil, hx, hy, hr, Result.andThen_ok]
  exact hK _ _ h
/-- the node above two nodes. -/
def joinV (a b : Nd) : Nd := ⟨tagB sumS (a.d ++ b.d ++ encL [a.c, a.p, b.c, b.p]), a.c + b.c, a.p + b.p⟩
theorem nat_two {W : World} {g : Nat} {a b : Nd} (h : Blk W g 46 (a.arr ++ b.arr)) (ha : a.d.length = 32) (hb : b.d.length = 32) : NAt W g 0 [a, b] := by
  intro i hi j v hv
  have hi2 : i < 2 := hi
  rw [Nat.zero_add, h.cell (i * 34 + j)]
  have hj : j < ([a, b][i]).cells.length := by
    rcases Nat.lt_or_ge j ([a, b][i]).cells.length with h | h
    · exact h
    · rw [List.getElem?_eq_none h] at hv; cases hv
  match i, hi2 with
  | 0, _ =>
    have hj : j < a.cells.length := hj
    rw [a.len ha] at hj
    rw [Nat.zero_mul, Nat.zero_add, Array.getElem?_append_left (by rw [a.size ha]; exact hj)]
    unfold Nd.arr; rw [List.getElem?_toArray]; exact hv
  | 1, _ =>
    rw [Nat.one_mul, Array.getElem?_append_right (by rw [a.size ha]; omega), a.size ha, show 34 + j - 34 = j by omega]
    unfold Nd.arr; rw [List.getElem?_toArray]; exact hv
theorem join_start {w W1 : World} {a b na : Array Value} (h : ((w.alloc (.cells a 46)).alloc (.cells b 46)).alloc (.cells na 46) = W1) :
    Below w.heap.size w W1 ∧ Blk W1 w.heap.size 46 a ∧ Blk W1 (w.heap.size + 1) 46 b ∧ Blk W1 (w.heap.size + 2) 46 na := by
  subst h
  refine ⟨(((Below.refl _ w).alloc (Nat.le_refl _) _).alloc (by simp) _).alloc (by simp; omega) _, ((Blk.new _ _ _).alloc _).alloc _, ?_, ?_⟩
  · have := (Blk.new (w.alloc (.cells a 46)) 46 b).alloc (.cells na 46)
    rwa [World.size_alloc] at this
  · have := Blk.new ((w.alloc (.cells a 46)).alloc (.cells b 46)) 46 na
    rwa [World.size_alloc, World.size_alloc] at this
set_option maxRecDepth 100000 in
set_option maxHeartbeats 2000000 in
theorem join_no (a b : Nd) (w : World) (ha : a.d.length = 32) (hb : b.d.length = 32) (hv : validB [a, b] = false) : Calls Tryd.prog 44 #[.agg a.arr, .agg b.arr] w fun e w' => e = .returned (.tuple #[.agg nd0.arr, .int .i64 410]) ∧ Below w.heap.size w w' := by
  have CV := Lib.hid fun (W : World) (g : Nat) (hN : NAt W g 0 [a, b]) (hg : g < W.heap.size) => valid_nodes g 0 2 2 [a, b] W rfl (by omega) (by omega) (by omega) hN (by
    intro n hn
    simp only [List.mem_cons, List.not_mem_nil, or_false] at hn
    rcases hn with rfl | rfl
    · exact ha
    · exact hb) hg
  simp only [hv] at CV
  have HT2 := Lib.hid fun (W : World) (g : Nat) (h : Blk W g 46 (a.arr ++ b.arr)) => nat_two h ha hb
  have HR := Lib.hid fun W => run_two a.arr b.arr (a.size ha) (b.size hb) W
  have hsa := a.size ha
  have hsb := b.size hb
  obtain ⟨A, hA⟩ : ∃ A, a.arr = A := ⟨_, rfl⟩
  obtain ⟨B, hB⟩ : ∃ B, b.arr = B := ⟨_, rfl⟩
  obtain ⟨na, hna⟩ : ∃ na, nd0.arr = na := ⟨_, rfl⟩
  have hs : na.size = 34 := by rw [← hna]; rfl
  have hall : na.all (·.oneCell') = true := by rw [← hna]; exact nd0_all
  rw [hA] at hsa
  rw [hB] at hsb
  simp only [hA, hB] at HT2 HR
  rw [hA, hB, hna]
  have HNA := Lib.hid hna
  clear hA hB hna hv
  go_enter Tryd.func44, Tryd.ntmps44
  go_upto_region 1 with fail
  generalize hW0 : ((w.alloc (Obj.cells A 46)).alloc (Obj.cells B 46)).alloc (Obj.cells _ 46) = W1
  have hzz : ((w.alloc (.cells A 46)).alloc (.cells B 46)).alloc (.cells na 46) = W1 := by rw [← HNA.out]; exact hW0
  clear hW0
  obtain ⟨hb1, hX, hY, hZ⟩ := join_start hzz
  clear hzz
  apply wp_region_lit
  refine wpList_load_row rfl 46 (.tmp 2) rfl w.heap.size rfl 46 A _ _ hX Tryd.underlying46 rfl (by rw [hsa]; exact size46) ?_
  refine wpList_load_row rfl 46 (.tmp 3) rfl (w.heap.size + 1) rfl 46 B _ _ hY Tryd.underlying46 rfl (by rw [hsb]; exact size46) ?_
  refine wpList_buildTwo rfl 44 2 _ _ rfl (.agg A) (.agg B) (by rfl) (by rfl) _ _ (HR.out W1) ?_
  have hM : Blk (W1.alloc (.cells (A ++ B) 46)) W1.heap.size 46 (A ++ B) := Blk.new _ _ _
  have hZ2 := hZ.alloc (.cells (A ++ B) 46)
  have hb2 := hb1.alloc hb1.size (.cells (A ++ B) 46)
  have CC := Lib.hid (CV.out _ _ (HT2.out _ _ hM) hM.lt)
  generalize W1.alloc (.cells (A ++ B) 46) = W2 at hM hZ2 hb2 CC ⊢
  clear hX hY hZ hb1 hM
  go_wp2_with fail
  refine CC.out.mono ?_
  rintro e w3 ⟨rfl, k3⟩
  have hZ3 := hZ2.below k3 hZ2.lt
  have hb3 := bl hb2 k3
  clear hZ2 hb2 k3 CC
  go_upto_region 2 with fail
  apply wp_region_lit
  refine wpList_load_row rfl 46 (.tmp 4) rfl (w.heap.size + 2) (by rfl) 46 na _ _ hZ3 Tryd.underlying46 rfl (by rw [hs]; exact size46) ?_
  refine wpList_store_row rfl 46 (.tmp 4) (.tmp 11) rfl (w.heap.size + 2) na (by rfl) (by rfl) 46 na hZ3 (by rw [hs]; exact size46) rfl hall ?_
  rw [hZ3.setRow_same]
  go_wp2_with fail
  refine bodyPost_ret (v := .tuple #[.agg na, .int .i64 410]) ?_ rfl ⟨rfl, hb3⟩
  exact results_node rfl hZ3 hs rfl rfl
/-- what is held of the two nodes' blocks while a region runs. -/
theorem jf_of {W : World} {g g1 g4 : Nat} {a b : Nd} {na : Array Value} (h : Blk W g 46 a.arr) (h1 : Blk W g1 46 b.arr) (k : Blk W g4 46 na) (ha : a.d.length = 32) (hb : b.d.length = 32) (hn : na.size = 34) :
    W.cell? ⟨g, 32, none⟩ = some (.int .i64 a.c) ∧ W.cell? ⟨g, 33, none⟩ = some (.int .i64 a.p) ∧ W.cell? ⟨g1, 32, none⟩ = some (.int .i64 b.c) ∧ W.cell? ⟨g1, 33, none⟩ = some (.int .i64 b.p) ∧ W.there g4 0 34 := by
  have e (n : Nd) (i : Nat) : n.arr[i]? = (u8s n.d ++ [Value.int .i64 n.c, .int .i64 n.p])[i]? := List.getElem?_toArray
  have c2 (n : Nd) (hd : n.d.length = 32) : n.arr[32]? = some (.int .i64 n.c) := by rw [e, List.getElem?_append_right (by rw [u8s_length]; omega), u8s_length, hd]; rfl
  have c3 (n : Nd) (hd : n.d.length = 32) : n.arr[33]? = some (.int .i64 n.p) := by rw [e, List.getElem?_append_right (by rw [u8s_length]; omega), u8s_length, hd]; rfl
  exact ⟨by rw [h.cell, c2 a ha], by rw [h.cell, c3 a ha], by rw [h1.cell, c2 b hb], by rw [h1.cell, c3 b hb], blk_there k hn⟩
/-- join's region: the append first, or the slice of sums first. -/
theorem join_app {w W : World} {g : Nat} {A B na : Array Value} {da db : List UInt8} (hX : Blk W g 46 A) (hY : Blk W (g + 1) 46 B) (hZ : Blk W (g + 2) 46 na) (hb : Below w.heap.size w W)
    (h1 : BS W (some ⟨g, 0, none⟩) 32 32 da) (h2 : BS W (some ⟨g + 1, 0, none⟩) 32 32 db) (H : Nat) (hH : W.heap.size = H) (ty : TypeId) :
    ∃ G W', (Builtin.append_ #[22, 22] ty #[.slice (some ⟨g, 0, none⟩) 32 32, .slice (some ⟨g + 1, 0, none⟩) 32 32]).run Tryd.prog W = .ok (.slice (some ⟨H, 0, none⟩) 64 G) W' ∧
      BS W' (some ⟨H, 0, none⟩) 64 G (da ++ db) ∧ Below H W W' ∧ Blk W' g 46 A ∧ Blk W' (g + 1) 46 B ∧ Blk W' (g + 2) 46 na ∧ Below w.heap.size w W' := by
  subst hH
  obtain ⟨G, W', hr, hl, hk, _⟩ := append_full ⟨g, 0, none⟩ ⟨g + 1, 0, none⟩ da db W h1 h2 ty
  exact ⟨G, W', hr, hl, hk, hX.below hk hX.lt, hY.below hk hY.lt, hZ.below hk hZ.lt, bl hb hk⟩
theorem join_sums {a b : Nd} (h : validB [a, b] = true) : (0 ≤ a.c + b.c ∧ a.c + b.c ≤ 1073741824) ∧ 0 ≤ a.p + b.p ∧ a.p + b.p ≤ 12 * 1073741824 := by
  unfold validB at h
  rw [Bool.and_eq_true] at h
  obtain ⟨h1, h2⟩ := h
  have h2 := of_decide_eq_true h2
  rw [List.all_eq_true] at h1
  have ha := of_decide_eq_true (h1 a (by simp))
  have hb := of_decide_eq_true (h1 b (by simp))
  simp only [sumC] at h2
  omega
set_option maxRecDepth 100000 in
set_option maxHeartbeats 4000000 in
theorem join_yes (a b : Nd) (w : World) (ha : a.d.length = 32) (hb : b.d.length = 32) (hv : validB [a, b] = true) (hT : Tabs w) : Calls Tryd.prog 44 #[.agg a.arr, .agg b.arr] w fun e w' => e = .returned (.tuple #[.agg (joinV a b).arr, .int .i64 0]) ∧ Below w.heap.size w w' := by
  obtain ⟨hc, hp⟩ := join_sums hv
  have CV := Lib.hid fun (W : World) (g : Nat) (hN : NAt W g 0 [a, b]) (hg : g < W.heap.size) => valid_nodes g 0 2 2 [a, b] W rfl (by omega) (by omega) (by omega) hN (by
    intro n hn
    simp only [List.mem_cons, List.not_mem_nil, or_false] at hn
    rcases hn with rfl | rfl
    · exact ha
    · exact hb) hg
  simp only [hv] at CV
  have HT2 := Lib.hid fun (W : World) (g : Nat) (h : Blk W g 46 (a.arr ++ b.arr)) => nat_two h ha hb
  have HR := Lib.hid fun W => run_two a.arr b.arr (a.size ha) (b.size hb) W
  have hsa := a.size ha
  have hsb := b.size hb
  have hdg : (tagB sumS (a.d ++ b.d ++ encL [a.c, a.p, b.c, b.p])).length = 32 := tagB_length _ _
  have hlv : joinV a b = ⟨tagB sumS (a.d ++ b.d ++ encL [a.c, a.p, b.c, b.p]), a.c + b.c, a.p + b.p⟩ := rfl
  have hw1 : IntKind.i64.wrap (a.c + b.c) = a.c + b.c := by rw [IntWalk.i64_in _ (by omega)]
  have hw2 : IntKind.i64.wrap (a.p + b.p) = a.p + b.p := by rw [IntWalk.i64_in _ (by omega)]
  obtain ⟨dg, hdge⟩ : ∃ dg, tagB sumS (a.d ++ b.d ++ encL [a.c, a.p, b.c, b.p]) = dg := ⟨_, rfl⟩
  rw [hdge] at hdg hlv
  obtain ⟨es, hes⟩ : ∃ ar, (u8s dg).toArray = ar := ⟨_, rfl⟩
  have HJF := Lib.hid fun (W : World) (na : Array Value) (g g1 g4 : Nat) (h : Blk W g 46 a.arr) (h1 : Blk W g1 46 b.arr) (k : Blk W g4 46 na) (hn : na.size = 34) => jf_of h h1 k ha hb hn
  have HBA := Lib.hid fun (W : World) (g : Nat) (h : Blk W g 46 a.arr) => nd_bytes (o := 0) h ha
  have HBB := Lib.hid fun (W : World) (g : Nat) (h : Blk W g 46 b.arr) => nd_bytes (o := 0) h hb
  obtain ⟨da, hda⟩ : ∃ x, a.d = x := ⟨_, rfl⟩
  obtain ⟨db, hdb⟩ : ∃ x, b.d = x := ⟨_, rfl⟩
  obtain ⟨ac, hac⟩ : ∃ x, a.c = x := ⟨_, rfl⟩
  obtain ⟨ap, hap⟩ : ∃ x, a.p = x := ⟨_, rfl⟩
  obtain ⟨bc, hbc⟩ : ∃ x, b.c = x := ⟨_, rfl⟩
  obtain ⟨bp, hbp⟩ : ∃ x, b.p = x := ⟨_, rfl⟩
  have hll : (da ++ db).length = 64 := by rw [List.length_append, ← hda, ← hdb]; omega
  have CH := Lib.hid fun (W : World) (ga G gz : Nat) (hs : BS W (some ⟨ga, 0, none⟩) 64 G (da ++ db)) (hz : Blk W gz 3 (ints [ac, ap, bc, bp])) (hb : Below w.heap.size w W) =>
    (thash_any sumS ⟨ga, 0, none⟩ 64 G gz 4 (da ++ db) [ac, ap, bc, bp] W (by decide) hs (by omega) rfl (by omega) (by omega) hz (hT.ext hb))
  rw [hda, hdb, hac, hap, hbc, hbp] at hdge
  simp only [show tagB sumS (da ++ db ++ encL [ac, ap, bc, bp]) = dg from hdge, hes] at CH
  simp only [hda] at HBA
  simp only [hdb] at HBB
  simp only [hac, hap, hbc, hbp] at HJF hlv hw1 hw2
  obtain ⟨A, hA⟩ : ∃ A, a.arr = A := ⟨_, rfl⟩
  obtain ⟨B, hB⟩ : ∃ B, b.arr = B := ⟨_, rfl⟩
  obtain ⟨na, hna⟩ : ∃ na, nd0.arr = na := ⟨_, rfl⟩
  obtain ⟨nb, hnb⟩ : ∃ nb, (joinV a b).arr = nb := ⟨_, rfl⟩
  have hsc : nb.size = 34 := by rw [← hnb, hlv]; exact Nd.size _ hdg
  have hallb : nb.all (·.oneCell') = true := by rw [← hnb]; exact nd_all _
  rw [hnb]
  rw [hlv] at hnb
  obtain ⟨X, hX1, hX2, hX3⟩ := build_facts dg es hdg hes (ac + bc) (ap + bp)
  rw [hnb] at hX3
  obtain ⟨cs, rfl⟩ : ∃ cs : List Value, nb = cs.toArray := ⟨nb.toList, by simp⟩
  have hcl : cs.length = 34 := by simpa using hsc
  have hone : ∀ v ∈ cs, v.oneCell' = true := fun v hv => (Array.all_eq_true_iff_forall_mem.1 hallb) v (by simpa using hv)
  have HX1 := Lib.hid hX1; have HX2 := Lib.hid hX2; have HX3 := Lib.hid hX3
  have hi46 : (Tryd.prog.info? 46).map (·.size) = some cs.length := by rw [hcl]; exact size46
  have hsn : na.size = 34 := by rw [← hna]; rfl
  rw [hA] at hsa
  rw [hB] at hsb
  simp only [hA, hB] at HT2 HR HJF
  simp only [hA] at HBA
  simp only [hB] at HBB
  rw [hA, hB]
  have HNA := Lib.hid hna
  have HES := Lib.hid hes
  have HDG := Lib.hid hdg
  clear hA hB hna hv hX1 hX2 hX3 hdge hes hnb hlv hda hdb hac hap hbc hbp hT hc hp ha hb hdg hll
  go_enter Tryd.func44, Tryd.ntmps44
  go_upto_region 1 with fail
  generalize hW0 : ((w.alloc (Obj.cells A 46)).alloc (Obj.cells B 46)).alloc (Obj.cells _ 46) = W1
  have hzz : ((w.alloc (.cells A 46)).alloc (.cells B 46)).alloc (.cells na 46) = W1 := by rw [← HNA.out]; exact hW0
  clear hW0
  obtain ⟨hb1, hX, hY, hZ⟩ := join_start hzz
  clear hzz
  apply wp_region_lit
  refine wpList_load_row rfl 46 (.tmp 2) rfl w.heap.size rfl 46 A _ _ hX Tryd.underlying46 rfl (by rw [hsa]; exact size46) ?_
  refine wpList_load_row rfl 46 (.tmp 3) rfl (w.heap.size + 1) rfl 46 B _ _ hY Tryd.underlying46 rfl (by rw [hsb]; exact size46) ?_
  refine wpList_buildTwo rfl 44 2 _ _ rfl (.agg A) (.agg B) (by rfl) (by rfl) _ _ (HR.out W1) ?_
  have hM : Blk (W1.alloc (.cells (A ++ B) 46)) W1.heap.size 46 (A ++ B) := Blk.new _ _ _
  have hX2 := hX.alloc (.cells (A ++ B) 46)
  have hY2 := hY.alloc (.cells (A ++ B) 46)
  have hZ2 := hZ.alloc (.cells (A ++ B) 46)
  have hb2 := hb1.alloc hb1.size (.cells (A ++ B) 46)
  have CC := Lib.hid (CV.out _ _ (HT2.out _ _ hM) hM.lt)
  generalize W1.alloc (.cells (A ++ B) 46) = W2 at hM hX2 hY2 hZ2 hb2 CC ⊢
  clear hX hY hZ hb1 hM
  go_wp2_with fail
  refine CC.out.mono ?_
  rintro e w3 ⟨rfl, k3⟩
  have hX3 := hX2.below k3 hX2.lt
  have hY3 := hY2.below k3 hY2.lt
  have hZ3 := hZ2.below k3 hZ2.lt
  have hb3 := bl hb2 k3
  clear hX2 hY2 hZ2 hb2 k3 CC CV HT2 HR
  go_upto_region 3 with fail
  have s0 := HJF.out _ _ _ _ _ hX3 hY3 hZ3 hsn
  have b0 := (HJF.out _ _ _ _ _ (hX3.alloc (.cells (ints [ac, ap, bc, bp]) 3)) (hY3.alloc _) (hZ3.alloc _) hsn)
  have HX := Lib.hid hX3; have HY := Lib.hid hY3; have HZ := Lib.hid hZ3; have HB := Lib.hid hb3
  clear hX3 hY3 hZ3 hb3
  have AP1 := Lib.hid fun ty => join_app (w := w) (W := w3.drew) HX.out HY.out HZ.out (below_dr HB.out 1) (HBA.out w3.drew _ HX.out) (HBB.out w3.drew _ HY.out) w3.heap.size rfl ty
  have AP2 := Lib.hid fun ty => join_app (w := w) (W := (w3.alloc (.cells (ints [ac, ap, bc, bp]) 3)).drew) ((HX.out).alloc _) ((HY.out).alloc _) ((HZ.out).alloc _) (below_dr ((HB.out).alloc (HB.out).size _) 1) (HBA.out _ _ ((HX.out).alloc _)) (HBB.out _ _ ((HY.out).alloc _)) (w3.heap.size + 1) (by simp) ty
  have HZ2 : Hid (Blk (w3.alloc (.cells (ints [ac, ap, bc, bp]) 3)).drew w3.heap.size 3 (ints [ac, ap, bc, bp])) := Lib.hid (Blk.new w3 3 (ints [ac, ap, bc, bp]))
  have hes32 : es.size = 32 := by rw [← HES.out, List.size_toArray, u8s_length]; exact HDG.out
  have hX1 := HX1.out; have hX2 := HX2.out; have hX3 := HX3.out
  go_region_held3 (fun W => W.cell? ⟨w.heap.size, 32, none⟩ = some (.int .i64 ac) ∧ W.cell? ⟨w.heap.size, 33, none⟩ = some (.int .i64 ap) ∧ W.cell? ⟨w.heap.size + 1, 32, none⟩ = some (.int .i64 bc) ∧ W.cell? ⟨w.heap.size + 1, 33, none⟩ = some (.int .i64 bp) ∧ W.there (w.heap.size + 2) 0 34)
    (first | exact s0 | exact b0 | exact s5 | exact s6 | exact s7 | exact s9)
    (first | (obtain ⟨G, w5, hr5, hl5, k5, hX5, hY5, hZ5, hb5⟩ := AP1.out 22; refine step_append_run (by rfl) (.tmp 13) (.tmp 15) (by rfl) _ _ (by rfl) (by rfl) _ w5 hr5 ?_; have s5 := HJF.out _ _ _ _ _ hX5 hY5 hZ5 hsn; have hX6 := hX5.alloc (.cells (ints [ac, ap, bc, bp]) 3); have hY6 := hY5.alloc (.cells (ints [ac, ap, bc, bp]) 3); have hZ6 := hZ5.alloc (.cells (ints [ac, ap, bc, bp]) 3); have s6 := HJF.out _ _ _ _ _ hX6 hY6 hZ6 hsn; have hb6 := hb5.alloc hb5.size (.cells (ints [ac, ap, bc, bp]) 3); have CHH := Lib.hid (CH.out _ _ _ _ (hl5.below (Below.alloc (Below.refl _ w5) (Nat.le_refl _) _)) (Blk.new w5 3 (ints [ac, ap, bc, bp])) hb6); have HX6 := Lib.hid hX6; have HY6 := Lib.hid hY6; have HZ6 := Lib.hid hZ6; have HB6 := Lib.hid hb6; clear hX6 hY6 hZ6 hb6 hX5 hY5 hZ5 hb5 hl5 k5 hr5) | (obtain ⟨G, w5, hr5, hl5, k5, hX5, hY5, hZ5, hb5⟩ := AP2.out 22; refine step_append_run (by rfl) (.tmp 13) (.tmp 15) (by rfl) _ _ (by rfl) (by rfl) _ w5 hr5 ?_; have s6 := HJF.out _ _ _ _ _ hX5 hY5 hZ5 hsn; have hz5 := (HZ2.out).below k5 (Nat.lt_succ_self _); have CHH := Lib.hid (CH.out _ _ _ _ hl5 hz5 hb5); have HX6 := Lib.hid hX5; have HY6 := Lib.hid hY5; have HZ6 := Lib.hid hZ5; have HB6 := Lib.hid hb5; clear hX5 hY5 hZ5 hb5 hl5 k5 hr5 hz5) | (go_at_call 87; refine CHH.out.mono ?_; rintro e w7 ⟨rfl, k7⟩; have hX7 := (HX6.out).below k7 (HX6.out).lt; have hY7 := (HY6.out).below k7 (HY6.out).lt; have hZ7 := (HZ6.out).below k7 (HZ6.out).lt; have s7 := HJF.out _ _ _ _ _ hX7 hY7 hZ7 hsn; have hb7 := bl HB6.out k7; have st7 := store_row (cs := cs) hZ7 (by omega) hone; have hX9 : Blk (w7.setRow (w.heap.size + 2) cs.toArray) w.heap.size 46 A := (setRow_other _ _ _ _ (by omega)).trans hX7; have hY9 : Blk (w7.setRow (w.heap.size + 2) cs.toArray) (w.heap.size + 1) 46 B := (setRow_other _ _ _ _ (by omega)).trans hY7; have hZ9 : Blk (w7.setRow (w.heap.size + 2) cs.toArray) (w.heap.size + 2) 46 cs.toArray := setRow_heap _ _ _ _ _ _ hZ7; have s9 := HJF.out _ _ _ _ _ hX9 hY9 hZ9 (by simpa using hcl); have hb9 : Below w.heap.size w (w7.setRow (w.heap.size + 2) cs.toArray) := below_setRow hb7 (by omega) _))
  all_goals (
    clear s0 b0 s6 s7 s9 st7 hX7 hY7 hZ7 hX9 hY9 hX1 hX2 hX3 CHH HX6 HY6 HZ6 HB6
    go_wp2_with fail
    refine bodyPost_ret (v := .tuple #[.agg cs.toArray, .int .i64 0]) ?_ rfl ⟨rfl, hb9⟩
    exact results_node rfl hZ9 (by simpa using hcl) rfl rfl)
/-- the node above nodes. -/
def foldV (ns : List Nd) : Nd :=
  if h : 2 ≤ ns.length then joinV (foldV (ns.take (halfN ns.length))) (foldV (ns.drop (halfN ns.length))) else ns.headD nd0
termination_by ns.length
decreasing_by
  · have := half_spec h; rw [List.length_take]; omega
  · have := half_spec h; rw [List.length_drop]; omega
theorem foldV_two {ns : List Nd} (h : 2 ≤ ns.length) : foldV ns = joinV (foldV (ns.take (halfN ns.length))) (foldV (ns.drop (halfN ns.length))) := by rw [foldV, dif_pos h]
theorem foldV_one (n : Nd) : foldV [n] = n := by rw [foldV, dif_neg (by simp)]; rfl
theorem joinV_len (a b : Nd) : (joinV a b).d.length = 32 := tagB_length _ _
/-- the sum of points. -/
def sumP : List Nd → Int
  | [] => 0
  | n :: ns => n.p + sumP ns
theorem sumP_append : ∀ a b : List Nd, sumP (a ++ b) = sumP a + sumP b
  | [], _ => by simp [sumP]
  | n :: a, b => by rw [List.cons_append, sumP, sumP, sumP_append a b]; omega
theorem sumP_bd : ∀ ns : List Nd, ns.all Nd.ok = true → 0 ≤ sumP ns ∧ sumP ns ≤ 12 * sumC ns
  | [], _ => ⟨Int.le_refl _, by simp [sumC, sumP]⟩
  | n :: ns, h => by
    rw [List.all_cons, Bool.and_eq_true] at h
    have h1 := of_decide_eq_true h.1
    have h2 := sumP_bd ns h.2
    rw [sumC, sumP]
    omega
theorem foldV_parts : ∀ (k : Nat) (ns : List Nd), ns.length ≤ k → ns ≠ [] → (∀ n ∈ ns, n.d.length = 32) → (foldV ns).d.length = 32 ∧ (foldV ns).c = sumC ns ∧ (foldV ns).p = sumP ns
  | 0, ns, h, hne, _ => absurd (List.length_eq_zero_iff.1 (Nat.le_zero.1 h)) hne
  | k + 1, ns, h, hne, hd => by
    by_cases h2 : 2 ≤ ns.length
    · have hs := half_spec h2
      have l1 : (ns.take (halfN ns.length)).length = halfN ns.length := by rw [List.length_take]; omega
      have l2 : (ns.drop (halfN ns.length)).length = ns.length - halfN ns.length := List.length_drop
      obtain ⟨_, b1, c1⟩ := foldV_parts k (ns.take (halfN ns.length)) (by omega) (fun e => by rw [e] at l1; simp at l1; omega) (fun n hn => hd n (List.mem_of_mem_take hn))
      obtain ⟨_, b2, c2⟩ := foldV_parts k (ns.drop (halfN ns.length)) (by omega) (fun e => by rw [e] at l2; simp at l2; omega) (fun n hn => hd n (List.mem_of_mem_drop hn))
      rw [foldV_two h2]
      have e := List.take_append_drop (halfN ns.length) ns
      refine ⟨joinV_len _ _, ?_, ?_⟩
      · show (foldV _).c + (foldV _).c = _
        rw [b1, b2, ← sumC_append, e]
      · show (foldV _).p + (foldV _).p = _
        rw [c1, c2, ← sumP_append, e]
    · match ns, hne, h2 with
      | [n], _, _ =>
        rw [foldV_one]
        exact ⟨hd n (by simp), by simp [sumC], by simp [sumP]⟩
      | _ :: _ :: _, _, h2 => exact absurd (by simp) h2
theorem foldV_len {ns : List Nd} (hne : ns ≠ []) (hd : ∀ n ∈ ns, n.d.length = 32) : (foldV ns).d.length = 32 := (foldV_parts _ ns (Nat.le_refl _) hne hd).1
theorem foldV_c {ns : List Nd} (hne : ns ≠ []) (hd : ∀ n ∈ ns, n.d.length = 32) : (foldV ns).c = sumC ns := (foldV_parts _ ns (Nat.le_refl _) hne hd).2.1
theorem foldV_p {ns : List Nd} (hne : ns ≠ []) (hd : ∀ n ∈ ns, n.d.length = 32) : (foldV ns).p = sumP ns := (foldV_parts _ ns (Nat.le_refl _) hne hd).2.2
theorem validB_parts {ns : List Nd} (h : validB ns = true) : ns.all Nd.ok = true ∧ sumC ns ≤ 1073741824 := by
  unfold validB at h
  rw [Bool.and_eq_true] at h
  exact ⟨h.1, of_decide_eq_true h.2⟩
theorem validB_of {ns : List Nd} (h : ns.all Nd.ok = true) (h2 : sumC ns ≤ 1073741824) : validB ns = true := by
  unfold validB
  rw [Bool.and_eq_true]
  exact ⟨h, decide_eq_true h2⟩
theorem all_split {ns : List Nd} (k : Nat) (h : ns.all Nd.ok = true) : (ns.take k).all Nd.ok = true ∧ (ns.drop k).all Nd.ok = true := by
  rw [List.all_eq_true] at h
  refine ⟨?_, ?_⟩ <;> rw [List.all_eq_true] <;> intro x hx
  · exact h x (List.mem_of_mem_take hx)
  · exact h x (List.mem_of_mem_drop hx)
theorem validB_split {ns : List Nd} (k : Nat) (h : validB ns = true) : validB (ns.take k) = true ∧ validB (ns.drop k) = true := by
  obtain ⟨h1, h2⟩ := validB_parts h
  obtain ⟨h3, h4⟩ := all_split k h1
  have e : sumC ns = sumC (ns.take k) + sumC (ns.drop k) := by rw [← sumC_append, List.take_append_drop]
  have := (sumC_bd _ h3).1
  have := (sumC_bd _ h4).1
  exact ⟨validB_of h3 (by omega), validB_of h4 (by omega)⟩
theorem foldV_ok {ns : List Nd} (hne : ns ≠ []) (hd : ∀ n ∈ ns, n.d.length = 32) (h : validB ns = true) : (foldV ns).ok = true := by
  obtain ⟨h1, h2⟩ := validB_parts h
  have := sumC_bd _ h1
  have := sumP_bd _ h1
  unfold Nd.ok
  rw [foldV_c hne hd, foldV_p hne hd]
  exact decide_eq_true (by omega)
theorem foldV_join {a b : List Nd} (ha : a ≠ []) (hb : b ≠ []) (hd : ∀ n ∈ a ++ b, n.d.length = 32) (h : validB (a ++ b) = true) : validB [foldV a, foldV b] = true := by
  have hda : ∀ n ∈ a, n.d.length = 32 := fun n hn => hd n (List.mem_append_left _ hn)
  have hdb : ∀ n ∈ b, n.d.length = 32 := fun n hn => hd n (List.mem_append_right _ hn)
  have h1 := validB_split a.length h
  rw [List.take_left, List.drop_left] at h1
  refine validB_of ?_ ?_
  · simp only [List.all_cons, List.all_nil, Bool.and_true, foldV_ok ha hda h1.1, foldV_ok hb hdb h1.2]
  · have := (validB_parts h).2
    rw [sumC_append] at this
    simp only [sumC, foldV_c ha hda, foldV_c hb hdb]
    omega
theorem NAt.take {W : World} {g o : Nat} {ns : List Nd} (h : NAt W g o ns) (k : Nat) : NAt W g o (ns.take k) := fun i hi => by
  have hi2 : i < ns.length := by rw [List.length_take] at hi; omega
  have := h i hi2
  rwa [show (ns.take k)[i] = ns[i] from List.getElem_take]
theorem NAt.drop {W : World} {g o : Nat} {ns : List Nd} (h : NAt W g o ns) (k : Nat) : NAt W g (o + k * 34) (ns.drop k) := fun i hi => by
  have hi2 : k + i < ns.length := by rw [List.length_drop] at hi; omega
  have := h (k + i) hi2
  rw [show (ns.drop k)[i] = ns[k + i] from List.getElem_drop]
  rw [show o + k * 34 + i * 34 = o + (k + i) * 34 by omega]
  exact this
theorem NAt.below {w w' : World} {g o B : Nat} {ns : List Nd} (h : NAt w g o ns) (hb : Below B w w') (hg : g < B) : NAt w' g o ns := fun i hi j v hv => (hb.cell hg).trans (h i hi j v hv)
/-- the closure that folds. -/
def fnV (gc : Nat) : Value := .func (.func 83) #[] #[.pointer (some ⟨gc, 0, none⟩)]
set_option maxRecDepth 100000 in
set_option maxHeartbeats 2000000 in
theorem fold_one (gc g o c : Nat) (n : Nd) (w : World) (hd : n.d.length = 32) (hc : 1 ≤ c) (hc9 : c ≤ 9223372036854775807) (hN : w.rangeAt g o n.cells) (hg : g < w.heap.size) :
    Calls Tryd.prog 83 #[.slice (some ⟨g, o, none⟩) (1 : Nat) c, .pointer (some ⟨gc, 0, none⟩)] w fun e w' => e = .returned (.agg n.arr) ∧ Below w.heap.size w w' := by
  have hcl := n.len hd
  have hall := nd_all n
  unfold Nd.arr at hall ⊢
  obtain ⟨cs, hcs⟩ : ∃ cs, n.cells = cs := ⟨_, rfl⟩
  rw [hcs] at hN hcl hall ⊢
  obtain ⟨na, hna⟩ : ∃ na, nd0.arr = na := ⟨_, rfl⟩
  have hs : na.size = 34 := by rw [← hna]; rfl
  have HNA := Lib.hid hna
  have hz : Blk (w.alloc (.cells na 46)) w.heap.size 46 na := Blk.new _ _ _
  have hr : (w.alloc (.cells na 46)).rangeAt g o cs := fun j v hv => ((Below.alloc (Below.refl _ w) (Nat.le_refl _) (.cells na 46)).cell (p := ⟨g, o + j, none⟩) hg).trans (hN j v hv)
  have hb : Below w.heap.size w (w.alloc (.cells na 46)) := Below.alloc (Below.refl _ w) (Nat.le_refl _) _
  clear hna hcs hN
  go_enter Tryd.func83, Tryd.ntmps83
  go_upto_region 1 with fail
  generalize hW0 : w.alloc (Obj.cells _ 46) = W1
  have hzz : w.alloc (.cells na 46) = W1 := by rw [← HNA.out]; exact hW0
  rw [hzz] at hz hr hb
  clear hW0 hzz
  go_upto_region 2 with fail
  apply wp_region_lit
  go_step
  go_step
  go_step
  go_step
  go_step
  go_step
  refine wpList_load_mid rfl 46 (.tmp 11) rfl g o (by rfl) cs _ hr Tryd.underlying46 rfl (by rw [hcl]; exact size46) ?_
  refine wpList_store_row rfl 46 (.tmp 3) (.tmp 12) rfl w.heap.size cs.toArray (by rfl) (by rfl) 46 na hz (by rw [List.size_toArray, hcl]; exact size46) (by simp only [List.size_toArray, hcl, hs]) hall ?_
  have hX2 : Blk (W1.setRow w.heap.size cs.toArray) w.heap.size 46 cs.toArray := setRow_heap _ _ _ _ _ _ hz
  have hB2 : Below w.heap.size w (W1.setRow w.heap.size cs.toArray) := below_setRow hb (Nat.le_refl _) _
  go_wp2_with fail
  refine bodyPost_ret (v := .agg cs.toArray) ?_ rfl ⟨rfl, hB2⟩
  exact results_cell_row (p := 3) (ty := 46) rfl _ _ w.heap.size 46 cs.toArray (0, 0) _ rfl hX2 Tryd.underlying46 rfl (by rw [List.size_toArray, hcl]; exact size46)
/-- what a call of the fold on a part of the nodes gives. -/
def FoldsAt (gc : Nat) (W : World) (g o k c : Nat) (V : Array Value) : Prop :=
  Calls Tryd.prog 83 #[.slice (some ⟨g, o, none⟩) k c, .pointer (some ⟨gc, 0, none⟩)] W fun e w' => e = .returned (.agg V) ∧ Below W.heap.size W w'
/-- what the fold's region keeps. -/
def FS (w : World) (gc : Nat) (na : Array Value) (W : World) : Prop := Below w.heap.size w W ∧ Blk W w.heap.size 46 na ∧ Blk W gc 97 #[fnV gc]
def NB (w : World) (na : Array Value) (W : World) (b : Nat) : Prop := Blk W b 46 na ∧ w.heap.size < b
theorem fs_s {w W : World} {gc : Nat} {na : Array Value} (h : FS w gc na W) : W.cell? ⟨gc, 0, none⟩ = some (.func (.func 83) #[] #[.pointer (some ⟨gc, 0, none⟩)]) ∧ FS w gc na W := ⟨h.2.2.cell 0, h⟩
theorem fs_call {w W w' : World} {gc : Nat} {na : Array Value} (h : FS w gc na W) (k : Below W.heap.size W w') : FS w gc na w' := ⟨bl h.1 k, h.2.1.below k h.2.1.lt, h.2.2.below k h.2.2.lt⟩
theorem fs_alloc {w W : World} {gc : Nat} {na : Array Value} {v : Value} (h : W.cell? ⟨gc, 0, none⟩ = some v ∧ FS w gc na W) (o : Obj) : (W.alloc o).cell? ⟨gc, 0, none⟩ = some (.func (.func 83) #[] #[.pointer (some ⟨gc, 0, none⟩)]) ∧ FS w gc na (W.alloc o) :=
  fs_s (fs_call h.2 (Below.alloc (Below.refl _ W) (Nat.le_refl _) o))
theorem nb_new {w X : World} {gc : Nat} {na : Array Value} (h : FS w gc na X) : NB w na (X.alloc (.cells na 46)) X.heap.size := ⟨Blk.new _ _ _, h.2.1.lt⟩
theorem nb_keep {w W w' : World} {b : Nat} {na : Array Value} (h : NB w na W b) (k : Below W.heap.size W w') : NB w na w' b := ⟨h.1.below k h.1.lt, h.2⟩
theorem nb_alloc {w X w' : World} {gc : Nat} {na : Array Value} (h : FS w gc na X) (k : Below (X.alloc (.cells na 46)).heap.size (X.alloc (.cells na 46)) w') : NB w na w' X.heap.size := nb_keep (nb_new h) k
theorem nb_fin {w W : World} {gc b : Nat} {na : Array Value} {cs : List Value} (h : FS w gc na W) (n : NB w na W b) (h34 : na.size = 34) (hcl : cs.length = 34) (hone : ∀ v ∈ cs, v.oneCell' = true) (hgl : gc < w.heap.size) :
    (storeCells ⟨b, 0, none⟩ cs).run Tryd.prog W = .ok () (W.setRow b cs.toArray) ∧ Blk (W.setRow b cs.toArray) b 46 cs.toArray ∧ FS w gc na (W.setRow b cs.toArray) ∧ W.there b 0 34 := by
  have := n.2
  exact ⟨store_row n.1 (by rw [h34]; exact hcl) hone, setRow_heap _ _ _ _ _ _ n.1, ⟨below_setRow h.1 (by omega) _, (setRow_other _ _ _ _ (by omega)).trans h.2.1, (setRow_other _ _ _ _ (by omega)).trans h.2.2⟩, blk_there n.1 h34⟩
set_option maxRecDepth 100000 in
set_option maxHeartbeats 4000000 in
theorem fold_two (gc g o c k h : Nat) (A B R : Array Value) (w : World) (hk : 2 ≤ k) (hk9 : k ≤ 4096) (hh : halfN k = h) (hc : k ≤ c) (hc9 : c ≤ 9223372036854775807) (hsr : R.size = 34) (hrall : R.all (·.oneCell') = true)
    (hgc : Blk w gc 97 #[fnV gc])
    (hL : ∀ W, Below w.heap.size w W → FoldsAt gc W g o h c A) (hR : ∀ W, Below w.heap.size w W → FoldsAt gc W g (o + h * 34) (k - h) (c - h) B)
    (hJ : ∀ W, Below w.heap.size w W → Calls Tryd.prog 44 #[.agg A, .agg B] W fun e w' => e = .returned (.tuple #[.agg R, .int .i64 0]) ∧ Below W.heap.size W w') :
    FoldsAt gc w g o k c R := by
  have h1 := half_spec hk
  rw [hh] at h1
  unfold FoldsAt at hL hR ⊢
  have HHalf := Lib.hid fun W => hh ▸ half_any k W (by omega)
  have HL := Lib.hid hL; have HR := Lib.hid hR; have HJ := Lib.hid hJ
  obtain ⟨na, hna⟩ : ∃ na, nd0.arr = na := ⟨_, rfl⟩
  have hs : na.size = 34 := by rw [← hna]; rfl
  have HNA := Lib.hid hna
  have hz : Blk (w.alloc (.cells na 46)) w.heap.size 46 na := Blk.new _ _ _
  have hb : Below w.heap.size w (w.alloc (.cells na 46)) := Below.alloc (Below.refl _ w) (Nat.le_refl _) _
  have hgl := hgc.lt
  have hgc2 := hgc.alloc (.cells na 46)
  have d0 : decide (k = 1) = false := decide_eq_false (by omega)
  have i0 : (0 : Int) ≤ (h : Int) := by omega
  have i1 : (h : Int) ≤ (k : Int) := by omega
  have i2 : (h : Int) ≤ (c : Int) := by omega
  have i3 : (k : Int) ≤ (c : Int) := by omega
  clear hna hL hR hJ hh
  go_enter Tryd.func83, Tryd.ntmps83
  go_upto_region 1 with fail
  generalize hW0 : w.alloc (Obj.cells _ 46) = W1
  have hzz : w.alloc (.cells na 46) = W1 := by rw [← HNA.out]; exact hW0
  rw [hzz] at hz hgc2 hb
  clear hW0 hzz
  go_upto_region 3 with fail
  go_wp2_with fail
  refine (HHalf.out _).mono ?_
  rintro e w2 ⟨rfl, rfl⟩
  go_upto_region 4 with fail
  have d3 : (c = h) = False := eq_false (by omega)
  obtain ⟨cs, rfl⟩ : ∃ cs : List Value, R = cs.toArray := ⟨R.toList, by simp⟩
  have hcl : cs.length = 34 := by simpa using hsr
  have hone : ∀ v ∈ cs, v.oneCell' = true := fun v hv => (Array.all_eq_true_iff_forall_mem.1 hrall) v (by simpa using hv)
  have hi46 : (Tryd.prog.info? 46).map (·.size) = some cs.length := by rw [hcl]; exact size46
  have HF1 : FS w gc na W1.drew := ⟨below_dr hb 1, hz, hgc2⟩
  have HF0 : FS w gc na W1 := ⟨hb, hz, hgc2⟩
  have s0 := fs_s HF1
  clear hz hb hgc2 hgc
  have hlit : (#[Value.int IntKind.u8 0, Value.int IntKind.u8 0, Value.int IntKind.u8 0, Value.int IntKind.u8 0, Value.int IntKind.u8 0, Value.int IntKind.u8 0, Value.int IntKind.u8 0, Value.int IntKind.u8 0, Value.int IntKind.u8 0, Value.int IntKind.u8 0, Value.int IntKind.u8 0, Value.int IntKind.u8 0, Value.int IntKind.u8 0, Value.int IntKind.u8 0, Value.int IntKind.u8 0, Value.int IntKind.u8 0, Value.int IntKind.u8 0, Value.int IntKind.u8 0, Value.int IntKind.u8 0, Value.int IntKind.u8 0, Value.int IntKind.u8 0, Value.int IntKind.u8 0, Value.int IntKind.u8 0, Value.int IntKind.u8 0, Value.int IntKind.u8 0, Value.int IntKind.u8 0, Value.int IntKind.u8 0, Value.int IntKind.u8 0, Value.int IntKind.u8 0, Value.int IntKind.u8 0, Value.int IntKind.u8 0, Value.int IntKind.u8 0, Value.int IntKind.i64 0, Value.int IntKind.i64 0] : Array Value) = na := HNA.out
  go_region_held3 (fun W => W.cell? ⟨gc, 0, none⟩ = some (.func (.func 83) #[] #[.pointer (some ⟨gc, 0, none⟩)]) ∧ FS w gc na W)
    (first | exact s0 | exact sL | exact sR | exact sJ | exact s9 | exact fs_alloc (‹_ ∧ FS w gc na _›) _)
    (first | (go_at_call_of 83 (Value.slice (some ⟨g, o, none⟩) h c); refine (HL.out _ (‹_ ∧ FS w gc na _›).2.1).mono ?_; rintro e wL ⟨rfl, kL⟩; have hFL := fs_call (‹_ ∧ FS w gc na _›).2 kL; have sL := fs_s hFL; (first | have nL := nb_alloc HF0 (below_undrew kL) | have nL := nb_alloc hFR kL | have nL := nb_keep nR kL | skip)) | (go_at_call 83; refine (HR.out _ (‹_ ∧ FS w gc na _›).2.1).mono ?_; rintro e wR ⟨rfl, kR⟩; have hFR := fs_call (‹_ ∧ FS w gc na _›).2 kR; have sR := fs_s hFR; (first | have nR := nb_alloc HF0 (below_undrew kR) | have nR := nb_alloc hFL kR | have nR := nb_keep nL kR | skip)) | (go_at_call 44; refine (HJ.out _ (‹_ ∧ FS w gc na _›).2.1).mono ?_; rintro e wJ ⟨rfl, kJ⟩; have hFJ := fs_call (‹_ ∧ FS w gc na _›).2 kJ; have sJ := fs_s hFJ; (first | have nJ := nb_alloc hFL kJ | have nJ := nb_alloc hFR kJ | have nJ := nb_keep nL kJ | have nJ := nb_keep nR kJ | skip); (first | have F9 := nb_fin hFJ nJ hs hcl hone hgl | have F9 := nb_fin (fs_alloc sJ (.cells na 46)).2 (nb_new hFJ) hs hcl hone hgl); obtain ⟨st9, hX9, hF9, th9⟩ := F9; have s9 := fs_s hF9))
  all_goals (
    have hz9 := hF9.2.1
    have hb9 := hF9.1
    clear s0 sL sR sJ s9 st9 th9 HL HR HJ hlit hF9 hFL hFR hFJ HF1 HF0
    go_upto_region 5 with fail
    apply wp_region_lit
    refine wpList_load_row rfl 46 (.tmp 5) rfl _ (by rfl) 46 cs.toArray _ _ hX9 Tryd.underlying46 rfl (by rw [hsr]; exact size46) ?_
    refine wpList_store_row rfl 46 (.tmp 3) (.tmp 30) rfl w.heap.size cs.toArray (by rfl) (by rfl) 46 na hz9 (by rw [hsr]; exact size46) (by rw [hsr, hs]) hrall ?_
    have hX8 := setRow_heap _ _ _ cs.toArray _ _ hz9
    have hB8 := below_setRow hb9 (Nat.le_refl _) cs.toArray
    go_wp2_with fail
    refine bodyPost_ret (v := .agg cs.toArray) ?_ rfl ⟨rfl, hB8⟩
    exact results_cell_row (p := 3) (ty := 46) rfl _ _ w.heap.size 46 cs.toArray (0, 0) _ rfl hX8 Tryd.underlying46 rfl (by rw [hsr]; exact size46))
/-- the fold of nodes. -/
theorem tfold_any (gc : Nat) : ∀ (m : Nat) (ns : List Nd) (g o c : Nat) (w : World), ns.length ≤ m → ns ≠ [] → ns.length ≤ 4096 → (∀ n ∈ ns, n.d.length = 32) → validB ns = true → ns.length ≤ c → c ≤ 9223372036854775807 → NAt w g o ns → g < w.heap.size → Blk w gc 97 #[fnV gc] → Tabs w →
    FoldsAt gc w g o ns.length c (foldV ns).arr
  | 0, ns, _, _, _, _, h, hne, _, _, _, _, _, _, _, _, _ => absurd (List.length_eq_zero_iff.1 (Nat.le_zero.1 h)) hne
  | m + 1, ns, g, o, c, w, h, hne, h9, hd, hv, hc, hc9, hN, hg, hgc, hT => by
    by_cases h2 : 2 ≤ ns.length
    · have hs := half_spec h2
      obtain ⟨hf, hhf⟩ : ∃ hf, halfN ns.length = hf := ⟨_, rfl⟩
      have eF := foldV_two h2
      rw [hhf] at eF hs
      have l1 : (ns.take hf).length = hf := by rw [List.length_take]; omega
      have l2 : (ns.drop hf).length = ns.length - hf := List.length_drop
      have n1 : ns.take hf ≠ [] := fun e => by rw [e] at l1; simp at l1; omega
      have n2 : ns.drop hf ≠ [] := fun e => by rw [e] at l2; simp at l2; omega
      have d1 : ∀ n ∈ ns.take hf, n.d.length = 32 := fun n hn => hd n (List.mem_of_mem_take hn)
      have d2 : ∀ n ∈ ns.drop hf, n.d.length = 32 := fun n hn => hd n (List.mem_of_mem_drop hn)
      have v12 := validB_split hf hv
      have hj : validB [foldV (ns.take hf), foldV (ns.drop hf)] = true := foldV_join n1 n2 (by rw [List.take_append_drop]; exact hd) (by rw [List.take_append_drop]; exact hv)
      rw [eF]
      refine fold_two gc g o c ns.length hf (foldV (ns.take hf)).arr (foldV (ns.drop hf)).arr _ w h2 h9 hhf hc hc9 (Nd.size _ (joinV_len _ _)) (nd_all _) hgc ?_ ?_ ?_
      · intro W hb
        have := tfold_any gc m (ns.take hf) g o c W (by omega) n1 (by omega) d1 v12.1 (by omega) hc9 ((hN.take hf).below hb hg) (Nat.lt_of_lt_of_le hg hb.size) (hgc.below hb hgc.lt) (hT.ext hb)
        rwa [l1] at this
      · intro W hb
        have := tfold_any gc m (ns.drop hf) g (o + hf * 34) (c - hf) W (by omega) n2 (by omega) d2 v12.2 (by omega) (by omega) ((hN.drop hf).below hb hg) (Nat.lt_of_lt_of_le hg hb.size) (hgc.below hb hgc.lt) (hT.ext hb)
        rwa [l2] at this
      · intro W hb
        exact join_yes _ _ W (foldV_len n1 d1) (foldV_len n2 d2) hj (hT.ext hb)
    · match ns, hne, h2, hd, hN, hc with
      | [n], _, _, hd, hN, hc =>
        rw [foldV_one]
        have h0 := hN 0 (by simp)
        rw [Nat.zero_mul, Nat.add_zero] at h0
        exact fold_one gc g o c n w (hd n (by simp)) hc hc9 h0 hg
      | _ :: _ :: _, _, h2, _, _, _ => exact absurd (by simp) h2
/-- a slice of nodes. -/
structure NS (w : World) (A : Option Addr) (n c : Nat) (ns : List Nd) : Prop where
  len : ns.length = n
  le : n ≤ c
  cap : c ≤ 9223372036854775807
  nil : A = none → c = 0
  at_ : 0 < n → ∃ g o, A = some ⟨g, o, none⟩ ∧ NAt w g o ns ∧ g < w.heap.size
  dig : ∀ x ∈ ns, x.d.length = 32
theorem NS.below {w w' : World} {A : Option Addr} {n c : Nat} {ns : List Nd} (h : NS w A n c ns) (hb : Below w.heap.size w w') : NS w' A n c ns :=
  ⟨h.len, h.le, h.cap, h.nil, fun hn => by
    obtain ⟨g, o, e, h1, h2⟩ := h.at_ hn
    exact ⟨g, o, e, h1.below hb h2, Nat.lt_of_lt_of_le h2 hb.size⟩, h.dig⟩
theorem NS.valid {w : World} {A : Option Addr} {n c : Nat} {ns : List Nd} (h : NS w A n c ns) (hn : n ≤ 100000) : Calls Tryd.prog 82 #[.slice A n c] w fun e w' => e = .returned (.bool (validB ns)) ∧ Below w.heap.size w w' := by
  rcases Nat.eq_zero_or_pos n with h0 | h0
  · subst h0
    obtain rfl := List.length_eq_zero_iff.1 h.len
    exact (valid_zero A c w).mono fun e w' ⟨h1, h2⟩ => ⟨h1, h2 ▸ Below.refl _ _⟩
  · obtain ⟨g, o, rfl, h1, h2⟩ := h.at_ h0
    exact valid_nodes g o n c ns w h.len hn h.le h.cap h1 h.dig h2
/-- whether nodes have a root. -/
def rootE (ns : List Nd) : Bool := decide (ns.length ≤ 4096) && validB ns
/-- the root of nodes. -/
def rootV (ns : List Nd) : Nd := if rootE ns then (if ns.length = 0 then ⟨tagB sumS [], 0, 0⟩ else foldV ns) else nd0
theorem root_start {w W1 : World} {na : Array Value} (h : w.alloc (.cells na 46) = W1) : Below w.heap.size w W1 ∧ Blk W1 w.heap.size 46 na := by
  subst h
  exact ⟨Below.alloc (Below.refl _ w) (Nat.le_refl _) _, Blk.new _ _ _⟩
theorem results_node2 {f : Func} (hf : f.results = #[.cell 2 46, .tmp 3]) {tmps : Array Value} {W : World} {g : Nat} {ar : Array Value} {e : Value} (h : Blk W g 46 ar) (hs : ar.size = 34) (h1 : tmps.getD 2 undef = .pointer (some ⟨g, 0, none⟩)) (h2 : tmps.getD 3 undef = e) :
    (results f tmps).run Tryd.prog W = .ok (.tuple #[.agg ar, e]) W := by
  rw [results_cell_tmp (p := 2) (u := 3) (ty := 46) hf, h1, h2]
  have hl := run_loadVar_row (P := Tryd.prog) W g 46 46 ar _ _ h Tryd.underlying46 rfl (by rw [hs]; exact size46)
  simp only [asAddr, Sem.run_pure, Result.andThen_ok, hl]
set_option maxRecDepth 100000 in
set_option maxHeartbeats 2000000 in
theorem root_big (A : Option Addr) (n c : Nat) (w : World) (hn : 4096 < n) (hn9 : n ≤ 9223372036854775807) : Calls Tryd.prog 42 #[.slice A n c] w fun e w' => e = .returned (.tuple #[.agg nd0.arr, .int .i64 410]) ∧ Below w.heap.size w w' := by
  obtain ⟨na, hna⟩ : ∃ na, nd0.arr = na := ⟨_, rfl⟩
  have hs : na.size = 34 := by rw [← hna]; rfl
  have hall : na.all (·.oneCell') = true := by rw [← hna]; exact nd0_all
  rw [hna]
  have HNA := Lib.hid hna
  clear hna
  have e0 : decide ((4096 : Int) < n) = true := decide_eq_true (by omega)
  go_enter Tryd.func42, Tryd.ntmps42
  go_upto_region 1 with fail
  generalize hW0 : w.alloc (Obj.cells _ 46) = W1
  have hzz : w.alloc (.cells na 46) = W1 := by rw [← HNA.out]; exact hW0
  clear hW0
  obtain ⟨hb, hz⟩ := root_start hzz
  clear hzz
  go_upto_region 2 with fail
  apply wp_region_lit
  refine wpList_load_row rfl 46 (.tmp 2) rfl w.heap.size rfl 46 na _ _ hz Tryd.underlying46 rfl (by rw [hs]; exact size46) ?_
  refine wpList_store_row rfl 46 (.tmp 2) (.tmp 13) rfl w.heap.size na (by rfl) (by rfl) 46 na hz (by rw [hs]; exact size46) rfl hall ?_
  rw [hz.setRow_same]
  go_wp2_with fail
  refine bodyPost_ret (v := .tuple #[.agg na, .int .i64 410]) ?_ rfl ⟨rfl, hb⟩
  exact results_node2 rfl hz hs rfl rfl
set_option maxRecDepth 100000 in
set_option maxHeartbeats 2000000 in
theorem root_bad (A : Option Addr) (n c : Nat) (ns : List Nd) (w : World) (h : NS w A n c ns) (hn : n ≤ 4096) (hv : validB ns = false) : Calls Tryd.prog 42 #[.slice A n c] w fun e w' => e = .returned (.tuple #[.agg nd0.arr, .int .i64 410]) ∧ Below w.heap.size w w' := by
  obtain ⟨na, hna⟩ : ∃ na, nd0.arr = na := ⟨_, rfl⟩
  have hs : na.size = 34 := by rw [← hna]; rfl
  have hall : na.all (·.oneCell') = true := by rw [← hna]; exact nd0_all
  rw [hna]
  have HNA := Lib.hid hna
  have HV := Lib.hid fun (W : World) (hb : Below w.heap.size w W) => hv ▸ (h.below hb).valid (by omega)
  clear hna
  have e0 : decide ((4096 : Int) < n) = false := decide_eq_false (by omega)
  go_enter Tryd.func42, Tryd.ntmps42
  go_upto_region 1 with fail
  generalize hW0 : w.alloc (Obj.cells _ 46) = W1
  have hzz : w.alloc (.cells na 46) = W1 := by rw [← HNA.out]; exact hW0
  clear hW0
  obtain ⟨hb, hz⟩ := root_start hzz
  clear hzz
  have HVV := Lib.hid (HV.out W1 hb)
  have HZ := Lib.hid hz; have HB := Lib.hid hb
  clear hz hb HV
  go_wp2_with fail
  refine HVV.out.mono ?_
  rintro e w3 ⟨rfl, k3⟩
  have hz := (HZ.out).below k3 (HZ.out).lt
  have hb := bl HB.out k3
  go_upto_region 2 with fail
  apply wp_region_lit
  refine wpList_load_row rfl 46 (.tmp 2) rfl w.heap.size rfl 46 na _ _ hz Tryd.underlying46 rfl (by rw [hs]; exact size46) ?_
  refine wpList_store_row rfl 46 (.tmp 2) (.tmp 13) rfl w.heap.size na (by rfl) (by rfl) 46 na hz (by rw [hs]; exact size46) rfl hall ?_
  rw [hz.setRow_same]
  go_wp2_with fail
  refine bodyPost_ret (v := .tuple #[.agg na, .int .i64 410]) ?_ rfl ⟨rfl, hb⟩
  exact results_node2 rfl hz hs rfl rfl
theorem build46_0 (d : List UInt8) (hd : d.length = 32) (w : World) : (Instr.build 46 #[(0, .agg (u8s d).toArray)]).run Tryd.prog w = .ok (.agg (Nd.arr ⟨d, 0, 0⟩)) w := by
  obtain ⟨i46, h46, z46, s46, _⟩ := info_parts info46
  obtain ⟨i41, h41, z41, s41, _⟩ := info_parts info41
  obtain ⟨i3, h3, z3, s3, _⟩ := info_parts info3
  have hn0 : nd0.arr.size = 34 := rfl
  have hu : (u8s d).toArray.size = 32 := by rw [List.size_toArray, u8s_length, hd]
  obtain ⟨r1, e1, q1, g1⟩ := fill_one (fun x => [(0, 32), (32, 1), (33, 1)][x]?) nd0.arr 0 (.agg (u8s d).toArray) [] 0 32 rfl hu (by omega)
  have hr : r1 = Nd.arr ⟨d, 0, 0⟩ := by
    apply Array.ext_getElem?
    intro k
    have eR : (Nd.arr ⟨d, 0, 0⟩)[k]? = (u8s d ++ [Value.int .i64 0, .int .i64 0])[k]? := List.getElem?_toArray
    rw [g1 k, eR]
    by_cases h1 : k < 32
    · rw [if_pos (by omega), List.getElem?_append_left (by rw [u8s_length, hd]; exact h1)]
      show (u8s d).toArray[k - 0]? = _
      rw [Nat.sub_zero, List.getElem?_toArray]
    · rw [List.getElem?_append_right (by rw [u8s_length, hd]; omega), u8s_length, hd, if_neg (by omega)]
      by_cases h2 : k = 32
      · subst h2; rfl
      · by_cases h3 : k = 33
        · subst h3; rfl
        · rw [Array.getElem?_eq_none (by omega), List.getElem?_eq_none (by show 2 ≤ k - 32; omega)]
  have hf : Instr.fill (fun x => [(0, 32), (32, 1), (33, 1)][x]?) nd0.arr [(0, .agg (u8s d).toArray)] = some (Nd.arr ⟨d, 0, 0⟩) := by
    rw [e1, hr]; rfl
  simp [Instr.build, zeroValue, run_underlying Tryd.underlying46, sizeOf, typeInfo, h46, h41, h3, z46, s41, s3]
  show Sem.run Tryd.prog (match Instr.fill (fun x => [(0, 32), (32, 1), (33, 1)][x]?) nd0.arr _ with | some cells => pure (Value.agg cells) | x => stuck "build: no such field, or a part of the wrong size") w = _
  rw [hf]
  rfl
theorem bs_nil0 (w : World) : BS w none 0 0 [] := ⟨rfl, Nat.le_refl _, by omega, fun _ => rfl, fun h => absurd h (by omega)⟩
theorem wpList_buildOne {w : World} {ops : Array Oper} {rest : List Oper} {o : Oper} {a : Act} {Q : Exit → Act → World → Prop} (hgd : o.guard = none) (t : TypeId) (i : Nat) (x : Operand) (ho : o.op = .build t #[(i, x)])
    (vx : Value) (hx : a.eval x = vx) (v : Value) (hr : (Instr.build t #[(i, vx)]).run Tryd.prog w = .ok v w) (h : wpList Tryd.prog ops Q rest (a.put o.dst v) w) : wpList Tryd.prog ops Q (o :: rest) a w := by
  refine wpList_plain hgd fun K hK => ?_
  unfold Oper.wp execOp
  simp only [ho, Sem.run_bind, Sem.run_pure, List.map_toArray, List.map_cons, List.map_nil, hx, hr, Result.andThen_ok]
  exact hK _ _ h
set_option maxRecDepth 100000 in
set_option maxHeartbeats 2000000 in
theorem root_none (A : Option Addr) (c : Nat) (w : World) (hT : Tabs w) : Calls Tryd.prog 42 #[.slice A (0 : Nat) c] w fun e w' => e = .returned (.tuple #[.agg (Nd.arr ⟨tagB sumS [], 0, 0⟩), .int .i64 0]) ∧ Below w.heap.size w w' := by
  obtain ⟨na, hna⟩ : ∃ na, nd0.arr = na := ⟨_, rfl⟩
  have hs : na.size = 34 := by rw [← hna]; rfl
  have HNA := Lib.hid hna
  have hd : (tagB sumS []).length = 32 := tagB_length _ _
  have HD : Hid (∀ W : World, Below w.heap.size w W → Calls Tryd.prog 40 #[.string ⟨sumS.toArray⟩, .slice none 0 0] W fun e w' => e = .returned (.agg (u8s (tagB sumS [])).toArray) ∧ Below W.heap.size W w') := Lib.hid fun W hb => tagged_any sumS none 0 0 [] W (by decide) (bs_nil0 W) (by decide) (hT.ext hb)
  have HBD := Lib.hid fun W => build46_0 (tagB sumS []) hd W
  have hsr : (Nd.arr ⟨tagB sumS [], 0, 0⟩).size = 34 := Nd.size _ hd
  have hrall := nd_all ⟨tagB sumS [], 0, 0⟩
  obtain ⟨R, hR⟩ : ∃ R, Nd.arr ⟨tagB sumS [], 0, 0⟩ = R := ⟨_, rfl⟩
  obtain ⟨es, hes⟩ : ∃ R, (u8s (tagB sumS [])).toArray = R := ⟨_, rfl⟩
  rw [hR] at hsr hrall ⊢
  simp only [hR, hes] at HBD
  simp only [hes] at HD
  have HV := Lib.hid fun (W : World) => valid_zero A c W
  clear hna hR hes hd
  go_enter Tryd.func42, Tryd.ntmps42
  go_upto_region 1 with fail
  generalize hW0 : w.alloc (Obj.cells _ 46) = W1
  have hzz : w.alloc (.cells na 46) = W1 := by rw [← HNA.out]; exact hW0
  clear hW0
  obtain ⟨hb, hz⟩ := root_start hzz
  clear hzz
  have HDD := Lib.hid (HD.out W1 hb)
  have HZ := Lib.hid hz; have HB := Lib.hid hb
  clear hz hb
  go_wp2_with fail
  refine (HV.out _).mono ?_
  rintro e w3 ⟨rfl, rfl⟩
  go_upto_region 4 with fail
  go_wp2_with fail
  refine HDD.out.mono ?_
  rintro e w4 ⟨rfl, k4⟩
  have hz := (HZ.out).below k4 (HZ.out).lt
  have hb := bl HB.out k4
  dsimp only
  go_step
  refine wpList_buildOne rfl 46 0 (.tmp 17) rfl (.agg es) (by rfl) (.agg R) (HBD.out _) ?_
  refine wpList_store_row rfl 46 (.tmp 2) (.tmp 18) rfl w.heap.size R (by rfl) (by rfl) 46 na hz (by rw [hsr]; exact size46) (by rw [hs, hsr]) hrall ?_
  have hz9 := setRow_heap _ _ _ R _ _ hz
  have hb9 := below_setRow hb (Nat.le_refl _) R
  go_wp2_with fail
  refine bodyPost_ret (v := .tuple #[.agg R, .int .i64 0]) ?_ rfl ⟨rfl, hb9⟩
  exact results_node2 rfl hz9 hsr rfl rfl
set_option maxRecDepth 100000 in
set_option maxHeartbeats 2000000 in
theorem root_some (A : Option Addr) (n c : Nat) (ns : List Nd) (w : World) (h : NS w A n c ns) (hn : n ≤ 4096) (hn0 : 0 < n) (hv : validB ns = true) (hT : Tabs w) : Calls Tryd.prog 42 #[.slice A n c] w fun e w' => e = .returned (.tuple #[.agg (foldV ns).arr, .int .i64 0]) ∧ Below w.heap.size w w' := by
  obtain ⟨na, hna⟩ : ∃ na, nd0.arr = na := ⟨_, rfl⟩
  have hs : na.size = 34 := by rw [← hna]; rfl
  have HNA := Lib.hid hna
  have HV := Lib.hid fun (W : World) (hb : Below w.heap.size w W) => hv ▸ (h.below hb).valid (by omega)
  have hne : ns ≠ [] := fun e => by have := h.len; rw [e] at this; simp at this; omega
  have hsr : (foldV ns).arr.size = 34 := Nd.size _ (foldV_len hne h.dig)
  have hrall := nd_all (foldV ns)
  have HF : Hid (∀ (W : World) (gc : Nat), Below w.heap.size w W → Blk W gc 97 #[fnV gc] → Calls Tryd.prog 83 #[.slice A n c, .pointer (some ⟨gc, 0, none⟩)] W fun e w' => e = .returned (.agg (foldV ns).arr) ∧ Below W.heap.size W w') := Lib.hid fun W gc hb hgc => by
    obtain ⟨g, o, e, h1, h2⟩ := h.at_ hn0
    have := tfold_any gc _ ns g o c W (Nat.le_refl _) hne (by rw [h.len]; exact hn) h.dig hv (by rw [h.len]; exact h.le) h.cap (h1.below hb h2) (Nat.lt_of_lt_of_le h2 hb.size) hgc (hT.ext hb)
    rw [h.len] at this
    rw [e]
    exact this
  obtain ⟨R, hR⟩ : ∃ R, (foldV ns).arr = R := ⟨_, rfl⟩
  rw [hR] at hsr hrall ⊢
  simp only [hR] at HF
  clear hna hR
  have e0 : decide ((4096 : Int) < n) = false := decide_eq_false (by omega)
  have e1 : decide ((n : Int) = 0) = false := decide_eq_false (by omega)
  have hmf : ∀ (fn : Fn) (first cap : Array Value) (w : World), (Instr.makeFunc fn first cap).run Tryd.prog w = .ok (.func fn first cap) w := fun _ _ _ _ => rfl
  go_enter Tryd.func42, Tryd.ntmps42
  go_upto_region 1 with fail
  generalize hW0 : w.alloc (Obj.cells _ 46) = W1
  have hzz : w.alloc (.cells na 46) = W1 := by rw [← HNA.out]; exact hW0
  clear hW0
  obtain ⟨hb, hz⟩ := root_start hzz
  clear hzz
  have HVV := Lib.hid (HV.out W1 hb)
  have HZ := Lib.hid hz; have HB := Lib.hid hb
  clear hz hb HV
  go_wp2_with fail
  refine HVV.out.mono ?_
  rintro e w3 ⟨rfl, k3⟩
  have hz := (HZ.out).below k3 (HZ.out).lt
  have hb := bl HB.out k3
  clear k3 HZ HB HVV
  go_upto_region 7 with fail
  have hg4 : Blk (w3.alloc (.cells #[.func (.func 83) #[] #[.pointer (some ⟨w3.heap.size, 0, none⟩)]] 97)) w3.heap.size 97 #[fnV w3.heap.size] := Blk.new _ _ _
  have hz4 := hz.alloc (.cells #[.func (.func 83) #[] #[.pointer (some ⟨w3.heap.size, 0, none⟩)]] 97)
  have hb4 := hb.alloc hb.size (.cells #[.func (.func 83) #[] #[.pointer (some ⟨w3.heap.size, 0, none⟩)]] 97)
  generalize w3.alloc (.cells #[.func (.func 83) #[] #[.pointer (some ⟨w3.heap.size, 0, none⟩)]] 97) = w4 at hg4 hz4 hb4 ⊢
  have hc4 : w4.cell? ⟨w3.heap.size, 0, none⟩ = some (.func (.func 83) #[] #[.pointer (some ⟨w3.heap.size, 0, none⟩)]) := hg4.cell 0
  have HFF := Lib.hid (HF.out w4 _ hb4 hg4)
  have HZ := Lib.hid hz4; have HB := Lib.hid hb4
  clear hz hb hz4 hb4 hg4
  go_wp2_with fail
  refine HFF.out.mono ?_
  rintro e w5 ⟨rfl, k5⟩
  have hz := (HZ.out).below k5 (HZ.out).lt
  have hb := bl HB.out k5
  dsimp only
  go_step
  refine wpList_store_row rfl 46 (.tmp 2) (.tmp 22) rfl w.heap.size R (by rfl) (by rfl) 46 na hz (by rw [hsr]; exact size46) (by rw [hs, hsr]) hrall ?_
  have hz9 := setRow_heap _ _ _ R _ _ hz
  have hb9 := below_setRow hb (Nat.le_refl _) R
  go_wp2_with fail
  refine bodyPost_ret (v := .tuple #[.agg R, .int .i64 0]) ?_ rfl ⟨rfl, hb9⟩
  exact results_node2 rfl hz9 hsr rfl rfl
/-- tree.Root. -/
theorem root_any (A : Option Addr) (n c : Nat) (ns : List Nd) (w : World) (h : NS w A n c ns) (hT : Tabs w) : Calls Tryd.prog 42 #[.slice A n c] w fun e w' => e = .returned (.tuple #[.agg (rootV ns).arr, .int .i64 (if rootE ns then 0 else 410)]) ∧ Below w.heap.size w w' := by
  have hl := h.len
  have hle := h.le
  have hcap := h.cap
  unfold rootV rootE
  rw [hl]
  by_cases hn : n ≤ 4096
  · rw [decide_eq_true hn, Bool.true_and]
    cases hv : validB ns
    · exact root_bad A n c ns w h hn hv
    · by_cases h0 : n = 0
      · subst h0
        exact root_none A c w hT
      · simp only [if_neg h0, if_true]
        exact root_some A n c ns w h hn (by omega) hv hT
  · rw [decide_eq_false hn, Bool.false_and]
    exact root_big A n c w (by omega) (by omega)
end Go.Proofs.YtedokiemlkccaaaDoor
