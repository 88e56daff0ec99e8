/- Salt, Leaf, valid and half of package tree. -/
import Derived.Test.YtedokiemlkccaaaDoorTA
import Derived.Deep.MidRow
import Derived.Great.FillDense
set_option linter.all false
namespace Go.Proofs.YtedokiemlkccaaaDoor
open Go.RowKit
/-- a node: its digest, its sums. -/
structure Nd where
  d : List UInt8
  c : Int
  p : Int
def Nd.cells (n : Nd) : List Value := u8s n.d ++ [.int .i64 n.c, .int .i64 n.p]
def Nd.arr (n : Nd) : Array Value := n.cells.toArray
def nd0 : Nd := ⟨List.replicate 32 0, 0, 0⟩
theorem size46 : (Tryd.prog.info? 46).map (·.size) = some 34 := by kernel_rfl
theorem info46 : (Tryd.prog.info? 46).map (fun i => (i.zero, i.size, i.bytes)) = some (some (.agg nd0.arr), 34, 48) := by kernel_rfl
theorem info41 : (Tryd.prog.info? 41).map (fun i => (i.zero, i.size, i.bytes)) = some (some (.agg z32), 32, 32) := by kernel_rfl
theorem info3 : (Tryd.prog.info? 3).map (fun i => (i.zero, i.size, i.bytes)) = some (some (.int .i64 0), 1, 8) := by kernel_rfl
theorem fill_one (place : Nat → Option (Nat × Nat)) (cells : Array Value) (i : Nat) (v : Value) (rest : List (Nat × Value)) (off size : Nat) (hp : place i = some (off, size)) (hs : v.cells.size = size) (hfit : off + size ≤ cells.size) :
    ∃ r, Instr.fill place cells ((i, v) :: rest) = Instr.fill place r rest ∧ r.size = cells.size ∧ ∀ k, r[k]? = if off ≤ k ∧ k < off + size then v.cells[k - off]? else cells[k]? := by
  refine ⟨_, ?_, (?_ : Array.size (v.cells.toList.zipIdx.foldl (fun cs (x : Value × Nat) => cs.setIfInBounds (off + x.2) x.1) cells) = _), fun k => ?_⟩
  · rw [Instr.fill]
    simp only [hp]
    rw [if_neg (by simp only [hs]; simp; omega), ← Array.foldl_toList, Array.toList_zipIdx]
  · exact (Great.foldl_set off v.cells.toList 0 cells).1
  · rw [(Great.foldl_set off v.cells.toList 0 cells).2 k, Nat.add_zero, Array.length_toList, hs, Array.getElem?_toList]
    by_cases hk : off ≤ k ∧ k < off + size
    · rw [if_pos hk, if_pos ⟨hk.1, hk.2, by omega⟩]
    · rw [if_neg hk, if_neg (fun h => hk ⟨h.1, h.2.1⟩)]
theorem Nd.size (n : Nd) (h : n.d.length = 32) : n.arr.size = 34 := by
  unfold Nd.arr Nd.cells; rw [List.size_toArray, List.length_append, u8s_length, h]; rfl
theorem build46 (d : List UInt8) (hd : d.length = 32) (c p : Int) (w : World) : (Instr.build 46 #[(0, .agg (u8s d).toArray), (1, .int .i64 c), (2, .int .i64 p)]).run Tryd.prog w = .ok (.agg (Nd.arr ⟨d, c, p⟩)) w := by
  obtain ⟨i46, h46, z46, s46, _⟩ := info_parts info46
  obtain ⟨i41, h41, z41, s41, _⟩ := info_parts info41
  obtain ⟨i3, h3, z3, s3, _⟩ := info_parts info3
  have hn0 : nd0.arr.size = 34 := rfl
  have hu : (u8s d).toArray.size = 32 := by rw [List.size_toArray, u8s_length, hd]
  obtain ⟨r1, e1, q1, g1⟩ := fill_one (fun x => [(0, 32), (32, 1), (33, 1)][x]?) nd0.arr 0 (.agg (u8s d).toArray) [(1, .int .i64 c), (2, .int .i64 p)] 0 32 rfl hu (by omega)
  obtain ⟨r2, e2, q2, g2⟩ := fill_one (fun x => [(0, 32), (32, 1), (33, 1)][x]?) r1 1 (.int .i64 c) [(2, .int .i64 p)] 32 1 rfl rfl (by omega)
  obtain ⟨r3, e3, q3, g3⟩ := fill_one (fun x => [(0, 32), (32, 1), (33, 1)][x]?) r2 2 (.int .i64 p) [] 33 1 rfl rfl (by omega)
  have hr : r3 = Nd.arr ⟨d, c, p⟩ := by
    apply Array.ext_getElem?
    intro k
    have eR : (Nd.arr ⟨d, c, p⟩)[k]? = (u8s d ++ [Value.int .i64 c, .int .i64 p])[k]? := List.getElem?_toArray
    rw [g3 k, g2 k, g1 k, eR]
    by_cases h1 : k < 32
    · rw [if_neg (by omega), if_neg (by omega), if_pos (by omega), List.getElem?_append_left (by rw [u8s_length, hd]; exact h1)]
      show (u8s d).toArray[k - 0]? = _
      rw [Nat.sub_zero, List.getElem?_toArray]
    · rw [List.getElem?_append_right (by rw [u8s_length, hd]; omega), u8s_length, hd]
      by_cases h2 : k = 32
      · subst h2; rfl
      · by_cases h3 : k = 33
        · subst h3; rfl
        · rw [if_neg (by omega), if_neg (by omega), if_neg (by omega), Array.getElem?_eq_none (by omega), List.getElem?_eq_none (by show 2 ≤ k - 32; omega)]
  have hf : Instr.fill (fun x => [(0, 32), (32, 1), (33, 1)][x]?) nd0.arr [(0, .agg (u8s d).toArray), (1, .int .i64 c), (2, .int .i64 p)] = some (Nd.arr ⟨d, c, p⟩) := by
    rw [e1, e2, e3, hr]; rfl
  simp [Instr.build, zeroValue, run_underlying Tryd.underlying46, sizeOf, typeInfo, h46, h41, h3, z46, s41, s3]
  show Sem.run Tryd.prog (match Instr.fill (fun x => [(0, 32), (32, 1), (33, 1)][x]?) nd0.arr _ with | some cells => pure (Value.agg cells) | x => stuck "build: no such field, or a part of the wrong size") w = _
  rw [hf]
  rfl
def saltS : List UInt8 := [115, 97, 108, 116]
def lineS : List UInt8 := [108, 105, 110, 101]
def sumS : List UInt8 := [115, 117, 109]
/-- the salt of a leaf. -/
def saltV (d : List UInt8) (k a : Int) : List UInt8 := tagB saltS (d ++ encL [k, a])
set_option maxRecDepth 100000 in
/-- tree.Salt. -/
theorem tsalt_any (d : List UInt8) (k a : Int) (w : World) (hd : d.length = 32) (hT : Tabs w) :
    Calls Tryd.prog 56 #[.agg (u8s d).toArray, .int .i64 k, .int .i64 a] w fun e w' => e = .returned (.agg (u8s (saltV d k a)).toArray) ∧ Below w.heap.size w w' := by
  obtain ⟨ar, har⟩ : ∃ ar, (u8s d).toArray = ar := ⟨_, rfl⟩
  have HAR := Lib.hid har
  rw [har]
  obtain ⟨es, hes⟩ : ∃ es, (u8s (saltV d k a)).toArray = es := ⟨_, rfl⟩
  have hsz3 : es.size = 32 := by rw [← hes, List.size_toArray, u8s_length]; exact tagB_length _ _
  have hall : es.all (·.oneCell') = true := by rw [← hes]; exact u8s_all _
  rw [hes]
  have HES := Lib.hid hes
  have HT := Lib.hid hT
  clear har hes hT
  go_enter Tryd.func56, Tryd.ntmps56
  go_upto_region 1 with fail
  have hA : Blk ((w.alloc (.cells ar 41)).alloc (.cells z32 41)) w.heap.size 41 (u8s d).toArray := by rw [HAR.out]; exact (Blk.new _ _ _).alloc _
  have hD : Blk ((w.alloc (.cells ar 41)).alloc (.cells z32 41)) (w.heap.size + 1) 41 z32 := by
    have := Blk.new (w.alloc (.cells ar 41)) 41 z32
    rwa [World.size_alloc] at this
  have hb1 : Below w.heap.size w ((w.alloc (.cells ar 41)).alloc (.cells z32 41)) := ((Below.refl _ w).alloc (Nat.le_refl _) _).alloc (by simp) _
  generalize hW0 : (w.alloc (Obj.cells ar 41)).alloc (Obj.cells _ 41) = W1
  have hzz : (w.alloc (.cells ar 41)).alloc (.cells z32 41) = W1 := hW0
  rw [hzz] at hA hD hb1
  clear hW0 hzz
  go_wp2_with fail
  have hz : Blk (W1.alloc (.cells #[.int .i64 k, .int .i64 a] 3)) W1.heap.size 3 (ints [k, a]) := Blk.new _ _ _
  have hA2 := hA.alloc (.cells #[.int .i64 k, .int .i64 a] 3)
  have hD2 := hD.alloc (.cells #[.int .i64 k, .int .i64 a] 3)
  have hb2 := hb1.alloc hb1.size (.cells #[.int .i64 k, .int .i64 a] 3)
  have ch := thash_any saltS ⟨w.heap.size, 0, none⟩ 32 32 W1.heap.size 2 d [k, a] _ (by decide) (z32_blk_bytes hA2 hd) (by omega) rfl (by omega) (by omega) hz ((HT.out).ext hb2)
  rw [show tagB saltS (d ++ encL [k, a]) = saltV d k a from rfl, HES.out] at ch
  have CH := Lib.hid ch
  clear ch hz hA2 hA
  refine CH.out.mono ?_
  rintro e w3 ⟨rfl, k3⟩
  have b3 := bl hb2 k3
  have hD3 := hD2.below k3 hD2.lt
  clear CH hb2 hD2 k3 hb1 hD
  dsimp only
  go_step
  refine wpList_store_row rfl 41 (.tmp 6) (.tmp 11) rfl (w.heap.size + 1) es (by rfl) (by rfl) 41 z32 hD3 (by rw [hsz3]; kernel_rfl) (by rw [hsz3]; rfl) hall ?_
  have hD7 : Blk (w3.setRow (w.heap.size + 1) es) (w.heap.size + 1) 41 es := setRow_heap _ _ _ _ _ _ hD3
  have hB7 : Below w.heap.size w (w3.setRow (w.heap.size + 1) es) := below_setRow b3 (by omega) _
  generalize w3.setRow (w.heap.size + 1) es = w7 at hD7 hB7 ⊢
  apply wpList_nil
  go_wp2_with fail
  refine bodyPost_ret (v := .agg es) ?_ rfl ⟨rfl, hB7⟩
  exact results_cell_row (p := 6) (ty := 41) rfl _ w7 (w.heap.size + 1) 41 es (0, 0) _ rfl hD7 Tryd.underlying41 rfl (by rw [hsz3]; kernel_rfl)
/-- a line of a transcript. -/
structure Ln where
  co : Int
  te : Int
  gr : Int
  cr : Int
  ca : Int
def Ln.arr (l : Ln) : Array Value := #[.int .i64 l.co, .int .i64 l.te, .int .i64 l.gr, .int .i64 l.cr, .int .i64 l.ca]
def Ln.ok (l : Ln) : Bool := decide (0 ≤ l.co ∧ l.co < 4096 ∧ 0 ≤ l.te ∧ l.te < 1024 ∧ 0 ≤ l.gr ∧ l.gr ≤ 12 ∧ 0 ≤ l.cr ∧ l.cr ≤ 60 ∧ 0 ≤ l.ca ∧ l.ca < 7)
theorem results_node {f : Func} (hf : f.results = #[.cell 4 46, .tmp 5]) {tmps : Array Value} {W : World} {g : Nat} {ar : Array Value} {e : Value} (h : Blk W g 46 ar) (hs : ar.size = 34) (h1 : tmps.getD 4 undef = .pointer (some ⟨g, 0, none⟩)) (h2 : tmps.getD 5 undef = e) :
    (results f tmps).run Tryd.prog W = .ok (.tuple #[.agg ar, e]) W := by
  rw [results_cell_tmp (p := 4) (u := 5) (ty := 46) hf, h1, h2]
  have hl := run_loadVar_row (P := Tryd.prog) W g 46 46 ar _ _ h Tryd.underlying46 rfl (by rw [hs]; exact size46)
  simp only [asAddr, Sem.run_pure, Result.andThen_ok, hl]
theorem nd_all (n : Nd) : n.arr.all (·.oneCell') = true := by
  rw [Array.all_eq_true_iff_forall_mem]
  intro v hv
  unfold Nd.arr Nd.cells at hv
  rw [List.mem_toArray, List.mem_append] at hv
  rcases hv with hv | hv
  · exact u8s_one _ v hv
  · simp only [List.mem_cons, List.not_mem_nil, or_false] at hv
    rcases hv with rfl | rfl <;> rfl
theorem nd0_all : nd0.arr.all (·.oneCell') = true := nd_all nd0
theorem leaf_start {w W1 : World} {l : Ln} {ar na : Array Value} (h : ((w.alloc (.cells l.arr 65)).alloc (.cells ar 41)).alloc (.cells na 46) = W1) :
    Below w.heap.size w W1 ∧ Blk W1 w.heap.size 65 l.arr ∧ Blk W1 (w.heap.size + 2) 46 na := by
  subst h
  refine ⟨(((Below.refl _ w).alloc (Nat.le_refl _) _).alloc (by simp) _).alloc (by simp; omega) _, ((Blk.new _ _ _).alloc _).alloc _, ?_⟩
  have := Blk.new ((w.alloc (.cells l.arr 65)).alloc (.cells ar 41)) 46 na
  rwa [World.size_alloc, World.size_alloc] at this
set_option maxRecDepth 100000 in
set_option maxHeartbeats 1000000 in
theorem leaf_no0 (co te gr cr ca : Int) (ar : Array Value) (w : World) (e0 : decide (co < 0) = true) : Calls Tryd.prog 54 #[.agg (Ln.arr ⟨co, te, gr, cr, ca⟩), .agg ar] w fun e w' => e = .returned (.tuple #[.agg nd0.arr, .int .i64 410]) ∧ Below w.heap.size w w' := by
  obtain ⟨na, hna⟩ : ∃ na, nd0.arr = na := ⟨_, rfl⟩
  have hs : na.size = 34 := by rw [← hna]; rfl
  have hall : na.all (·.oneCell') = true := by rw [← hna]; exact nd0_all
  rw [hna]
  have HNA := Lib.hid hna
  clear hna
  go_enter Tryd.func54, Tryd.ntmps54
  go_upto_region 1 with fail
  generalize hW0 : ((w.alloc (Obj.cells _ 65)).alloc (Obj.cells ar 41)).alloc (Obj.cells _ 46) = W1
  have hzz : ((w.alloc (.cells (Ln.arr ⟨co, te, gr, cr, ca⟩) 65)).alloc (.cells ar 41)).alloc (.cells na 46) = W1 := by rw [← HNA.out]; exact hW0
  clear hW0
  obtain ⟨hb1, hL, hN⟩ := leaf_start hzz
  clear hzz
  have a0 : W1.cell? ⟨w.heap.size, 0, none⟩ = some (.int .i64 co) := hL.cell 0
  have a1 : W1.cell? ⟨w.heap.size, 1, none⟩ = some (.int .i64 te) := hL.cell 1
  have a2 : W1.cell? ⟨w.heap.size, 2, none⟩ = some (.int .i64 gr) := hL.cell 2
  have a3 : W1.cell? ⟨w.heap.size, 3, none⟩ = some (.int .i64 cr) := hL.cell 3
  have a4 : W1.cell? ⟨w.heap.size, 4, none⟩ = some (.int .i64 ca) := hL.cell 4
  have HB1 := Lib.hid hb1; have HN := Lib.hid hN
  clear hb1 hL hN
  go_upto_region 2 with fail
  have hN := HN.out
  apply wp_region_lit
  refine wpList_load_row rfl 46 (.tmp 4) rfl (w.heap.size + 2) rfl 46 na _ _ hN Tryd.underlying46 rfl (by rw [hs]; exact size46) ?_
  refine wpList_store_row rfl 46 (.tmp 4) (.tmp 54) rfl (w.heap.size + 2) na (by rfl) (by rfl) 46 na hN (by rw [hs]; exact size46) rfl hall ?_
  rw [hN.setRow_same]
  go_wp2_with fail
  refine bodyPost_ret (v := .tuple #[.agg na, .int .i64 410]) ?_ rfl ⟨rfl, HB1.out⟩
  exact results_node rfl hN hs rfl rfl
set_option maxRecDepth 100000 in
set_option maxHeartbeats 1000000 in
theorem leaf_no1 (co te gr cr ca : Int) (ar : Array Value) (w : World) (e0 : decide (co < 0) = false) (e1 : decide (4096 ≤ co) = true) : Calls Tryd.prog 54 #[.agg (Ln.arr ⟨co, te, gr, cr, ca⟩), .agg ar] w fun e w' => e = .returned (.tuple #[.agg nd0.arr, .int .i64 410]) ∧ Below w.heap.size w w' := by
  obtain ⟨na, hna⟩ : ∃ na, nd0.arr = na := ⟨_, rfl⟩
  have hs : na.size = 34 := by rw [← hna]; rfl
  have hall : na.all (·.oneCell') = true := by rw [← hna]; exact nd0_all
  rw [hna]
  have HNA := Lib.hid hna
  clear hna
  go_enter Tryd.func54, Tryd.ntmps54
  go_upto_region 1 with fail
  generalize hW0 : ((w.alloc (Obj.cells _ 65)).alloc (Obj.cells ar 41)).alloc (Obj.cells _ 46) = W1
  have hzz : ((w.alloc (.cells (Ln.arr ⟨co, te, gr, cr, ca⟩) 65)).alloc (.cells ar 41)).alloc (.cells na 46) = W1 := by rw [← HNA.out]; exact hW0
  clear hW0
  obtain ⟨hb1, hL, hN⟩ := leaf_start hzz
  clear hzz
  have a0 : W1.cell? ⟨w.heap.size, 0, none⟩ = some (.int .i64 co) := hL.cell 0
  have a1 : W1.cell? ⟨w.heap.size, 1, none⟩ = some (.int .i64 te) := hL.cell 1
  have a2 : W1.cell? ⟨w.heap.size, 2, none⟩ = some (.int .i64 gr) := hL.cell 2
  have a3 : W1.cell? ⟨w.heap.size, 3, none⟩ = some (.int .i64 cr) := hL.cell 3
  have a4 : W1.cell? ⟨w.heap.size, 4, none⟩ = some (.int .i64 ca) := hL.cell 4
  have HB1 := Lib.hid hb1; have HN := Lib.hid hN
  clear hb1 hL hN
  go_upto_region 2 with fail
  have hN := HN.out
  apply wp_region_lit
  refine wpList_load_row rfl 46 (.tmp 4) rfl (w.heap.size + 2) rfl 46 na _ _ hN Tryd.underlying46 rfl (by rw [hs]; exact size46) ?_
  refine wpList_store_row rfl 46 (.tmp 4) (.tmp 54) rfl (w.heap.size + 2) na (by rfl) (by rfl) 46 na hN (by rw [hs]; exact size46) rfl hall ?_
  rw [hN.setRow_same]
  go_wp2_with fail
  refine bodyPost_ret (v := .tuple #[.agg na, .int .i64 410]) ?_ rfl ⟨rfl, HB1.out⟩
  exact results_node rfl hN hs rfl rfl
set_option maxRecDepth 100000 in
set_option maxHeartbeats 1000000 in
theorem leaf_no2 (co te gr cr ca : Int) (ar : Array Value) (w : World) (e0 : decide (co < 0) = false) (e1 : decide (4096 ≤ co) = false) (e2 : decide (te < 0) = true) : Calls Tryd.prog 54 #[.agg (Ln.arr ⟨co, te, gr, cr, ca⟩), .agg ar] w fun e w' => e = .returned (.tuple #[.agg nd0.arr, .int .i64 410]) ∧ Below w.heap.size w w' := by
  obtain ⟨na, hna⟩ : ∃ na, nd0.arr = na := ⟨_, rfl⟩
  have hs : na.size = 34 := by rw [← hna]; rfl
  have hall : na.all (·.oneCell') = true := by rw [← hna]; exact nd0_all
  rw [hna]
  have HNA := Lib.hid hna
  clear hna
  go_enter Tryd.func54, Tryd.ntmps54
  go_upto_region 1 with fail
  generalize hW0 : ((w.alloc (Obj.cells _ 65)).alloc (Obj.cells ar 41)).alloc (Obj.cells _ 46) = W1
  have hzz : ((w.alloc (.cells (Ln.arr ⟨co, te, gr, cr, ca⟩) 65)).alloc (.cells ar 41)).alloc (.cells na 46) = W1 := by rw [← HNA.out]; exact hW0
  clear hW0
  obtain ⟨hb1, hL, hN⟩ := leaf_start hzz
  clear hzz
  have a0 : W1.cell? ⟨w.heap.size, 0, none⟩ = some (.int .i64 co) := hL.cell 0
  have a1 : W1.cell? ⟨w.heap.size, 1, none⟩ = some (.int .i64 te) := hL.cell 1
  have a2 : W1.cell? ⟨w.heap.size, 2, none⟩ = some (.int .i64 gr) := hL.cell 2
  have a3 : W1.cell? ⟨w.heap.size, 3, none⟩ = some (.int .i64 cr) := hL.cell 3
  have a4 : W1.cell? ⟨w.heap.size, 4, none⟩ = some (.int .i64 ca) := hL.cell 4
  have HB1 := Lib.hid hb1; have HN := Lib.hid hN
  clear hb1 hL hN
  go_upto_region 2 with fail
  have hN := HN.out
  apply wp_region_lit
  refine wpList_load_row rfl 46 (.tmp 4) rfl (w.heap.size + 2) rfl 46 na _ _ hN Tryd.underlying46 rfl (by rw [hs]; exact size46) ?_
  refine wpList_store_row rfl 46 (.tmp 4) (.tmp 54) rfl (w.heap.size + 2) na (by rfl) (by rfl) 46 na hN (by rw [hs]; exact size46) rfl hall ?_
  rw [hN.setRow_same]
  go_wp2_with fail
  refine bodyPost_ret (v := .tuple #[.agg na, .int .i64 410]) ?_ rfl ⟨rfl, HB1.out⟩
  exact results_node rfl hN hs rfl rfl
set_option maxRecDepth 100000 in
set_option maxHeartbeats 1000000 in
theorem leaf_no3 (co te gr cr ca : Int) (ar : Array Value) (w : World) (e0 : decide (co < 0) = false) (e1 : decide (4096 ≤ co) = false) (e2 : decide (te < 0) = false) (e3 : decide (1024 ≤ te) = true) : Calls Tryd.prog 54 #[.agg (Ln.arr ⟨co, te, gr, cr, ca⟩), .agg ar] w fun e w' => e = .returned (.tuple #[.agg nd0.arr, .int .i64 410]) ∧ Below w.heap.size w w' := by
  obtain ⟨na, hna⟩ : ∃ na, nd0.arr = na := ⟨_, rfl⟩
  have hs : na.size = 34 := by rw [← hna]; rfl
  have hall : na.all (·.oneCell') = true := by rw [← hna]; exact nd0_all
  rw [hna]
  have HNA := Lib.hid hna
  clear hna
  go_enter Tryd.func54, Tryd.ntmps54
  go_upto_region 1 with fail
  generalize hW0 : ((w.alloc (Obj.cells _ 65)).alloc (Obj.cells ar 41)).alloc (Obj.cells _ 46) = W1
  have hzz : ((w.alloc (.cells (Ln.arr ⟨co, te, gr, cr, ca⟩) 65)).alloc (.cells ar 41)).alloc (.cells na 46) = W1 := by rw [← HNA.out]; exact hW0
  clear hW0
  obtain ⟨hb1, hL, hN⟩ := leaf_start hzz
  clear hzz
  have a0 : W1.cell? ⟨w.heap.size, 0, none⟩ = some (.int .i64 co) := hL.cell 0
  have a1 : W1.cell? ⟨w.heap.size, 1, none⟩ = some (.int .i64 te) := hL.cell 1
  have a2 : W1.cell? ⟨w.heap.size, 2, none⟩ = some (.int .i64 gr) := hL.cell 2
  have a3 : W1.cell? ⟨w.heap.size, 3, none⟩ = some (.int .i64 cr) := hL.cell 3
  have a4 : W1.cell? ⟨w.heap.size, 4, none⟩ = some (.int .i64 ca) := hL.cell 4
  have HB1 := Lib.hid hb1; have HN := Lib.hid hN
  clear hb1 hL hN
  go_upto_region 2 with fail
  have hN := HN.out
  apply wp_region_lit
  refine wpList_load_row rfl 46 (.tmp 4) rfl (w.heap.size + 2) rfl 46 na _ _ hN Tryd.underlying46 rfl (by rw [hs]; exact size46) ?_
  refine wpList_store_row rfl 46 (.tmp 4) (.tmp 54) rfl (w.heap.size + 2) na (by rfl) (by rfl) 46 na hN (by rw [hs]; exact size46) rfl hall ?_
  rw [hN.setRow_same]
  go_wp2_with fail
  refine bodyPost_ret (v := .tuple #[.agg na, .int .i64 410]) ?_ rfl ⟨rfl, HB1.out⟩
  exact results_node rfl hN hs rfl rfl
set_option maxRecDepth 100000 in
set_option maxHeartbeats 1000000 in
theorem leaf_no4 (co te gr cr ca : Int) (ar : Array Value) (w : World) (e0 : decide (co < 0) = false) (e1 : decide (4096 ≤ co) = false) (e2 : decide (te < 0) = false) (e3 : decide (1024 ≤ te) = false) (e4 : decide (gr < 0) = true) : Calls Tryd.prog 54 #[.agg (Ln.arr ⟨co, te, gr, cr, ca⟩), .agg ar] w fun e w' => e = .returned (.tuple #[.agg nd0.arr, .int .i64 410]) ∧ Below w.heap.size w w' := by
  obtain ⟨na, hna⟩ : ∃ na, nd0.arr = na := ⟨_, rfl⟩
  have hs : na.size = 34 := by rw [← hna]; rfl
  have hall : na.all (·.oneCell') = true := by rw [← hna]; exact nd0_all
  rw [hna]
  have HNA := Lib.hid hna
  clear hna
  go_enter Tryd.func54, Tryd.ntmps54
  go_upto_region 1 with fail
  generalize hW0 : ((w.alloc (Obj.cells _ 65)).alloc (Obj.cells ar 41)).alloc (Obj.cells _ 46) = W1
  have hzz : ((w.alloc (.cells (Ln.arr ⟨co, te, gr, cr, ca⟩) 65)).alloc (.cells ar 41)).alloc (.cells na 46) = W1 := by rw [← HNA.out]; exact hW0
  clear hW0
  obtain ⟨hb1, hL, hN⟩ := leaf_start hzz
  clear hzz
  have a0 : W1.cell? ⟨w.heap.size, 0, none⟩ = some (.int .i64 co) := hL.cell 0
  have a1 : W1.cell? ⟨w.heap.size, 1, none⟩ = some (.int .i64 te) := hL.cell 1
  have a2 : W1.cell? ⟨w.heap.size, 2, none⟩ = some (.int .i64 gr) := hL.cell 2
  have a3 : W1.cell? ⟨w.heap.size, 3, none⟩ = some (.int .i64 cr) := hL.cell 3
  have a4 : W1.cell? ⟨w.heap.size, 4, none⟩ = some (.int .i64 ca) := hL.cell 4
  have HB1 := Lib.hid hb1; have HN := Lib.hid hN
  clear hb1 hL hN
  go_upto_region 2 with fail
  have hN := HN.out
  apply wp_region_lit
  refine wpList_load_row rfl 46 (.tmp 4) rfl (w.heap.size + 2) rfl 46 na _ _ hN Tryd.underlying46 rfl (by rw [hs]; exact size46) ?_
  refine wpList_store_row rfl 46 (.tmp 4) (.tmp 54) rfl (w.heap.size + 2) na (by rfl) (by rfl) 46 na hN (by rw [hs]; exact size46) rfl hall ?_
  rw [hN.setRow_same]
  go_wp2_with fail
  refine bodyPost_ret (v := .tuple #[.agg na, .int .i64 410]) ?_ rfl ⟨rfl, HB1.out⟩
  exact results_node rfl hN hs rfl rfl
set_option maxRecDepth 100000 in
set_option maxHeartbeats 1000000 in
theorem leaf_no5 (co te gr cr ca : Int) (ar : Array Value) (w : World) (e0 : decide (co < 0) = false) (e1 : decide (4096 ≤ co) = false) (e2 : decide (te < 0) = false) (e3 : decide (1024 ≤ te) = false) (e4 : decide (gr < 0) = false) (e5 : decide (12 < gr) = true) : Calls Tryd.prog 54 #[.agg (Ln.arr ⟨co, te, gr, cr, ca⟩), .agg ar] w fun e w' => e = .returned (.tuple #[.agg nd0.arr, .int .i64 410]) ∧ Below w.heap.size w w' := by
  obtain ⟨na, hna⟩ : ∃ na, nd0.arr = na := ⟨_, rfl⟩
  have hs : na.size = 34 := by rw [← hna]; rfl
  have hall : na.all (·.oneCell') = true := by rw [← hna]; exact nd0_all
  rw [hna]
  have HNA := Lib.hid hna
  clear hna
  go_enter Tryd.func54, Tryd.ntmps54
  go_upto_region 1 with fail
  generalize hW0 : ((w.alloc (Obj.cells _ 65)).alloc (Obj.cells ar 41)).alloc (Obj.cells _ 46) = W1
  have hzz : ((w.alloc (.cells (Ln.arr ⟨co, te, gr, cr, ca⟩) 65)).alloc (.cells ar 41)).alloc (.cells na 46) = W1 := by rw [← HNA.out]; exact hW0
  clear hW0
  obtain ⟨hb1, hL, hN⟩ := leaf_start hzz
  clear hzz
  have a0 : W1.cell? ⟨w.heap.size, 0, none⟩ = some (.int .i64 co) := hL.cell 0
  have a1 : W1.cell? ⟨w.heap.size, 1, none⟩ = some (.int .i64 te) := hL.cell 1
  have a2 : W1.cell? ⟨w.heap.size, 2, none⟩ = some (.int .i64 gr) := hL.cell 2
  have a3 : W1.cell? ⟨w.heap.size, 3, none⟩ = some (.int .i64 cr) := hL.cell 3
  have a4 : W1.cell? ⟨w.heap.size, 4, none⟩ = some (.int .i64 ca) := hL.cell 4
  have HB1 := Lib.hid hb1; have HN := Lib.hid hN
  clear hb1 hL hN
  go_upto_region 2 with fail
  have hN := HN.out
  apply wp_region_lit
  refine wpList_load_row rfl 46 (.tmp 4) rfl (w.heap.size + 2) rfl 46 na _ _ hN Tryd.underlying46 rfl (by rw [hs]; exact size46) ?_
  refine wpList_store_row rfl 46 (.tmp 4) (.tmp 54) rfl (w.heap.size + 2) na (by rfl) (by rfl) 46 na hN (by rw [hs]; exact size46) rfl hall ?_
  rw [hN.setRow_same]
  go_wp2_with fail
  refine bodyPost_ret (v := .tuple #[.agg na, .int .i64 410]) ?_ rfl ⟨rfl, HB1.out⟩
  exact results_node rfl hN hs rfl rfl
set_option maxRecDepth 100000 in
set_option maxHeartbeats 1000000 in
theorem leaf_no6 (co te gr cr ca : Int) (ar : Array Value) (w : World) (e0 : decide (co < 0) = false) (e1 : decide (4096 ≤ co) = false) (e2 : decide (te < 0) = false) (e3 : decide (1024 ≤ te) = false) (e4 : decide (gr < 0) = false) (e5 : decide (12 < gr) = false) (e6 : decide (cr < 0) = true) : Calls Tryd.prog 54 #[.agg (Ln.arr ⟨co, te, gr, cr, ca⟩), .agg ar] w fun e w' => e = .returned (.tuple #[.agg nd0.arr, .int .i64 410]) ∧ Below w.heap.size w w' := by
  obtain ⟨na, hna⟩ : ∃ na, nd0.arr = na := ⟨_, rfl⟩
  have hs : na.size = 34 := by rw [← hna]; rfl
  have hall : na.all (·.oneCell') = true := by rw [← hna]; exact nd0_all
  rw [hna]
  have HNA := Lib.hid hna
  clear hna
  go_enter Tryd.func54, Tryd.ntmps54
  go_upto_region 1 with fail
  generalize hW0 : ((w.alloc (Obj.cells _ 65)).alloc (Obj.cells ar 41)).alloc (Obj.cells _ 46) = W1
  have hzz : ((w.alloc (.cells (Ln.arr ⟨co, te, gr, cr, ca⟩) 65)).alloc (.cells ar 41)).alloc (.cells na 46) = W1 := by rw [← HNA.out]; exact hW0
  clear hW0
  obtain ⟨hb1, hL, hN⟩ := leaf_start hzz
  clear hzz
  have a0 : W1.cell? ⟨w.heap.size, 0, none⟩ = some (.int .i64 co) := hL.cell 0
  have a1 : W1.cell? ⟨w.heap.size, 1, none⟩ = some (.int .i64 te) := hL.cell 1
  have a2 : W1.cell? ⟨w.heap.size, 2, none⟩ = some (.int .i64 gr) := hL.cell 2
  have a3 : W1.cell? ⟨w.heap.size, 3, none⟩ = some (.int .i64 cr) := hL.cell 3
  have a4 : W1.cell? ⟨w.heap.size, 4, none⟩ = some (.int .i64 ca) := hL.cell 4
  have HB1 := Lib.hid hb1; have HN := Lib.hid hN
  clear hb1 hL hN
  go_upto_region 2 with fail
  have hN := HN.out
  apply wp_region_lit
  refine wpList_load_row rfl 46 (.tmp 4) rfl (w.heap.size + 2) rfl 46 na _ _ hN Tryd.underlying46 rfl (by rw [hs]; exact size46) ?_
  refine wpList_store_row rfl 46 (.tmp 4) (.tmp 54) rfl (w.heap.size + 2) na (by rfl) (by rfl) 46 na hN (by rw [hs]; exact size46) rfl hall ?_
  rw [hN.setRow_same]
  go_wp2_with fail
  refine bodyPost_ret (v := .tuple #[.agg na, .int .i64 410]) ?_ rfl ⟨rfl, HB1.out⟩
  exact results_node rfl hN hs rfl rfl
set_option maxRecDepth 100000 in
set_option maxHeartbeats 1000000 in
theorem leaf_no7 (co te gr cr ca : Int) (ar : Array Value) (w : World) (e0 : decide (co < 0) = false) (e1 : decide (4096 ≤ co) = false) (e2 : decide (te < 0) = false) (e3 : decide (1024 ≤ te) = false) (e4 : decide (gr < 0) = false) (e5 : decide (12 < gr) = false) (e6 : decide (cr < 0) = false) (e7 : decide (60 < cr) = true) : Calls Tryd.prog 54 #[.agg (Ln.arr ⟨co, te, gr, cr, ca⟩), .agg ar] w fun e w' => e = .returned (.tuple #[.agg nd0.arr, .int .i64 410]) ∧ Below w.heap.size w w' := by
  obtain ⟨na, hna⟩ : ∃ na, nd0.arr = na := ⟨_, rfl⟩
  have hs : na.size = 34 := by rw [← hna]; rfl
  have hall : na.all (·.oneCell') = true := by rw [← hna]; exact nd0_all
  rw [hna]
  have HNA := Lib.hid hna
  clear hna
  go_enter Tryd.func54, Tryd.ntmps54
  go_upto_region 1 with fail
  generalize hW0 : ((w.alloc (Obj.cells _ 65)).alloc (Obj.cells ar 41)).alloc (Obj.cells _ 46) = W1
  have hzz : ((w.alloc (.cells (Ln.arr ⟨co, te, gr, cr, ca⟩) 65)).alloc (.cells ar 41)).alloc (.cells na 46) = W1 := by rw [← HNA.out]; exact hW0
  clear hW0
  obtain ⟨hb1, hL, hN⟩ := leaf_start hzz
  clear hzz
  have a0 : W1.cell? ⟨w.heap.size, 0, none⟩ = some (.int .i64 co) := hL.cell 0
  have a1 : W1.cell? ⟨w.heap.size, 1, none⟩ = some (.int .i64 te) := hL.cell 1
  have a2 : W1.cell? ⟨w.heap.size, 2, none⟩ = some (.int .i64 gr) := hL.cell 2
  have a3 : W1.cell? ⟨w.heap.size, 3, none⟩ = some (.int .i64 cr) := hL.cell 3
  have a4 : W1.cell? ⟨w.heap.size, 4, none⟩ = some (.int .i64 ca) := hL.cell 4
  have HB1 := Lib.hid hb1; have HN := Lib.hid hN
  clear hb1 hL hN
  go_upto_region 2 with fail
  have hN := HN.out
  apply wp_region_lit
  refine wpList_load_row rfl 46 (.tmp 4) rfl (w.heap.size + 2) rfl 46 na _ _ hN Tryd.underlying46 rfl (by rw [hs]; exact size46) ?_
  refine wpList_store_row rfl 46 (.tmp 4) (.tmp 54) rfl (w.heap.size + 2) na (by rfl) (by rfl) 46 na hN (by rw [hs]; exact size46) rfl hall ?_
  rw [hN.setRow_same]
  go_wp2_with fail
  refine bodyPost_ret (v := .tuple #[.agg na, .int .i64 410]) ?_ rfl ⟨rfl, HB1.out⟩
  exact results_node rfl hN hs rfl rfl
set_option maxRecDepth 100000 in
set_option maxHeartbeats 1000000 in
theorem leaf_no8 (co te gr cr ca : Int) (ar : Array Value) (w : World) (e0 : decide (co < 0) = false) (e1 : decide (4096 ≤ co) = false) (e2 : decide (te < 0) = false) (e3 : decide (1024 ≤ te) = false) (e4 : decide (gr < 0) = false) (e5 : decide (12 < gr) = false) (e6 : decide (cr < 0) = false) (e7 : decide (60 < cr) = false) (e8 : decide (ca < 0) = true) : Calls Tryd.prog 54 #[.agg (Ln.arr ⟨co, te, gr, cr, ca⟩), .agg ar] w fun e w' => e = .returned (.tuple #[.agg nd0.arr, .int .i64 410]) ∧ Below w.heap.size w w' := by
  obtain ⟨na, hna⟩ : ∃ na, nd0.arr = na := ⟨_, rfl⟩
  have hs : na.size = 34 := by rw [← hna]; rfl
  have hall : na.all (·.oneCell') = true := by rw [← hna]; exact nd0_all
  rw [hna]
  have HNA := Lib.hid hna
  clear hna
  go_enter Tryd.func54, Tryd.ntmps54
  go_upto_region 1 with fail
  generalize hW0 : ((w.alloc (Obj.cells _ 65)).alloc (Obj.cells ar 41)).alloc (Obj.cells _ 46) = W1
  have hzz : ((w.alloc (.cells (Ln.arr ⟨co, te, gr, cr, ca⟩) 65)).alloc (.cells ar 41)).alloc (.cells na 46) = W1 := by rw [← HNA.out]; exact hW0
  clear hW0
  obtain ⟨hb1, hL, hN⟩ := leaf_start hzz
  clear hzz
  have a0 : W1.cell? ⟨w.heap.size, 0, none⟩ = some (.int .i64 co) := hL.cell 0
  have a1 : W1.cell? ⟨w.heap.size, 1, none⟩ = some (.int .i64 te) := hL.cell 1
  have a2 : W1.cell? ⟨w.heap.size, 2, none⟩ = some (.int .i64 gr) := hL.cell 2
  have a3 : W1.cell? ⟨w.heap.size, 3, none⟩ = some (.int .i64 cr) := hL.cell 3
  have a4 : W1.cell? ⟨w.heap.size, 4, none⟩ = some (.int .i64 ca) := hL.cell 4
  have HB1 := Lib.hid hb1; have HN := Lib.hid hN
  clear hb1 hL hN
  go_upto_region 2 with fail
  have hN := HN.out
  apply wp_region_lit
  refine wpList_load_row rfl 46 (.tmp 4) rfl (w.heap.size + 2) rfl 46 na _ _ hN Tryd.underlying46 rfl (by rw [hs]; exact size46) ?_
  refine wpList_store_row rfl 46 (.tmp 4) (.tmp 54) rfl (w.heap.size + 2) na (by rfl) (by rfl) 46 na hN (by rw [hs]; exact size46) rfl hall ?_
  rw [hN.setRow_same]
  go_wp2_with fail
  refine bodyPost_ret (v := .tuple #[.agg na, .int .i64 410]) ?_ rfl ⟨rfl, HB1.out⟩
  exact results_node rfl hN hs rfl rfl
set_option maxRecDepth 100000 in
set_option maxHeartbeats 1000000 in
theorem leaf_no9 (co te gr cr ca : Int) (ar : Array Value) (w : World) (e0 : decide (co < 0) = false) (e1 : decide (4096 ≤ co) = false) (e2 : decide (te < 0) = false) (e3 : decide (1024 ≤ te) = false) (e4 : decide (gr < 0) = false) (e5 : decide (12 < gr) = false) (e6 : decide (cr < 0) = false) (e7 : decide (60 < cr) = false) (e8 : decide (ca < 0) = false) (e9 : decide (7 ≤ ca) = true) : Calls Tryd.prog 54 #[.agg (Ln.arr ⟨co, te, gr, cr, ca⟩), .agg ar] w fun e w' => e = .returned (.tuple #[.agg nd0.arr, .int .i64 410]) ∧ Below w.heap.size w w' := by
  obtain ⟨na, hna⟩ : ∃ na, nd0.arr = na := ⟨_, rfl⟩
  have hs : na.size = 34 := by rw [← hna]; rfl
  have hall : na.all (·.oneCell') = true := by rw [← hna]; exact nd0_all
  rw [hna]
  have HNA := Lib.hid hna
  clear hna
  go_enter Tryd.func54, Tryd.ntmps54
  go_upto_region 1 with fail
  generalize hW0 : ((w.alloc (Obj.cells _ 65)).alloc (Obj.cells ar 41)).alloc (Obj.cells _ 46) = W1
  have hzz : ((w.alloc (.cells (Ln.arr ⟨co, te, gr, cr, ca⟩) 65)).alloc (.cells ar 41)).alloc (.cells na 46) = W1 := by rw [← HNA.out]; exact hW0
  clear hW0
  obtain ⟨hb1, hL, hN⟩ := leaf_start hzz
  clear hzz
  have a0 : W1.cell? ⟨w.heap.size, 0, none⟩ = some (.int .i64 co) := hL.cell 0
  have a1 : W1.cell? ⟨w.heap.size, 1, none⟩ = some (.int .i64 te) := hL.cell 1
  have a2 : W1.cell? ⟨w.heap.size, 2, none⟩ = some (.int .i64 gr) := hL.cell 2
  have a3 : W1.cell? ⟨w.heap.size, 3, none⟩ = some (.int .i64 cr) := hL.cell 3
  have a4 : W1.cell? ⟨w.heap.size, 4, none⟩ = some (.int .i64 ca) := hL.cell 4
  have HB1 := Lib.hid hb1; have HN := Lib.hid hN
  clear hb1 hL hN
  go_upto_region 2 with fail
  have hN := HN.out
  apply wp_region_lit
  refine wpList_load_row rfl 46 (.tmp 4) rfl (w.heap.size + 2) rfl 46 na _ _ hN Tryd.underlying46 rfl (by rw [hs]; exact size46) ?_
  refine wpList_store_row rfl 46 (.tmp 4) (.tmp 54) rfl (w.heap.size + 2) na (by rfl) (by rfl) 46 na hN (by rw [hs]; exact size46) rfl hall ?_
  rw [hN.setRow_same]
  go_wp2_with fail
  refine bodyPost_ret (v := .tuple #[.agg na, .int .i64 410]) ?_ rfl ⟨rfl, HB1.out⟩
  exact results_node rfl hN hs rfl rfl
theorem leaf_no (l : Ln) (ar : Array Value) (w : World) (h : l.ok = false) : Calls Tryd.prog 54 #[.agg l.arr, .agg ar] w fun e w' => e = .returned (.tuple #[.agg nd0.arr, .int .i64 410]) ∧ Below w.heap.size w w' := by
  obtain ⟨co, te, gr, cr, ca⟩ := l
  have h : ¬ (0 ≤ co ∧ co < 4096 ∧ 0 ≤ te ∧ te < 1024 ∧ 0 ≤ gr ∧ gr ≤ 12 ∧ 0 ≤ cr ∧ cr ≤ 60 ∧ 0 ≤ ca ∧ ca < 7) := of_decide_eq_false h
  by_cases c0 : co < 0
  · exact leaf_no0 co te gr cr ca ar w  (decide_eq_true c0)
  by_cases c1 : 4096 ≤ co
  · exact leaf_no1 co te gr cr ca ar w (decide_eq_false c0) (decide_eq_true c1)
  by_cases c2 : te < 0
  · exact leaf_no2 co te gr cr ca ar w (decide_eq_false c0) (decide_eq_false c1) (decide_eq_true c2)
  by_cases c3 : 1024 ≤ te
  · exact leaf_no3 co te gr cr ca ar w (decide_eq_false c0) (decide_eq_false c1) (decide_eq_false c2) (decide_eq_true c3)
  by_cases c4 : gr < 0
  · exact leaf_no4 co te gr cr ca ar w (decide_eq_false c0) (decide_eq_false c1) (decide_eq_false c2) (decide_eq_false c3) (decide_eq_true c4)
  by_cases c5 : 12 < gr
  · exact leaf_no5 co te gr cr ca ar w (decide_eq_false c0) (decide_eq_false c1) (decide_eq_false c2) (decide_eq_false c3) (decide_eq_false c4) (decide_eq_true c5)
  by_cases c6 : cr < 0
  · exact leaf_no6 co te gr cr ca ar w (decide_eq_false c0) (decide_eq_false c1) (decide_eq_false c2) (decide_eq_false c3) (decide_eq_false c4) (decide_eq_false c5) (decide_eq_true c6)
  by_cases c7 : 60 < cr
  · exact leaf_no7 co te gr cr ca ar w (decide_eq_false c0) (decide_eq_false c1) (decide_eq_false c2) (decide_eq_false c3) (decide_eq_false c4) (decide_eq_false c5) (decide_eq_false c6) (decide_eq_true c7)
  by_cases c8 : ca < 0
  · exact leaf_no8 co te gr cr ca ar w (decide_eq_false c0) (decide_eq_false c1) (decide_eq_false c2) (decide_eq_false c3) (decide_eq_false c4) (decide_eq_false c5) (decide_eq_false c6) (decide_eq_false c7) (decide_eq_true c8)
  exact leaf_no9 co te gr cr ca ar w (decide_eq_false c0) (decide_eq_false c1) (decide_eq_false c2) (decide_eq_false c3) (decide_eq_false c4) (decide_eq_false c5) (decide_eq_false c6) (decide_eq_false c7) (decide_eq_false c8) (decide_eq_true (by omega))
theorem blk_setCells {g : Nat} {t : TypeId} : ∀ (vs : List Value) (o : Nat) (w : World) (cs : Array Value), Blk w g t cs → Blk (w.setCells g o vs) g t ((vs.zipIdx o).foldl (fun cs (x : Value × Nat) => cs.setIfInBounds (0 + x.2) x.1) cs)
  | [], _, _, _, h => h
  | v :: vs, o, w, cs, h => by
    have := blk_setCells vs (o + 1) _ _ (h.set_ o v)
    rw [List.zipIdx_cons, List.foldl_cons, Nat.zero_add]
    exact this
theorem blk_setAll {w : World} {g : Nat} {t : TypeId} {cs : Array Value} {vs : List Value} (h : Blk w g t cs) (hl : vs.length = cs.size) : Blk (w.setCells g 0 vs) g t vs.toArray := by
  have h1 := blk_setCells vs 0 w cs h
  have h2 : (vs.zipIdx 0).foldl (fun cs (x : Value × Nat) => cs.setIfInBounds (0 + x.2) x.1) cs = vs.toArray := by
    apply Array.ext_getElem?
    intro k
    have e : vs.toArray[k]? = vs[k]? := List.getElem?_toArray
    rw [(Great.foldl_set 0 vs 0 cs).2 k, e]
    by_cases hk : k < vs.length
    · rw [if_pos ⟨by omega, by omega, by omega⟩]; rfl
    · rw [if_neg (by omega), Array.getElem?_eq_none (by omega), List.getElem?_eq_none (by omega)]
  rw [h2] at h1
  exact h1
theorem below_setCells {B g : Nat} {w0 : World} (hB : B ≤ g) : ∀ (vs : List Value) (o : Nat) (w : World), Below B w0 w → Below B w0 (w.setCells g o vs)
  | [], _, _, h => h
  | v :: vs, o, _, h => below_setCells hB vs (o + 1) _ (h.setCell (p := ⟨g, o, none⟩) hB v)
theorem blk_setFar {g b : Nat} {t : TypeId} {cs : Array Value} (hg : g ≠ b) : ∀ (vs : List Value) (o : Nat) (w : World), Blk w g t cs → Blk (w.setCells b o vs) g t cs
  | [], _, _, h => h
  | v :: vs, o, _, h => blk_setFar hg vs (o + 1) _ (h.far (p := ⟨b, o, none⟩) hg v)
theorem blk_there {w : World} {g n : Nat} {t : TypeId} {cs : Array Value} (h : Blk w g t cs) (hn : cs.size = n) : w.there g 0 n := fun j hj => by
  rw [Nat.zero_add]
  exact ⟨by rw [h.cell j, Array.getElem?_eq_getElem (by omega)]; rfl, h.frozen j⟩
/-- what the walk makes of a node that is built out of its digest. -/
theorem build_facts (d : List UInt8) (es : Array Value) (hd : d.length = 32) (hes : (u8s d).toArray = es) (c p : Int) :
    ∃ X : Array Value, Array.foldl (fun (cs : Array Value) (x : Value × Nat) => cs.setIfInBounds x.snd x.fst) (#[Value.int IntKind.u8 0, Value.int IntKind.u8 0, Value.int IntKind.u8 0, Value.int IntKind.u8 0, Value.int IntKind.u8 0, Value.int IntKind.u8 0, Value.int IntKind.u8 0, Value.int IntKind.u8 0, Value.int IntKind.u8 0, Value.int IntKind.u8 0, Value.int IntKind.u8 0, Value.int IntKind.u8 0, Value.int IntKind.u8 0, Value.int IntKind.u8 0, Value.int IntKind.u8 0, Value.int IntKind.u8 0, Value.int IntKind.u8 0, Value.int IntKind.u8 0, Value.int IntKind.u8 0, Value.int IntKind.u8 0, Value.int IntKind.u8 0, Value.int IntKind.u8 0, Value.int IntKind.u8 0, Value.int IntKind.u8 0, Value.int IntKind.u8 0, Value.int IntKind.u8 0, Value.int IntKind.u8 0, Value.int IntKind.u8 0, Value.int IntKind.u8 0, Value.int IntKind.u8 0, Value.int IntKind.u8 0, Value.int IntKind.u8 0, Value.int IntKind.i64 0, Value.int IntKind.i64 0] : Array Value) es.zipIdx 0 32 = X ∧ X.size = 34 ∧ (X.setIfInBounds 32 (.int .i64 c)).setIfInBounds 33 (.int .i64 p) = (Nd.arr ⟨d, c, p⟩) := by
  subst hes
  have hu : (u8s d).toArray.size = 32 := by rw [List.size_toArray, u8s_length, hd]
  have h0 : Array.foldl (fun (cs : Array Value) (x : Value × Nat) => cs.setIfInBounds x.snd x.fst) (#[Value.int IntKind.u8 0, Value.int IntKind.u8 0, Value.int IntKind.u8 0, Value.int IntKind.u8 0, Value.int IntKind.u8 0, Value.int IntKind.u8 0, Value.int IntKind.u8 0, Value.int IntKind.u8 0, Value.int IntKind.u8 0, Value.int IntKind.u8 0, Value.int IntKind.u8 0, Value.int IntKind.u8 0, Value.int IntKind.u8 0, Value.int IntKind.u8 0, Value.int IntKind.u8 0, Value.int IntKind.u8 0, Value.int IntKind.u8 0, Value.int IntKind.u8 0, Value.int IntKind.u8 0, Value.int IntKind.u8 0, Value.int IntKind.u8 0, Value.int IntKind.u8 0, Value.int IntKind.u8 0, Value.int IntKind.u8 0, Value.int IntKind.u8 0, Value.int IntKind.u8 0, Value.int IntKind.u8 0, Value.int IntKind.u8 0, Value.int IntKind.u8 0, Value.int IntKind.u8 0, Value.int IntKind.u8 0, Value.int IntKind.u8 0, Value.int IntKind.i64 0, Value.int IntKind.i64 0] : Array Value) (u8s d).toArray.zipIdx 0 32 = (((u8s d).zipIdx 0).foldl (fun cs (x : Value × Nat) => cs.setIfInBounds (0 + x.2) x.1) nd0.arr) := by
    have h1 : (u8s d).toArray.zipIdx.size = 32 := by rw [Array.size_zipIdx, hu]
    have h2 := Array.foldl_toList (fun (cs : Array Value) (x : Value × Nat) => cs.setIfInBounds x.snd x.fst) (init := nd0.arr) (xs := (u8s d).toArray.zipIdx)
    rw [h1] at h2
    rw [show (#[Value.int IntKind.u8 0, Value.int IntKind.u8 0, Value.int IntKind.u8 0, Value.int IntKind.u8 0, Value.int IntKind.u8 0, Value.int IntKind.u8 0, Value.int IntKind.u8 0, Value.int IntKind.u8 0, Value.int IntKind.u8 0, Value.int IntKind.u8 0, Value.int IntKind.u8 0, Value.int IntKind.u8 0, Value.int IntKind.u8 0, Value.int IntKind.u8 0, Value.int IntKind.u8 0, Value.int IntKind.u8 0, Value.int IntKind.u8 0, Value.int IntKind.u8 0, Value.int IntKind.u8 0, Value.int IntKind.u8 0, Value.int IntKind.u8 0, Value.int IntKind.u8 0, Value.int IntKind.u8 0, Value.int IntKind.u8 0, Value.int IntKind.u8 0, Value.int IntKind.u8 0, Value.int IntKind.u8 0, Value.int IntKind.u8 0, Value.int IntKind.u8 0, Value.int IntKind.u8 0, Value.int IntKind.u8 0, Value.int IntKind.u8 0, Value.int IntKind.i64 0, Value.int IntKind.i64 0] : Array Value) = nd0.arr from rfl, ← h2, Array.toList_zipIdx]
    simp only [Nat.zero_add]
  refine ⟨_, h0, ?_, ?_⟩
  · exact (Great.foldl_set 0 (u8s d) 0 nd0.arr).1
  · apply Array.ext_getElem?
    intro k
    have eR : (Nd.arr ⟨d, c, p⟩)[k]? = (u8s d ++ [Value.int .i64 c, .int .i64 p])[k]? := List.getElem?_toArray
    have hs := (Great.foldl_set 0 (u8s d) 0 nd0.arr).1
    have hn0 : nd0.arr.size = 34 := rfl
    rw [eR, Array.getElem?_setIfInBounds, Array.getElem?_setIfInBounds, Array.size_setIfInBounds, hs, (Great.foldl_set 0 (u8s d) 0 nd0.arr).2 k, u8s_length, hd, hn0]
    by_cases h1 : k < 32
    · rw [if_neg (by omega), if_neg (by omega), if_pos (by omega), List.getElem?_append_left (by rw [u8s_length, hd]; exact h1)]
      rw [Nat.add_zero, Nat.sub_zero]
    · rw [List.getElem?_append_right (by rw [u8s_length, hd]; omega), u8s_length, hd]
      by_cases h2 : k = 32
      · subst h2; rfl
      · by_cases h3 : k = 33
        · subst h3; rfl
        · rw [if_neg (by omega), if_neg (by omega), if_neg (by omega), Array.getElem?_eq_none (by omega), List.getElem?_eq_none (by show 2 ≤ k - 32; omega)]
/-- a whole row is stored. -/
theorem store_row {W : World} {g : Nat} {na : Array Value} {cs : List Value} (h : Blk W g 46 na) (hn : cs.length = na.size) (hone : ∀ v ∈ cs, v.oneCell' = true) : (storeCells ⟨g, 0, none⟩ cs).run Tryd.prog W = .ok () (W.setRow g cs.toArray) := by
  have := run_storeCells_at Tryd.prog g 0 46 cs 0 na W h (by omega) hone
  rw [this, Nat.add_zero, Nat.zero_add, List.take_zero, List.nil_append, List.drop_eq_nil_of_le (by rw [hn]; simp), List.append_nil]
/-- what is held of a line's block and of a node's while a region runs. -/
theorem lf_of {W : World} {g g4 : Nat} {l : Ln} {na : Array Value} (h : Blk W g 65 l.arr) (k : Blk W g4 46 na) (hn : na.size = 34) :
    W.cell? ⟨g, 0, none⟩ = some (.int .i64 l.co) ∧ W.cell? ⟨g, 1, none⟩ = some (.int .i64 l.te) ∧ W.cell? ⟨g, 2, none⟩ = some (.int .i64 l.gr) ∧ W.cell? ⟨g, 3, none⟩ = some (.int .i64 l.cr) ∧ W.cell? ⟨g, 4, none⟩ = some (.int .i64 l.ca) ∧ W.there g4 0 34 :=
  ⟨h.cell 0, h.cell 1, h.cell 2, h.cell 3, h.cell 4, blk_there k hn⟩
/-- the node of a leaf. -/
def leafV (l : Ln) (d : List UInt8) : Nd := ⟨tagB lineS (d ++ encL [l.co, l.te, l.gr, l.cr, l.ca]), l.cr, l.gr * l.cr⟩
set_option maxRecDepth 100000 in
set_option maxHeartbeats 4000000 in
theorem leaf_yes (l : Ln) (d : List UInt8) (w : World) (h : l.ok = true) (hd : d.length = 32) (hT : Tabs w) :
    Calls Tryd.prog 54 #[.agg l.arr, .agg (u8s d).toArray] w fun e w' => e = .returned (.tuple #[.agg (leafV l d).arr, .int .i64 0]) ∧ Below w.heap.size w w' := by
  obtain ⟨co, te, gr, cr, ca⟩ := l
  obtain ⟨h1, h2, h3, h4, h5, h6, h7, h8, h9, h10⟩ : 0 ≤ co ∧ co < 4096 ∧ 0 ≤ te ∧ te < 1024 ∧ 0 ≤ gr ∧ gr ≤ 12 ∧ 0 ≤ cr ∧ cr ≤ 60 ∧ 0 ≤ ca ∧ ca < 7 := of_decide_eq_true h
  clear h
  have hdg : (tagB lineS (d ++ encL [co, te, gr, cr, ca])).length = 32 := tagB_length _ _
  have hlv : leafV ⟨co, te, gr, cr, ca⟩ d = ⟨tagB lineS (d ++ encL [co, te, gr, cr, ca]), cr, gr * cr⟩ := rfl
  obtain ⟨dg, hdge⟩ : ∃ dg, tagB lineS (d ++ encL [co, te, gr, cr, ca]) = dg := ⟨_, rfl⟩
  rw [hdge] at hdg hlv
  obtain ⟨ar, har⟩ : ∃ ar, (u8s d).toArray = ar := ⟨_, rfl⟩
  obtain ⟨es, hes⟩ : ∃ ar, (u8s dg).toArray = ar := ⟨_, rfl⟩
  obtain ⟨na, hna⟩ : ∃ na, nd0.arr = na := ⟨_, rfl⟩
  obtain ⟨nb, hnb⟩ : ∃ nb, (leafV ⟨co, te, gr, cr, ca⟩ d).arr = nb := ⟨_, rfl⟩
  have hsa : na.size = 34 := by rw [← hna]; rfl
  have hsb : nb.size = 34 := by rw [← hnb, hlv]; exact Nd.size _ hdg
  have hallb : nb.all (·.oneCell') = true := by rw [← hnb]; exact nd_all _
  rw [hlv] at hnb
  obtain ⟨X, hX1, hX2, hX3⟩ := build_facts dg es hdg hes cr (gr * cr)
  rw [hnb] at hX3
  rw [hlv, hnb, har]
  obtain ⟨cs, rfl⟩ : ∃ cs : List Value, nb = cs.toArray := ⟨nb.toList, by simp⟩
  have hcl : cs.length = 34 := by simpa using hsb
  have hone : ∀ v ∈ cs, v.oneCell' = true := fun v hv => (Array.all_eq_true_iff_forall_mem.1 hallb) v (by simpa using hv)
  have HX1 := Lib.hid hX1; have HX2 := Lib.hid hX2; have HX3 := Lib.hid hX3
  clear hX1 hX2 hX3
  have hi46 : (Tryd.prog.info? 46).map (·.size) = some cs.length := by rw [hcl]; exact size46
  have hb1 : Below w.heap.size w (((w.alloc (.cells (Ln.arr ⟨co, te, gr, cr, ca⟩) 65)).alloc (.cells ar 41)).alloc (.cells na 46)) := (((Below.refl _ w).alloc (Nat.le_refl _) _).alloc (by simp) _).alloc (by simp; omega) _
  have hL : Blk (((w.alloc (.cells (Ln.arr ⟨co, te, gr, cr, ca⟩) 65)).alloc (.cells ar 41)).alloc (.cells na 46)) w.heap.size 65 (Ln.arr ⟨co, te, gr, cr, ca⟩) := ((Blk.new _ _ _).alloc _).alloc _
  have hA : Blk (((w.alloc (.cells (Ln.arr ⟨co, te, gr, cr, ca⟩) 65)).alloc (.cells ar 41)).alloc (.cells na 46)) (w.heap.size + 1) 41 (u8s d).toArray := by
    have := (Blk.new (w.alloc (.cells (Ln.arr ⟨co, te, gr, cr, ca⟩) 65)) 41 ar).alloc (.cells na 46)
    rw [World.size_alloc] at this
    rw [har]; exact this
  have hN : Blk (((w.alloc (.cells (Ln.arr ⟨co, te, gr, cr, ca⟩) 65)).alloc (.cells ar 41)).alloc (.cells na 46)) (w.heap.size + 2) 46 na := by
    have := Blk.new ((w.alloc (.cells (Ln.arr ⟨co, te, gr, cr, ca⟩) 65)).alloc (.cells ar 41)) 46 na
    rwa [World.size_alloc, World.size_alloc] at this
  have HT := Lib.hid hT; have HDG := Lib.hid hdge; have HES := Lib.hid hes; have HNA := Lib.hid hna
  have CH := Lib.hid fun (W : World) (gz : Nat) (hz : Blk W gz 3 (ints [co, te, gr, cr, ca])) (hA : Blk W (w.heap.size + 1) 41 (u8s d).toArray) (hb : Below w.heap.size w W) =>
    ((HDG.out ▸ HES.out) ▸ thash_any lineS ⟨w.heap.size + 1, 0, none⟩ 32 32 gz 5 d [co, te, gr, cr, ca] W (by decide) (z32_blk_bytes hA hd) (by omega) rfl (by omega) (by omega) hz (hT.ext hb) :
      Calls Tryd.prog 87 #[.string ⟨lineS.toArray⟩, .slice (some ⟨w.heap.size + 1, 0, none⟩) 32 32, .slice (some ⟨gz, 0, none⟩) 5 5] W fun e w' => e = .returned (.agg es) ∧ Below W.heap.size W w')
  clear hT hdge hes hna hnb har hlv hsb hallb
  go_enter Tryd.func54, Tryd.ntmps54
  go_upto_region 1 with fail
  generalize hW0 : ((w.alloc (Obj.cells _ 65)).alloc (Obj.cells ar 41)).alloc (Obj.cells _ 46) = W1
  have hzz : ((w.alloc (.cells (Ln.arr ⟨co, te, gr, cr, ca⟩) 65)).alloc (.cells ar 41)).alloc (.cells na 46) = W1 := by rw [← HNA.out]; exact hW0
  rw [hzz] at hb1 hL hN hA
  clear hW0 hzz
  have a0 : W1.cell? ⟨w.heap.size, 0, none⟩ = some (.int .i64 co) := hL.cell 0
  have a1 : W1.cell? ⟨w.heap.size, 1, none⟩ = some (.int .i64 te) := hL.cell 1
  have a2 : W1.cell? ⟨w.heap.size, 2, none⟩ = some (.int .i64 gr) := hL.cell 2
  have a3 : W1.cell? ⟨w.heap.size, 3, none⟩ = some (.int .i64 cr) := hL.cell 3
  have a4 : W1.cell? ⟨w.heap.size, 4, none⟩ = some (.int .i64 ca) := hL.cell 4
  have HB1 := Lib.hid hb1; have HL := Lib.hid hL; have HN := Lib.hid hN; have HA := Lib.hid hA
  clear hb1 hL hN hA
  have e0 : decide (co < 0) = false := decide_eq_false (by omega)
  have e1 : decide (4096 ≤ co) = false := decide_eq_false (by omega)
  have e2 : decide (te < 0) = false := decide_eq_false (by omega)
  have e3 : decide (1024 ≤ te) = false := decide_eq_false (by omega)
  have e4 : decide (gr < 0) = false := decide_eq_false (by omega)
  have e5 : decide (12 < gr) = false := decide_eq_false (by omega)
  have e6 : decide (cr < 0) = false := decide_eq_false (by omega)
  have e7 : decide (60 < cr) = false := decide_eq_false (by omega)
  have e8 : decide (ca < 0) = false := decide_eq_false (by omega)
  have e9 : decide (7 ≤ ca) = false := decide_eq_false (by omega)
  have HH := Lib.hid (And.intro (And.intro h5 h6) (And.intro h7 h8))
  clear h1 h2 h3 h4 h5 h6 h7 h8 h9 h10
  have hw1 : IntKind.i64.wrap (gr * cr) = gr * cr := by
    have := HH.out
    have h1 : 0 ≤ gr * cr := Int.mul_nonneg this.1.1 this.2.1
    have h2 : gr * cr ≤ 12 * 60 := Int.mul_le_mul this.1.2 this.2.2 this.2.1 (by omega)
    rw [IntWalk.i64_in _ (by omega)]
  go_upto_region 3 with fail
  have hL := HL.out; have hN := HN.out; have hA := HA.out; have hb1 := HB1.out
  have s0 := lf_of hL hN hsa
  have hL2 : Blk (W1.alloc (.cells #[.int .i64 co, .int .i64 te, .int .i64 gr, .int .i64 cr, .int .i64 ca] 3)).drew w.heap.size 65 (Ln.arr ⟨co, te, gr, cr, ca⟩) := hL.alloc _
  have hN2 : Blk (W1.alloc (.cells #[.int .i64 co, .int .i64 te, .int .i64 gr, .int .i64 cr, .int .i64 ca] 3)).drew (w.heap.size + 2) 46 na := hN.alloc _
  have hA2 : Blk (W1.alloc (.cells #[.int .i64 co, .int .i64 te, .int .i64 gr, .int .i64 cr, .int .i64 ca] 3)).drew (w.heap.size + 1) 41 (u8s d).toArray := hA.alloc _
  have hz2 : Blk (W1.alloc (.cells #[.int .i64 co, .int .i64 te, .int .i64 gr, .int .i64 cr, .int .i64 ca] 3)).drew W1.heap.size 3 (ints [co, te, gr, cr, ca]) := Blk.new W1 3 _
  have hb2 : Below w.heap.size w (W1.alloc (.cells #[.int .i64 co, .int .i64 te, .int .i64 gr, .int .i64 cr, .int .i64 ca] 3)).drew := below_dr (hb1.alloc hb1.size _) 1
  have s1 := lf_of hL2 hN2 hsa
  have CHH := Lib.hid (CH.out _ _ hz2 hA2 hb2)
  have HL2 := Lib.hid hL2; have HN2 := Lib.hid hN2; have HB2 := Lib.hid hb2
  clear hL hN hA hb1 hL2 hN2 hA2 hz2 hb2 HL HN HA HB1 a0 a1 a2 a3 a4 e0 e1 e2 e3 e4 e5 e6 e7 e8 e9
  have hes32 : es.size = 32 := by rw [← HES.out, List.size_toArray, u8s_length]; exact hdg
  have hX1 := HX1.out; have hX2 := HX2.out; have hX3 := HX3.out
  go_region_held3 (fun W => W.cell? ⟨w.heap.size, 0, none⟩ = some (.int .i64 co) ∧ W.cell? ⟨w.heap.size, 1, none⟩ = some (.int .i64 te) ∧ W.cell? ⟨w.heap.size, 2, none⟩ = some (.int .i64 gr) ∧ W.cell? ⟨w.heap.size, 3, none⟩ = some (.int .i64 cr) ∧ W.cell? ⟨w.heap.size, 4, none⟩ = some (.int .i64 ca) ∧ W.there (w.heap.size + 2) 0 34)
    (first | exact s0 | exact s1 | assumption | exact s9)
    (first | (go_at_call 87; refine CHH.out.mono ?_; rintro e w5 ⟨rfl, k5⟩; have hL5 := (HL2.out).below k5 (HL2.out).lt; have hN5 := (HN2.out).below k5 (HN2.out).lt; have s5 := lf_of hL5 hN5 hsa; have hb5 := bl HB2.out k5; have st5 := store_row (cs := cs) hN5 (by omega) hone; have hL9 : Blk (w5.setRow (w.heap.size + 2) cs.toArray) w.heap.size 65 (Ln.arr ⟨co, te, gr, cr, ca⟩) := (setRow_other _ _ _ _ (by omega)).trans hL5; have hN9 : Blk (w5.setRow (w.heap.size + 2) cs.toArray) (w.heap.size + 2) 46 cs.toArray := setRow_heap _ _ _ _ _ _ hN5; have s9 := lf_of hL9 hN9 (by simpa using hcl)))
  have hb9 : Below w.heap.size w (w5.setRow (w.heap.size + 2) cs.toArray) := below_setRow hb5 (by omega) _
  clear s0 s1 s5 s9 st5 hL5 hN5 hL9 hX1 hX2 hX3 CHH HL2 HN2 HB2
  go_wp2_with fail
  refine bodyPost_ret (v := .tuple #[.agg cs.toArray, .int .i64 0]) ?_ rfl ⟨rfl, hb9⟩
  exact results_node rfl hN9 (by simpa using hcl) rfl rfl
/-- nodes side by side in memory. -/
def NAt (w : World) (g o : Nat) (ns : List Nd) : Prop := ∀ i (h : i < ns.length), w.rangeAt g (o + i * 34) (ns[i]).cells
/-- a node is valid. -/
def Nd.ok (n : Nd) : Bool := decide (0 ≤ n.c ∧ n.c ≤ 1073741824 ∧ 0 ≤ n.p ∧ n.p ≤ 12 * n.c)
/-- the sum of credits. -/
def sumC : List Nd → Int
  | [] => 0
  | n :: ns => n.c + sumC ns
/-- nodes are valid, and the sum of their credits is not too much. -/
def validB (ns : List Nd) : Bool := ns.all Nd.ok && decide (sumC ns ≤ 1073741824)
theorem sumC_append : ∀ a b : List Nd, sumC (a ++ b) = sumC a + sumC b
  | [], _ => by simp [sumC]
  | n :: a, b => by rw [List.cons_append, sumC, sumC, sumC_append a b]; omega
theorem sumC_take (ns : List Nd) (i : Nat) (h : i < ns.length) : sumC (ns.take (i + 1)) = sumC (ns.take i) + ns[i].c := by
  rw [List.take_succ_eq_append_getElem h, sumC_append]; simp [sumC]
theorem sumC_bd : ∀ ns : List Nd, ns.all Nd.ok = true → 0 ≤ sumC ns ∧ sumC ns ≤ 1073741824 * ns.length
  | [], _ => ⟨Int.le_refl _, by simp [sumC]⟩
  | n :: ns, h => by
    rw [List.all_cons, Bool.and_eq_true] at h
    have h1 := of_decide_eq_true h.1
    have h2 := sumC_bd ns h.2
    rw [sumC, List.length_cons]
    omega
theorem Nd.len (n : Nd) (h : n.d.length = 32) : n.cells.length = 34 := by unfold Nd.cells; rw [List.length_append, u8s_length, h]; rfl
theorem Nd.get32 (n : Nd) (h : n.d.length = 32) : n.arr[32]? = some (.int .i64 n.c) := by
  unfold Nd.arr Nd.cells; rw [List.getElem?_toArray, List.getElem?_append_right (by rw [u8s_length, h]; omega), u8s_length, h]; rfl
theorem Nd.get33 (n : Nd) (h : n.d.length = 32) : n.arr[33]? = some (.int .i64 n.p) := by
  unfold Nd.arr Nd.cells; rw [List.getElem?_toArray, List.getElem?_append_right (by rw [u8s_length, h]; omega), u8s_length, h]; rfl
set_option maxRecDepth 100000 in
set_option maxHeartbeats 2000000 in
/-- tree.valid. -/
theorem valid_nodes (g o k c : Nat) (ns : List Nd) (w : World) (hk : ns.length = k) (hk9 : k ≤ 100000) (hkc : k ≤ c) (hc : c ≤ 9223372036854775807) (hN : NAt w g o ns) (hd : ∀ n ∈ ns, n.d.length = 32) (hg : g < w.heap.size) :
    Calls Tryd.prog 82 #[.slice (some ⟨g, o, none⟩) k c] w fun e w' => e = .returned (.bool (validB ns)) ∧ Below w.heap.size w w' := by
  have HN := Lib.hid hN; have HD := Lib.hid hd; have HK := Lib.hid hk
  clear hN hd hk
  go_enter Tryd.func82, Tryd.ntmps82
  go_wp2_with fail
  go_loopw [3, 8] (fun x y wr => ∃ i : Nat, i ≤ k ∧ x = .int .i64 (sumC (ns.take i)) ∧ y = .int .i64 i ∧ Below w.heap.size w wr ∧ Hid ((ns.take i).all Nd.ok = true)) (fun _ y _ => k - (intOf y).toNat)
  case atStart => exact ⟨0, by omega, rfl, rfl, Below.refl _ _, Lib.hid rfl⟩
  case round =>
    obtain ⟨i, hik, rfl, rfl, hB, hall⟩ := hrel
    by_cases hlt : i < k
    · have hlt' : (i : Int) < k := by omega
      have i0 : 0 ≤ (i : Int) := by omega
      have hiz : i < ns.length := by rw [HK.out]; exact hlt
      have hdl := HD.out ns[i] (List.getElem_mem _)
      have hst := sumC_take ns i hiz
      have hbd := sumC_bd (ns.take i) hall.out
      rw [List.length_take] at hbd
      have hta : (ns.take (i + 1)).all Nd.ok = (ns[i]).ok := by
        rw [List.take_succ_eq_append_getElem hiz, List.all_append, hall.out]; simp
      have hrg := HN.out i hiz
      have hfalse : (ns[i]).ok = false → validB ns = false := fun h => by
        unfold validB
        have : ns.all Nd.ok = false := by
          rw [Bool.eq_false_iff]
          intro h2
          rw [List.all_eq_true] at h2
          rw [h2 ns[i] (List.getElem_mem _)] at h
          cases h
        rw [this, Bool.false_and]
      obtain ⟨n, hn⟩ : ∃ n, ns[i] = n := ⟨_, rfl⟩
      rw [hn] at hdl hst hta hrg hfalse
      have hn32 := n.get32 hdl
      have hn33 := n.get33 hdl
      have hcl := n.len hdl
      obtain ⟨S, hS⟩ : ∃ S, sumC (ns.take i) = S := ⟨_, rfl⟩
      rw [hS] at hst hbd ⊢
      have hb0 : 0 ≤ S := hbd.1
      have hb1 : S ≤ 107374182400000 := by have := hbd.2; omega
      have hnok : n.ok = decide (0 ≤ n.c ∧ n.c ≤ 1073741824 ∧ 0 ≤ n.p ∧ n.p ≤ 12 * n.c) := rfl
      obtain ⟨C, hC⟩ : ∃ C, n.c = C := ⟨_, rfl⟩
      obtain ⟨P, hP⟩ : ∃ P, n.p = P := ⟨_, rfl⟩
      rw [hC, hP] at hnok
      rw [hC] at hn32 hst
      rw [hP] at hn33
      obtain ⟨cs, hcs⟩ : ∃ cs, n.cells = cs := ⟨_, rfl⟩
      have hna : n.arr = cs.toArray := by rw [← hcs]; rfl
      have hall1 : cs.toArray.all (·.oneCell') = true := by rw [← hna]; exact nd_all n
      rw [hcs] at hcl hrg
      rw [hna] at hn32 hn33
      obtain ⟨na, hnz⟩ : ∃ na, nd0.arr = na := ⟨_, rfl⟩
      have hsa : na.size = 34 := by rw [← hnz]; rfl
      have hrg : wr.rangeAt g (o + i * 34) cs := fun j v hv => (hB.cell (p := ⟨g, o + i * 34 + j, none⟩) hg).trans (hrg j v hv)
      go_upto_region 4 with fail
      apply wp_region_lit
      go_step
      go_step
      go_step
      refine wpList_load_mid rfl 46 (.tmp 10) rfl g (o + i * 34) (by rfl) cs _ hrg Tryd.underlying46 rfl (by rw [hcl]; exact size46) ?_
      refine Great.wpList_allocTo rfl (some 5) rfl (.pointer (some ⟨wr.heap.size, 0, none⟩)) (.cells na 46) (by rw [← hnz]; kernel_rfl) ?_
      have hX : Blk (wr.alloc (.cells na 46)) wr.heap.size 46 na := Blk.new _ _ _
      refine wpList_store_row rfl 46 (.tmp 5) (.tmp 11) rfl wr.heap.size cs.toArray (by rfl) (by rfl) 46 na hX (by rw [List.size_toArray, hcl]; exact size46) (by simp only [Array.length_toList, List.size_toArray, hcl, hsa]) hall1 ?_
      have hX2 : Blk ((wr.alloc (.cells na 46)).setRow wr.heap.size cs.toArray) wr.heap.size 46 cs.toArray := setRow_heap _ _ _ _ _ _ hX
      have hB2 : Below w.heap.size w ((wr.alloc (.cells na 46)).setRow wr.heap.size cs.toArray) := below_setRow (hB.alloc hB.size _) hB.size _
      generalize (wr.alloc (.cells na 46)).setRow wr.heap.size cs.toArray = w2 at hX2 hB2 ⊢
      obtain ⟨gx, hgx⟩ : ∃ g, wr.heap.size = g := ⟨_, rfl⟩
      rw [hgx] at hX2 ⊢
      have x1 : w2.cell? ⟨gx, 32, none⟩ = some (.int .i64 C) := (hX2.cell 32).trans hn32
      have x2 : w2.cell? ⟨gx, 33, none⟩ = some (.int .i64 P) := (hX2.cell 33).trans hn33
      have HST := Lib.hid hst; have HTA := Lib.hid hta; have HF := Lib.hid hfalse; have HNOK := Lib.hid hnok
      clear hst hta hfalse hnok hn32 hn33 hcl hrg hX hX2 hgx hnz hsa hall1 hna hcs hdl hn hiz hS hB
      apply wpList_nil
      by_cases c0 : C < 0
      · have hff : validB ns = false := HF.out (by rw [HNOK.out]; exact decide_eq_false (by omega))
        have e0 : decide (C < 0) = true := decide_eq_true c0
        have HFF := Lib.hid hff
        clear hff c0
        go_wp2_with fail
        go_ret
        exact ⟨by rw [HFF.out]; rfl, hB2⟩
      by_cases c1 : 1073741824 < C
      · have hff : validB ns = false := HF.out (by rw [HNOK.out]; exact decide_eq_false (by omega))
        have e0 : decide (C < 0) = false := decide_eq_false c0
        have e1 : decide (1073741824 < C) = true := decide_eq_true c1
        have HFF := Lib.hid hff
        clear hff c0 c1
        go_wp2_with fail
        go_ret
        exact ⟨by rw [HFF.out]; rfl, hB2⟩
      by_cases c2 : P < 0
      · have hff : validB ns = false := HF.out (by rw [HNOK.out]; exact decide_eq_false (by omega))
        have e0 : decide (C < 0) = false := decide_eq_false c0
        have e1 : decide (1073741824 < C) = false := decide_eq_false c1
        have e2 : decide (P < 0) = true := decide_eq_true c2
        have HFF := Lib.hid hff
        clear hff c0 c1 c2
        go_wp2_with fail
        go_ret
        exact ⟨by rw [HFF.out]; rfl, hB2⟩
      by_cases c3 : 12 * C < P
      · have hff : validB ns = false := HF.out (by rw [HNOK.out]; exact decide_eq_false (by omega))
        have e0 : decide (C < 0) = false := decide_eq_false c0
        have e1 : decide (1073741824 < C) = false := decide_eq_false c1
        have e2 : decide (P < 0) = false := decide_eq_false c2
        have e3 : decide (12 * C < P) = true := decide_eq_true c3
        have q0 : 0 ≤ C := by omega
        have q1 : C ≤ 1073741824 := by omega
        have HFF := Lib.hid hff
        clear hff c0 c1 c2 c3
        go_wp2_with fail
        go_ret
        exact ⟨by rw [HFF.out]; rfl, hB2⟩
      have hok : n.ok = true := by rw [HNOK.out]; exact decide_eq_true (by omega)
      have q0 : 0 ≤ C := by omega
      have q1 : C ≤ 1073741824 := by omega
      have e0 : decide (C < 0) = false := decide_eq_false c0
      have e1 : decide (1073741824 < C) = false := decide_eq_false c1
      have e2 : decide (P < 0) = false := decide_eq_false c2
      have e3 : decide (12 * C < P) = false := decide_eq_false c3
      have hta2 : (ns.take (i + 1)).all Nd.ok = true := by rw [HTA.out, hok]
      have HTA2 := Lib.hid hta2
      clear hta2 hok c0 c1 c2 c3
      go_wp2_with fail
      go_roundw
      case rel => exact ⟨i + 1, by omega, by rw [HST.out], by go_num, hB2, HTA2⟩
      case measure => simp [intOf]; omega
    · obtain rfl : i = k := by omega
      rw [List.take_of_length_le (by have := HK.out; omega)] at hall ⊢
      have hv : validB ns = decide (sumC ns ≤ 1073741824) := by unfold validB; rw [hall.out, Bool.true_and]
      obtain ⟨S, hS⟩ : ∃ S, sumC ns = S := ⟨_, rfl⟩
      rw [hS] at hv ⊢
      have HV := Lib.hid hv
      clear hv hS
      go_wp2_with fail
      go_ret
      exact ⟨by rw [HV.out]; rfl, hB⟩
theorem valid_zero (A : Option Addr) (c : Nat) (w : World) : Calls Tryd.prog 82 #[.slice A 0 c] w fun e w' => e = .returned (.bool true) ∧ w = w' := by
  go_enter Tryd.func82, Tryd.ntmps82
  go_wp2_with fail
  go_loop [3, 8] (fun x y => x = .int .i64 0 ∧ y = .int .i64 0) (fun _ _ => 0)
  case atStart => exact ⟨rfl, rfl⟩
  case round =>
    obtain ⟨rfl, rfl⟩ := hrel
    go_wp2_with fail
    go_ret
    exact ⟨rfl, rfl⟩
/-- the greatest power of two, times k, that is less than n. -/
def hfA (k n : Nat) : Nat := if h : 0 < k ∧ 2 * k < n then hfA (2 * k) n else k
termination_by n - k
decreasing_by omega
def halfN (n : Nat) : Nat := hfA 1 n
theorem hfA_yes {k n : Nat} (h : 0 < k) (h2 : 2 * k < n) : hfA k n = hfA (2 * k) n := by rw [hfA]; simp [h, h2]
theorem hfA_no {k n : Nat} (h2 : ¬ 2 * k < n) : hfA k n = k := by rw [hfA]; simp [h2]
theorem hfA_spec : ∀ (d k n : Nat), n - k ≤ d → 0 < k → k < n → 0 < hfA k n ∧ hfA k n < n ∧ n ≤ 2 * hfA k n
  | 0, k, n, h, h0, h1 => by omega
  | d + 1, k, n, h, h0, h1 => by
    by_cases h2 : 2 * k < n
    · rw [hfA_yes h0 h2]; exact hfA_spec d (2 * k) n (by omega) (by omega) h2
    · rw [hfA_no h2]; omega
theorem half_spec {n : Nat} (h : 2 ≤ n) : 0 < halfN n ∧ halfN n < n ∧ n ≤ 2 * halfN n := hfA_spec _ 1 n (Nat.le_refl _) (by omega) (by omega)
/-- tree.half. -/
theorem half_any (n : Nat) (w : World) (hn : n ≤ 1000000) : Calls Tryd.prog 84 #[.int .i64 n] w fun e w' => e = .returned (.int .i64 (halfN n)) ∧ w = w' := by
  obtain ⟨H, hH⟩ : ∃ H, halfN n = H := ⟨_, rfl⟩
  rw [hH]
  have HH := Lib.hid hH
  clear hH
  go_enter Tryd.func84, Tryd.ntmps84
  go_wp2_with fail
  go_loop [3] (fun x => ∃ k : Nat, 0 < k ∧ k ≤ 1000000 ∧ x = .int .i64 k ∧ Hid (hfA k n = H)) (fun x => n - (intOf x).toNat)
  case atStart => exact ⟨1, by omega, by omega, rfl, HH⟩
  case round =>
    obtain ⟨k, h0, hk, rfl, hh⟩ := hrel
    by_cases hlt : 2 * k < n
    · have t1 : 2 * (k : Int) < (n : Int) := by omega
      have hh2 : hfA (2 * k) n = H := by rw [← hfA_yes h0 hlt]; exact hh.out
      have HH2 := Lib.hid hh2
      clear hh2 hh
      go_wp2_with fail
      go_round
      case rel => exact ⟨2 * k, by omega, by omega, by go_num, HH2⟩
      case measure => simp [intOf]; omega
    · have t1 : ¬ 2 * (k : Int) < (n : Int) := by omega
      have hh2 : k = H := by rw [← hfA_no hlt]; exact hh.out
      have HH2 := Lib.hid hh2
      clear hh2 hh
      go_wp2_with fail
      go_ret
      exact ⟨by rw [← HH2.out]; rfl, rfl⟩
end Go.Proofs.YtedokiemlkccaaaDoor
