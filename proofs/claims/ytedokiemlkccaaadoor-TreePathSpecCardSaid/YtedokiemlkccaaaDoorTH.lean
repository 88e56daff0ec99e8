/- Nodes and lines that come in. -/
import Derived.Test.YtedokiemlkccaaaDoorTF
import Derived.Test.YtedokiemlkccaaaDoorCD
import Derived.Deep.Strs
set_option linter.all false
namespace Go.Proofs.YtedokiemlkccaaaDoor
open Go.RowKit
open Go.ChangeShapes Go.WideShapes Go.ChangeAt Go.Joins
theorem cells3 : Tryd.prog.cellsOf 3 = 1 := by kernel_rfl
theorem cells46 : Tryd.prog.cellsOf 46 = 34 := by kernel_rfl
theorem cells65 : Tryd.prog.cellsOf 65 = 5 := by kernel_rfl
theorem spot_none {W : World} {a : Addr} {v : Value} (h : W.cell? a = some v) : a.spot = none := by
  cases hs : a.spot with
  | none => rfl
  | some x =>
    exfalso
    unfold World.cell? at h
    rw [hs] at h
    split at h
    · rw [if_pos (show (some x).isSome = true from rfl)] at h; cases h
    · cases h
section
variable {H : Type} {enc : TypeId × Value → H} {W : World} {sp : Nat → Bool} {held : Bool}
set_option maxRecDepth 100000
/-- the cells of a node. -/
theorem trod_node {b fuel : Nat} {cs : List Value} {x : DataW H × List MemPlace} (h : DataW.trod enc Tryd.prog W b sp held fuel 46 cs = some x) : ∃ n : Nd, n.d.length = 32 ∧ cs = n.cells := by
  obtain ⟨y0, y1, y2, m, _, hl, h0, h1, h2⟩ := Go.Deep.trod_struct3 Tryd.underlying46 h
  rw [cells46] at hl
  simp only [cells41, cells3] at h0 h1 h2
  obtain ⟨d, hd, e0⟩ := trod_digest h0
  obtain ⟨c, e1, _, _⟩ := DataW.trod_int Tryd.underlying3 h1
  obtain ⟨p, e2, _, _⟩ := DataW.trod_int Tryd.underlying3 h2
  refine ⟨⟨d, c, p⟩, hd, ?_⟩
  unfold Nd.cells
  show cs = u8s d ++ [.int .i64 c, .int .i64 p]
  rw [List.drop_zero] at e0
  have a1 : cs = cs.take 32 ++ cs.drop 32 := (List.take_append_drop 32 cs).symm
  have a2 : cs.drop 32 = (cs.drop 32).take 1 ++ (cs.drop 33).take 1 := by
    have l : (cs.drop 33).length = 1 := by rw [List.length_drop, hl]
    rw [List.take_of_length_le (by omega : (cs.drop 33).length ≤ 1)]
    have := (List.take_append_drop 1 (cs.drop 32)).symm
    rwa [List.drop_drop] at this
  rw [e1, e2] at a2
  rw [a1, e0, a2]; rfl
/-- the cells of a line. -/
theorem trod_line {b fuel : Nat} {cs : List Value} {x : DataW H × List MemPlace} (h : DataW.trod enc Tryd.prog W b sp held fuel 65 cs = some x) : ∃ l : Ln, cs.toArray = l.arr := by
  obtain ⟨xs, m, _, _, hl, hn, hf⟩ := DataW.trod_struct Tryd.underlying65 h
  rw [cells65] at hl
  match cs, hl with
  | [c0, c1, c2, c3, c4], _ =>
    have g := fun (i : Nat) (v : Value) (y : DataW H × List MemPlace) (hy : DataW.trod enc Tryd.prog W b sp held m 3 [v] = some y) => DataW.trod_int Tryd.underlying3 hy
    have ex : ∀ i, i < 5 → ∃ y, xs[i]? = some y := fun i hi => ⟨_, List.getElem?_eq_getElem (by rw [hn]; exact hi)⟩
    obtain ⟨y0, q0⟩ := ex 0 (by omega)
    obtain ⟨y1, q1⟩ := ex 1 (by omega)
    obtain ⟨y2, q2⟩ := ex 2 (by omega)
    obtain ⟨y3, q3⟩ := ex 3 (by omega)
    obtain ⟨y4, q4⟩ := ex 4 (by omega)
    have f0 : DataW.trod enc Tryd.prog W b sp held m 3 (([c0, c1, c2, c3, c4].drop 0).take (Tryd.prog.cellsOf 3)) = xs[0]? := hf 0 _ rfl
    rw [cells3, q0] at f0
    have f1 : DataW.trod enc Tryd.prog W b sp held m 3 (([c0, c1, c2, c3, c4].drop 1).take (Tryd.prog.cellsOf 3)) = xs[1]? := hf 1 _ rfl
    rw [cells3, q1] at f1
    have f2 : DataW.trod enc Tryd.prog W b sp held m 3 (([c0, c1, c2, c3, c4].drop 2).take (Tryd.prog.cellsOf 3)) = xs[2]? := hf 2 _ rfl
    rw [cells3, q2] at f2
    have f3 : DataW.trod enc Tryd.prog W b sp held m 3 (([c0, c1, c2, c3, c4].drop 3).take (Tryd.prog.cellsOf 3)) = xs[3]? := hf 3 _ rfl
    rw [cells3, q3] at f3
    have f4 : DataW.trod enc Tryd.prog W b sp held m 3 (([c0, c1, c2, c3, c4].drop 4).take (Tryd.prog.cellsOf 3)) = xs[4]? := hf 4 _ rfl
    rw [cells3, q4] at f4
    obtain ⟨k0, e0, _, _⟩ := DataW.trod_int Tryd.underlying3 f0
    obtain ⟨k1, e1, _, _⟩ := DataW.trod_int Tryd.underlying3 f1
    obtain ⟨k2, e2, _, _⟩ := DataW.trod_int Tryd.underlying3 f2
    obtain ⟨k3, e3, _, _⟩ := DataW.trod_int Tryd.underlying3 f3
    obtain ⟨k4, e4, _, _⟩ := DataW.trod_int Tryd.underlying3 f4
    simp at e0 e1 e2 e3 e4
    subst e0 e1 e2 e3 e4
    exact ⟨⟨k0, k1, k2, k3, k4⟩, rfl⟩
/-- a node that comes in by value. -/
theorem open_46 {v : Value} {d : DataW H} {ps : List MemPlace} {r : Reach} {b0 : Nat}
    (hval : Value.okWide Tryd.prog W r b0 46 v) (hd : DataW.Trod enc Tryd.prog W 0 sp held 46 v d ps) : ∃ a : Nd, v = .agg a.arr ∧ a.d.length = 32 := by
  obtain ⟨cs, rfl, _⟩ := okWide_struct Tryd.underlying46 hval
  obtain ⟨fuel, hf⟩ := hd
  obtain ⟨n, hn, he⟩ := trod_node hf
  have he : cs.toList = n.cells := he
  exact ⟨n, by unfold Nd.arr; rw [← he], hn⟩
/-- a line that comes in by value. -/
theorem open_65 {v : Value} {d : DataW H} {ps : List MemPlace} {r : Reach} {b0 : Nat}
    (hval : Value.okWide Tryd.prog W r b0 65 v) (hd : DataW.Trod enc Tryd.prog W 0 sp held 65 v d ps) : ∃ a : Ln, v = .agg a.arr ∧ True := by
  obtain ⟨cs, rfl, _⟩ := okWide_struct Tryd.underlying65 hval
  obtain ⟨fuel, hf⟩ := hd
  obtain ⟨n, he⟩ := trod_line hf
  have he : cs.toList.toArray = n.arr := he
  exact ⟨n, by rw [← he], trivial⟩
/-- nodes that come in. -/
theorem open_44 {v : Value} {d : DataW H} {ps : List MemPlace} {r : Reach} {b0 : Nat}
    (hval : Value.okWide Tryd.prog W r b0 44 v) (hd : DataW.Trod enc Tryd.prog W 0 sp held 44 v d ps) : ∃ a : Option Addr × Nat × Nat × List Nd, v = .slice a.1 a.2.1 a.2.2.1 ∧ NS W a.1 a.2.1 a.2.2.1 a.2.2.2 := by
  obtain ⟨A, n, c, rfl⟩ := okWide_slice Tryd.underlying44 hval
  obtain ⟨fuel, hf⟩ := hd
  rcases DataW.trod_slice Tryd.underlying44 hf with ⟨h0, _⟩ | ⟨a, len, cap, elems, rest, m, _, hcs, _, _, hl, hm, hlen, hel, _, _⟩
  · have e : Value.slice A n c = .slice none 0 0 := by simpa [Value.cells] using h0
    cases e
    exact ⟨(none, 0, 0, []), rfl, ns_nil W⟩
  · have e : Value.slice A n c = .slice (some a) len cap := by simpa [Value.cells] using hcs
    cases e
    have each : ∀ i, i < n → ∃ x : Nd, x.d.length = 32 ∧ ∀ j v, x.cells[j]? = some v → W.cell? ((a.add (i * 34)).add j) = some v := by
      intro i hi
      have h1 := hel i hi
      rw [cells46, List.getElem?_eq_getElem (by omega)] at h1
      obtain ⟨cs, hc, ht⟩ := Option.bind_eq_some_iff.1 h1
      obtain ⟨x, hx, rfl⟩ := trod_node ht
      obtain ⟨_, hL, hcell⟩ := World.cells?_some hc
      refine ⟨x, hx, fun j v hj => ?_⟩
      have hjl : j < 34 := by
        rcases Nat.lt_or_ge j 34 with h | h
        · exact h
        · rw [List.getElem?_eq_none (by rw [hL]; exact h)] at hj; cases hj
      rw [hcell j hjl, hj]
    let f : Nat → Nd := fun i => if h : i < n then (each i h).choose else nd0
    have hfd : ∀ i, i < n → (f i).d.length = 32 := fun i hi => by
      show (if h : i < n then (each i h).choose else nd0).d.length = 32
      rw [dif_pos hi]; exact (each i hi).choose_spec.1
    have hfc : ∀ i, i < n → ∀ j v, (f i).cells[j]? = some v → W.cell? ((a.add (i * 34)).add j) = some v := fun i hi j v => by
      show (if h : i < n then (each i h).choose else nd0).cells[j]? = some v → _
      rw [dif_pos hi]; exact (each i hi).choose_spec.2 j v
    refine ⟨(some a, n, c, (List.range n).map f), rfl, ⟨by simp, hl, by unfold maxLen at hm; omega, (fun e => by cases e), fun hn => ?_, fun x hx => ?_⟩⟩
    · have h32 : (f 0).cells[0]? ≠ none := by
        have := Nd.len (f 0) (hfd 0 hn)
        rw [List.getElem?_eq_getElem (by omega)]
        intro h; cases h
      obtain ⟨v0, hv0⟩ := Option.ne_none_iff_exists'.1 h32
      have hc0 := hfc 0 hn 0 v0 hv0
      have hsp0 := spot_none hc0
      have hsp : a.spot = none := by
        simpa [Addr.add] using hsp0
      have ha : a = ⟨a.block, a.off, none⟩ := by cases a; simp only [Addr.mk.injEq, true_and]; exact hsp
      refine ⟨a.block, a.off, congrArg some ha, fun i hi j v hv => ?_, ?_⟩
      · rw [List.length_map, List.length_range] at hi
        rw [List.getElem_map, List.getElem_range] at hv
        have := hfc i hi j v hv
        rw [ha, addr_add, addr_add] at this
        exact this
      · have := World.block_lt_of_cell? W _ hc0
        simpa [Addr.add] using this
    · obtain ⟨i, hi, rfl⟩ := List.mem_map.1 hx
      exact hfd i (List.mem_range.1 hi)
end
end Go.Proofs.YtedokiemlkccaaaDoor
