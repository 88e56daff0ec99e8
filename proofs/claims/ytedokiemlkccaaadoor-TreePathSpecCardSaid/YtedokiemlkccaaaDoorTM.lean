/- Lines that come in. -/
import Derived.Test.YtedokiemlkccaaaDoorTK
import Derived.Test.YtedokiemlkccaaaDoorTH
set_option linter.all false
namespace Go.Proofs.YtedokiemlkccaaaDoor
open Go.RowKit
open Go.ChangeShapes Go.WideShapes Go.ChangeAt Go.Joins
set_option maxRecDepth 100000 in
/-- lines that come in. -/
theorem open_69 {H : Type} {enc : TypeId × Value → H} {W : World} {sp : Nat → Bool} {held : Bool} {v : Value} {d : DataW H} {ps : List MemPlace} {r : Reach} {b0 : Nat}
    (hval : Value.okWide Tryd.prog W r b0 69 v) (hd : DataW.Trod enc Tryd.prog W 0 sp held 69 v d ps) : ∃ a : Option Addr × Nat × Nat × List Ln, v = .slice a.1 a.2.1 a.2.2.1 ∧ LS W a.1 a.2.1 a.2.2.1 a.2.2.2 := by
  obtain ⟨A, n, c, rfl⟩ := okWide_slice Tryd.underlying69 hval
  obtain ⟨fuel, hf⟩ := hd
  rcases DataW.trod_slice Tryd.underlying69 hf with ⟨h0, _⟩ | ⟨a, len, cap, elems, rest, m, _, hcs, _, _, hl, hm, hlen, hel, _, _⟩
  · have e : Value.slice A n c = .slice none 0 0 := by simpa [Value.cells] using h0
    cases e
    exact ⟨(none, 0, 0, []), rfl, ⟨rfl, Nat.le_refl _, (show 0 ≤ 9223372036854775807 by omega), fun h => absurd h (Nat.lt_irrefl 0)⟩⟩
  · have e : Value.slice A n c = .slice (some a) len cap := by simpa [Value.cells] using hcs
    cases e
    have each : ∀ i, i < n → ∃ x : Ln, ∀ j v, x.arr[j]? = some v → W.cell? ((a.add (i * 5)).add j) = some v := by
      intro i hi
      have h1 := hel i hi
      rw [cells65, List.getElem?_eq_getElem (by omega)] at h1
      obtain ⟨cs, hc, ht⟩ := Option.bind_eq_some_iff.1 h1
      obtain ⟨x, hx⟩ := trod_line ht
      obtain ⟨_, hL, hcell⟩ := World.cells?_some hc
      refine ⟨x, fun j v hj => ?_⟩
      rw [← hx, List.getElem?_toArray] at hj
      have hjl : j < 5 := by
        rcases Nat.lt_or_ge j 5 with h | h
        · exact h
        · rw [List.getElem?_eq_none (by rw [hL]; exact h)] at hj; cases hj
      rw [hcell j hjl, hj]
    let f : Nat → Ln := fun i => if h : i < n then (each i h).choose else ⟨0, 0, 0, 0, 0⟩
    have hfc : ∀ i, i < n → ∀ j v, (f i).arr[j]? = some v → W.cell? ((a.add (i * 5)).add j) = some v := fun i hi j v => by
      show (if h : i < n then (each i h).choose else ⟨0, 0, 0, 0, 0⟩ : Ln).arr[j]? = some v → _
      rw [dif_pos hi]; exact (each i hi).choose_spec j v
    refine ⟨(some a, n, c, (List.range n).map f), rfl, ⟨by simp, hl, by unfold maxLen at hm; omega, fun hn => ?_⟩⟩
    have hc0 := hfc 0 hn 0 _ rfl
    have hsp0 := spot_none hc0
    have hsp : a.spot = none := by
      simpa [Addr.add] using hsp0
    have ha : a = ⟨a.block, a.off, none⟩ := by cases a; simp only [Addr.mk.injEq, true_and]; exact hsp
    refine ⟨a.block, a.off, congrArg some ha, fun i hi j v hv => ?_, ?_⟩
    · rw [List.length_map, List.length_range] at hi
      rw [List.getElem_map, List.getElem_range] at hv
      have := hfc i hi j v hv
      rw [ha, addr_add, addr_add] at this
      exact this
    · have := World.block_lt_of_cell? W _ hc0
      simpa [Addr.add] using this
end Go.Proofs.YtedokiemlkccaaaDoor
