/- Digests that come in by value. -/
import Derived.Test.YtedokiemlkccaaaDoorC
set_option linter.all false
namespace Go.Proofs.YtedokiemlkccaaaDoor
open Go.RowKit
open Go.ChangeShapes Go.WideShapes Go.ChangeAt Go.Joins
theorem cells41 : Tryd.prog.cellsOf 41 = 32 := by kernel_rfl
set_option maxRecDepth 100000
/-- the cells of a digest are bytes. -/
theorem trod_digest {H : Type} {enc : TypeId × Value → H} {W : World} {b fuel : Nat} {sp : Nat → Bool} {held : Bool} {cs : List Value} {x : DataW H × List MemPlace}
    (h : DataW.trod enc Tryd.prog W b sp held fuel 41 cs = some x) : ∃ d : List UInt8, d.length = 32 ∧ cs = u8s d := by
  obtain ⟨ys, m, rfl, hx, hl, hn, hel⟩ := DataW.trod_array Tryd.underlying41 h
  rw [cells41] at hl
  refine ⟨cs.map fun v => match v with | .int _ k => UInt8.ofNat k.toNat | _ => 0, by rw [List.length_map]; exact hl, ?_⟩
  apply List.ext_getElem?
  intro i
  by_cases h1 : i < cs.length
  case neg => rw [List.getElem?_eq_none (by omega), List.getElem?_eq_none (by rw [u8s_length, List.length_map]; omega)]
  have he := hel i (by omega)
  rw [cells5, Nat.mul_one] at he
  have hy : ∃ y, ys[i]? = some y := ⟨_, List.getElem?_eq_getElem (by omega)⟩
  obtain ⟨y, hy⟩ := hy
  rw [hy] at he
  obtain ⟨k, e1, _, hw⟩ := DataW.trod_int Tryd.underlying5 he
  have hk : cs[i] = .int .u8 k := by
    have : ((cs.drop i).take 1)[0]? = some (.int .u8 k) := by rw [e1]; rfl
    rw [List.getElem?_take, if_pos (by decide), List.getElem?_drop, Nat.add_zero, List.getElem?_eq_getElem h1] at this
    exact Option.some.inj this
  have hr : 0 ≤ k ∧ k < 256 := by
    have h2 : IntKind.u8.min ≤ k ∧ k ≤ IntKind.u8.max := by
      unfold Lit.wf at hw
      rw [Bool.and_eq_true, decide_eq_true_eq, decide_eq_true_eq] at hw
      exact hw
    have e1 : IntKind.u8.min = 0 := rfl
    have e2 : IntKind.u8.max = 255 := rfl
    omega
  rw [u8s_get _ _ (by rw [List.length_map]; exact h1), List.getElem?_eq_getElem h1, hk]
  unfold bI
  rw [List.getD_eq_getElem?_getD, List.getElem?_map, List.getElem?_eq_getElem h1, hk]
  show _ = some (Value.int .u8 (((UInt8.ofNat k.toNat).toNat : Nat) : Int))
  rw [UInt8.toNat_ofNat', Nat.mod_eq_of_lt (by omega), Int.toNat_of_nonneg hr.1]
/-- a digest that comes in by value. -/
theorem open_41 {H : Type} {enc : TypeId × Value → H} {W : World} {sp : Nat → Bool} {held : Bool} {v : Value} {d : DataW H} {ps : List MemPlace} {r : Reach} {b0 : Nat}
    (hval : Value.okWide Tryd.prog W r b0 41 v) (hd : DataW.Trod enc Tryd.prog W 0 sp held 41 v d ps) : ∃ a : List UInt8, v = .agg (u8s a).toArray ∧ a.length = 32 := by
  simp only [Value.okWide, Tryd.underlying41] at hval
  obtain ⟨cs, rfl, _⟩ := hval
  obtain ⟨fuel, hf⟩ := hd
  obtain ⟨a, ha, he⟩ := trod_digest hf
  refine ⟨a, ?_, ha⟩
  have he : cs.toList = u8s a := he
  rw [← he]
end Go.Proofs.YtedokiemlkccaaaDoor
