/- The statement TreePathSpec: Path and Climb match the specification; for all inputs, under the tables of package digest as the row lists them. -/
import Derived.Test.YtedokiemlkccaaaDoorTie
import Derived.Test.YtedokiemlkccaaaDoorCards
import Derived.Test.YtedokiemlkccaaaDoorL
import Derived.Test.YtedokiemlkccaaaDoorFJ
import Derived.Test.YtedokiemlkccaaaDoorTH
import Derived.SevenTiedAt
namespace Go.Proofs.YtedokiemlkccaaaDoor.treePathSpec
open Go.ChangeShapes Go.WideShapes Go.ChangeAt Go.WideMaps Go.WideElems Go.RowKit
set_option linter.all false
set_option maxRecDepth 100000 in
theorem lifted (os : Os) (started : os.Started) (H : Type) (enc : TypeId × Value → H) :
    ReturnsInHanded {} Tryd.checked os 8 .any (fun w args => (Rows.treePathSpecSpec.pre enc Tryd.prog Tryd.f8 [] false w args ∧ laidMetH Tryd.prog laidL w) ∧ sizedMet enc Tryd.prog Tryd.f8 (OpenSpec.ofChange Rows.treePathSpecSpec) false w args)
      (Rows.treePathSpecSpec.post enc Tryd.prog Tryd.f8 false true false false) := by
  refine row_of_walk (ts := [44, 46, 3, 3, 44]) os started H enc (by kernel_rfl) Tryd.func8 Tryd.params8 (by kernel_rfl) rfl (fun ds h => by match ds, h with | [d0, d1, d2, d3, d4], _ => rfl) (by kernel_rfl)
    #[.slice none 0 0, .agg ((u8s (List.replicate 32 0)).toArray ++ #[.int .i64 0, .int .i64 0]), .int .i64 0, .int .i64 0, .slice none 0 0] (by kernel_rfl) (by kernel_rfl) (by kernel_rfl) ?_
  intro W base args ds ps hT hval hA hsz
  rw [Tryd.params8] at hval
  obtain ⟨v0, vs0, d0, ds0, p0, q0, hargs, rfl, rfl, h0, r0⟩ := trodAll_cons hA
  obtain ⟨v1, vs1, d1, ds1, p1, q1, rfl, rfl, rfl, h1, r1⟩ := trodAll_cons r0
  obtain ⟨v2, vs2, d2, ds2, p2, q2, rfl, rfl, rfl, h2, r2⟩ := trodAll_cons r1
  obtain ⟨v3, vs3, d3, ds3, p3, q3, rfl, rfl, rfl, h3, r3⟩ := trodAll_cons r2
  obtain ⟨v4, vs4, d4, ds4, p4, q4, rfl, rfl, rfl, h4, r4⟩ := trodAll_cons r3
  obtain ⟨rfl, rfl, rfl⟩ := trodAll_nil r4
  obtain rfl : args = #[v0, v1, v2, v3, v4] := by cases args; simp_all
  obtain ⟨a0, rfl, w0⟩ := open_44 (hval 0 44 v0 rfl rfl) h0
  obtain ⟨a1, rfl, w1⟩ := open_46 (hval 1 46 v1 rfl rfl) h1
  obtain ⟨a2, rfl, rfl, rfl, w2⟩ := open_int Tryd.underlying3 (hval 2 3 v2 rfl rfl) h2
  obtain ⟨a3, rfl, rfl, rfl, w3⟩ := open_int Tryd.underlying3 (hval 3 3 v3 rfl rfl) h3
  obtain ⟨a4, rfl, w4⟩ := open_44 (hval 4 44 v4 rfl rfl) h4
  exact pathspec_walk a0.1 a0.2.1 a0.2.2.1 a0.2.2.2 a1 a2 a3 a4.1 a4.2.1 a4.2.2.1 a4.2.2.2 W w0 w1 w4 hT
theorem row : Rows.TreePathSpecSaid :=
  OpenClaim.holds_of_wide 8 Tryd.f8 rfl rfl rfl rfl rfl rfl rfl ⟨rfl, rfl, rfl, rfl, rfl⟩ rfl rfl rfl rfl rfl (by kernel_rfl) Tryd.func8 (by kernel_rfl)
    (of_decide_eq_true (by kernel_rfl)) (by unfold Func.isWrapper; first | (rw [if_pos (by decide +kernel)]; kernel_rfl) | (rw [if_neg (by decide +kernel)]; exact ⟨rfl, rfl⟩))
    (fun os started H enc _ => lifted os started H enc)
/-- The statement. -/
theorem proved : Rows.TreePathSpecCardSaid :=
  Claim7.holds_tied_plain_at .later [] [.data, .data] true Rows.treePathSpecCard.stood.harness false
    row (fun _ h => by cases h) (by kernel_rfl) (fun _ h => by cases h) treePathSpec_row_tie rfl ⟨rfl, rfl⟩ (by kernel_rfl) rfl
    (fun f fn hf hfn => by
      obtain rfl : f = 8 := Option.some.inj ((show Tryd.prog.funcNamed "sizar/sizarlaw41.TreePathSpec" = some 8 by kernel_rfl).symm.trans hf) |>.symm
      obtain rfl : fn = Tryd.f8 := (Option.some.inj (Tryd.func8.symm.trans hfn)).symm
      exact ⟨by kernel_rfl, fun j t ht => by
        rw [Tryd.params8] at ht
        have hm : t ∈ ([44, 46, 3, 3, 44] : List TypeId) := by simpa using Array.mem_of_getElem? ht
        have hall : (([44, 46, 3, 3, 44] : List TypeId).all fun u => !Tryd.prog.wantsStandIn u) = true := by kernel_rfl
        exact (show Tryd.prog.wantsStandIn t = false by simpa using List.all_eq_true.1 hall t hm)⟩)
    (by kernel_rfl)
#print axioms proved
end Go.Proofs.YtedokiemlkccaaaDoor.treePathSpec
