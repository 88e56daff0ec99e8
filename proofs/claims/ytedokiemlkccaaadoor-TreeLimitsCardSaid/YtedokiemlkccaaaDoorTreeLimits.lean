/- The statement TreeLimits: nodes are joined exactly if both are valid and the sum of their credits is not too much, and the node of a join is valid; for all inputs, under the tables of package digest as the row lists them. -/
import Derived.Test.YtedokiemlkccaaaDoorTie
import Derived.Test.YtedokiemlkccaaaDoorCards
import Derived.Test.YtedokiemlkccaaaDoorL
import Derived.Test.YtedokiemlkccaaaDoorTI
import Derived.Test.YtedokiemlkccaaaDoorTH
import Derived.SevenTiedAt
namespace Go.Proofs.YtedokiemlkccaaaDoor.treeLimits
open Go.ChangeShapes Go.WideShapes Go.ChangeAt Go.WideMaps Go.WideElems Go.RowKit
set_option linter.unusedVariables false
set_option maxRecDepth 100000 in
theorem lifted (os : Os) (started : os.Started) (H : Type) (enc : TypeId × Value → H) :
    ReturnsInHanded {} Tryd.checked os 11 .any (fun w args => (Rows.treeLimitsSpec.pre enc Tryd.prog Tryd.f11 [] false w args ∧ laidMetH Tryd.prog laidL w) ∧ sizedMet enc Tryd.prog Tryd.f11 (OpenSpec.ofChange Rows.treeLimitsSpec) false w args)
      (Rows.treeLimitsSpec.post enc Tryd.prog Tryd.f11 false true false false) := by
  refine row_of_walk (ts := [46, 46]) os started H enc (by kernel_rfl) Tryd.func11 Tryd.params11 (by kernel_rfl) rfl (fun ds h => by match ds, h with | [d0, d1], _ => rfl) (by kernel_rfl)
    #[.agg ((u8s (List.replicate 32 0)).toArray ++ #[.int .i64 0, .int .i64 0]), .agg ((u8s (List.replicate 32 0)).toArray ++ #[.int .i64 0, .int .i64 0])] (by kernel_rfl) (by kernel_rfl) (by kernel_rfl) ?_
  intro W base args ds ps hT hval hA hsz
  rw [Tryd.params11] at hval
  obtain ⟨v0, vs0, d0, ds0, p0, q0, hargs, rfl, rfl, h0, r0⟩ := trodAll_cons hA
  obtain ⟨v1, vs1, d1, ds1, p1, q1, rfl, rfl, rfl, h1, r1⟩ := trodAll_cons r0
  obtain ⟨rfl, rfl, rfl⟩ := trodAll_nil r1
  obtain rfl : args = #[v0, v1] := by cases args; simp_all
  obtain ⟨a0, rfl, w0⟩ := open_46 (hval 0 46 v0 rfl rfl) h0
  obtain ⟨a1, rfl, w1⟩ := open_46 (hval 1 46 v1 rfl rfl) h1
  exact limits_walk a0 a1 W w0 w1 hT
theorem row : Rows.TreeLimitsSaid :=
  OpenClaim.holds_of_wide 11 Tryd.f11 rfl rfl rfl rfl rfl rfl rfl ⟨rfl, rfl, rfl, rfl, rfl⟩ rfl rfl rfl rfl rfl (by kernel_rfl) Tryd.func11 (by kernel_rfl)
    (of_decide_eq_true (by kernel_rfl)) (by unfold Func.isWrapper; first | (rw [if_pos (by decide +kernel)]; kernel_rfl) | (rw [if_neg (by decide +kernel)]; exact ⟨rfl, rfl⟩))
    (fun os started H enc _ => lifted os started H enc)
/-- The statement. -/
theorem proved : Rows.TreeLimitsCardSaid :=
  Claim7.holds_tied_plain_at .later [] [.data, .data] true Rows.treeLimitsCard.stood.harness false
    row (fun _ h => by cases h) (by kernel_rfl) (fun _ h => by cases h) treeLimits_row_tie rfl ⟨rfl, rfl⟩ (by kernel_rfl) rfl
    (fun f fn hf hfn => by
      obtain rfl : f = 11 := Option.some.inj ((show Tryd.prog.funcNamed "sizar/sizarlaw41.TreeLimits" = some 11 by kernel_rfl).symm.trans hf) |>.symm
      obtain rfl : fn = Tryd.f11 := (Option.some.inj (Tryd.func11.symm.trans hfn)).symm
      exact ⟨by kernel_rfl, fun j t ht => by
        rw [Tryd.params11] at ht
        have hm : t ∈ ([46, 46] : List TypeId) := by simpa using Array.mem_of_getElem? ht
        have hall : (([46, 46] : List TypeId).all fun u => !Tryd.prog.wantsStandIn u) = true := by kernel_rfl
        exact (show Tryd.prog.wantsStandIn t = false by simpa using List.all_eq_true.1 hall t hm)⟩)
    (by kernel_rfl)
#print axioms proved
end Go.Proofs.YtedokiemlkccaaaDoor.treeLimits
