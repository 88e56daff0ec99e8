/- The statement TreeParts: the root of nodes is Join of the roots of both parts, and sums do not depend on the order; for all inputs, under the tables of package digest as the row lists them. -/
import Derived.Test.YtedokiemlkccaaaDoorTie
import Derived.Test.YtedokiemlkccaaaDoorCards
import Derived.Test.YtedokiemlkccaaaDoorL
import Derived.Test.YtedokiemlkccaaaDoorTJ
import Derived.Test.YtedokiemlkccaaaDoorTH
import Derived.SevenTiedAt
namespace Go.Proofs.YtedokiemlkccaaaDoor.treeParts
open Go.ChangeShapes Go.WideShapes Go.ChangeAt Go.WideMaps Go.WideElems Go.RowKit
set_option linter.unusedVariables false
set_option maxRecDepth 100000 in
theorem lifted (os : Os) (started : os.Started) (H : Type) (enc : TypeId × Value → H) :
    ReturnsInHanded {} Tryd.checked os 10 .any (fun w args => (Rows.treePartsSpec.pre enc Tryd.prog Tryd.f10 [] false w args ∧ laidMetH Tryd.prog laidL w) ∧ sizedMet enc Tryd.prog Tryd.f10 (OpenSpec.ofChange Rows.treePartsSpec) false w args)
      (Rows.treePartsSpec.post enc Tryd.prog Tryd.f10 false true false false) := by
  refine row_of_walk (ts := [44]) os started H enc (by kernel_rfl) Tryd.func10 Tryd.params10 (by kernel_rfl) rfl (fun ds h => by match ds, h with | [d0], _ => rfl) (by kernel_rfl)
    #[.slice none 0 0] (by kernel_rfl) (by kernel_rfl) (by kernel_rfl) ?_
  intro W base args ds ps hT hval hA hsz
  rw [Tryd.params10] at hval
  obtain ⟨v0, vs0, d0, ds0, p0, q0, hargs, rfl, rfl, h0, r0⟩ := trodAll_cons hA
  obtain ⟨rfl, rfl, rfl⟩ := trodAll_nil r0
  obtain rfl : args = #[v0] := by cases args; simp_all
  obtain ⟨a0, rfl, w0⟩ := open_44 (hval 0 44 v0 rfl rfl) h0
  exact parts_walk a0.1 a0.2.1 a0.2.2.1 a0.2.2.2 W w0 hT
theorem row : Rows.TreePartsSaid :=
  OpenClaim.holds_of_wide 10 Tryd.f10 rfl rfl rfl rfl rfl rfl rfl ⟨rfl, rfl, rfl, rfl, rfl⟩ rfl rfl rfl rfl rfl (by kernel_rfl) Tryd.func10 (by kernel_rfl)
    (of_decide_eq_true (by kernel_rfl)) (by unfold Func.isWrapper; first | (rw [if_pos (by decide +kernel)]; kernel_rfl) | (rw [if_neg (by decide +kernel)]; exact ⟨rfl, rfl⟩))
    (fun os started H enc _ => lifted os started H enc)
/-- The statement. -/
theorem proved : Rows.TreePartsCardSaid :=
  Claim7.holds_tied_plain_at .later [] [.data, .data] true Rows.treePartsCard.stood.harness false
    row (fun _ h => by cases h) (by kernel_rfl) (fun _ h => by cases h) treeParts_row_tie rfl ⟨rfl, rfl⟩ (by kernel_rfl) rfl
    (fun f fn hf hfn => by
      obtain rfl : f = 10 := Option.some.inj ((show Tryd.prog.funcNamed "sizar/sizarlaw41.TreeParts" = some 10 by kernel_rfl).symm.trans hf) |>.symm
      obtain rfl : fn = Tryd.f10 := (Option.some.inj (Tryd.func10.symm.trans hfn)).symm
      exact ⟨by kernel_rfl, fun j t ht => by
        rw [Tryd.params10] at ht
        have hm : t ∈ ([44] : List TypeId) := by simpa using Array.mem_of_getElem? ht
        have hall : (([44] : List TypeId).all fun u => !Tryd.prog.wantsStandIn u) = true := by kernel_rfl
        exact (show Tryd.prog.wantsStandIn t = false by simpa using List.all_eq_true.1 hall t hm)⟩)
    (by kernel_rfl)
#print axioms proved
end Go.Proofs.YtedokiemlkccaaaDoor.treeParts
