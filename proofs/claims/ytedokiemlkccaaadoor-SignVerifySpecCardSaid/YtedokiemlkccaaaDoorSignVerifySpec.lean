/- The statement SignVerifySpec: for all arguments the law returns true, and its arguments read as before; the two tables of package digest hold what the program's text lays. No further condition. -/
import Derived.Test.YtedokiemlkccaaaDoorTie
import Derived.Test.YtedokiemlkccaaaDoorCards
import Derived.Test.YtedokiemlkccaaaDoorL
import Derived.Test.YtedokiemlkccaaaDoorRS
import Derived.Test.YtedokiemlkccaaaDoorC
import Derived.SevenTiedAt
namespace Go.Proofs.YtedokiemlkccaaaDoor.signVerifySpec
open Go.ChangeShapes Go.WideShapes Go.ChangeAt Go.WideMaps Go.WideElems Go.RowKit
set_option linter.unusedVariables false
set_option maxRecDepth 100000 in
theorem lifted (os : Os) (started : os.Started) (H : Type) (enc : TypeId × Value → H) :
    ReturnsInHanded {} Tryd.checked os 17 .any (fun w args => (Rows.signVerifySpecSpec.pre enc Tryd.prog Tryd.f17 [] false w args ∧ laidMetH Tryd.prog laidL w) ∧ sizedMet enc Tryd.prog Tryd.f17 (OpenSpec.ofChange Rows.signVerifySpecSpec) false w args)
      (Rows.signVerifySpecSpec.post enc Tryd.prog Tryd.f17 false true false false) := by
  refine row_of_walk (ts := [3, 22, 29]) os started H enc (by kernel_rfl) Tryd.func17 Tryd.params17 (by kernel_rfl) rfl (fun ds h => by match ds, h with | [d0, d1, d2], _ => rfl) (by kernel_rfl)
    #[.int .i64 0, .slice none 0 0, .agg #[.int .i64 0, .int .i64 0]] (by kernel_rfl) (by kernel_rfl) (by kernel_rfl) ?_
  intro W base args ds ps hT hval hA hsz
  rw [Tryd.params17] at hval
  obtain ⟨v0, vs0, d0, ds0, p0, q0, hargs, rfl, rfl, h0, r0⟩ := trodAll_cons hA
  obtain ⟨v1, vs1, d1, ds1, p1, q1, rfl, rfl, rfl, h1, r1⟩ := trodAll_cons r0
  obtain ⟨v2, vs2, d2, ds2, p2, q2, rfl, rfl, rfl, h2, r2⟩ := trodAll_cons r1
  obtain ⟨rfl, rfl, rfl⟩ := trodAll_nil r2
  obtain rfl : args = #[v0, v1, v2] := by cases args; simp_all
  obtain ⟨a0, rfl, rfl, rfl, w0⟩ := open_int Tryd.underlying3 (hval 0 3 v0 rfl rfl) h0
  obtain ⟨A1, n1, c1, l1, rfl, b1, w1⟩ := open_bytes (hval 1 22 v1 rfl rfl) h1
  have s1 := bytes_small hsz (j := 1) rfl rfl w1
  obtain ⟨a2, rfl, w2⟩ := open_29 (hval 2 29 v2 rfl rfl) h2
  exact verspec_walk a0 a2.1 a2.2 A1 n1 c1 l1 W b1 hT
theorem row : Rows.SignVerifySpecSaid :=
  OpenClaim.holds_of_wide 17 Tryd.f17 rfl rfl rfl rfl rfl rfl rfl ⟨rfl, rfl, rfl, rfl, rfl⟩ rfl rfl rfl rfl rfl (by kernel_rfl) Tryd.func17 (by kernel_rfl)
    (of_decide_eq_true (by kernel_rfl)) (by unfold Func.isWrapper; first | (rw [if_pos (by decide +kernel)]; kernel_rfl) | (rw [if_neg (by decide +kernel)]; exact ⟨rfl, rfl⟩))
    (fun os started H enc _ => lifted os started H enc)
/-- The statement. -/
theorem proved : Rows.SignVerifySpecCardSaid :=
  Claim7.holds_tied_plain_at .later [] [.data, .data] true Rows.signVerifySpecCard.stood.harness false
    row (fun _ h => by cases h) (by kernel_rfl) (fun _ h => by cases h) signVerifySpec_row_tie rfl ⟨rfl, rfl⟩ (by kernel_rfl) rfl
    (fun f fn hf hfn => by
      obtain rfl : f = 17 := Option.some.inj ((show Tryd.prog.funcNamed "sizar/sizarlaw04.SignVerifySpec" = some 17 by kernel_rfl).symm.trans hf) |>.symm
      obtain rfl : fn = Tryd.f17 := (Option.some.inj (Tryd.func17.symm.trans hfn)).symm
      exact ⟨by kernel_rfl, fun j t ht => by
        rw [Tryd.params17] at ht
        have hm : t ∈ ([3, 22, 29] : List TypeId) := by simpa using Array.mem_of_getElem? ht
        have hall : (([3, 22, 29] : List TypeId).all fun u => !Tryd.prog.wantsStandIn u) = true := by kernel_rfl
        exact (show Tryd.prog.wantsStandIn t = false by simpa using List.all_eq_true.1 hall t hm)⟩)
    (by kernel_rfl)
#print axioms proved
end Go.Proofs.YtedokiemlkccaaaDoor.signVerifySpec
