/- The statement GroupScalarsSpec: for all arguments the law returns true, and its arguments read as before; the two tables of package digest hold what the program's text lays. No further condition. -/
import Derived.Test.YtedokiemlkccaaaDoorTie
import Derived.Test.YtedokiemlkccaaaDoorCards
import Derived.Test.YtedokiemlkccaaaDoorL
import Derived.Test.YtedokiemlkccaaaDoorRG
import Derived.SevenTiedAt
namespace Go.Proofs.YtedokiemlkccaaaDoor.groupScalarsSpec
open Go.ChangeShapes Go.WideShapes Go.ChangeAt Go.WideMaps Go.WideElems Go.RowKit
set_option linter.unusedVariables false
set_option maxRecDepth 100000 in
theorem lifted (os : Os) (started : os.Started) (H : Type) (enc : TypeId × Value → H) :
    ReturnsInHanded {} Tryd.checked os 4 .any (fun w args => (Rows.groupScalarsSpecSpec.pre enc Tryd.prog Tryd.f4 [] false w args ∧ laidMetH Tryd.prog laidL w) ∧ sizedMet enc Tryd.prog Tryd.f4 (OpenSpec.ofChange Rows.groupScalarsSpecSpec) false w args)
      (Rows.groupScalarsSpecSpec.post enc Tryd.prog Tryd.f4 false true false false) := by
  refine row_of_walk (ts := [3, 3, 9, 22]) os started H enc (by kernel_rfl) Tryd.func4 Tryd.params4 (by kernel_rfl) rfl (fun ds h => by match ds, h with | [d0, d1, d2, d3], _ => rfl) (by kernel_rfl)
    #[.int .i64 0, .int .i64 0, .string ByteArray.empty, .slice none 0 0] (by kernel_rfl) (by kernel_rfl) (by kernel_rfl) ?_
  intro W base args ds ps hT hval hA hsz
  rw [Tryd.params4] at hval
  obtain ⟨v0, vs0, d0, ds0, p0, q0, hargs, rfl, rfl, h0, r0⟩ := trodAll_cons hA
  obtain ⟨v1, vs1, d1, ds1, p1, q1, rfl, rfl, rfl, h1, r1⟩ := trodAll_cons r0
  obtain ⟨v2, vs2, d2, ds2, p2, q2, rfl, rfl, rfl, h2, r2⟩ := trodAll_cons r1
  obtain ⟨v3, vs3, d3, ds3, p3, q3, rfl, rfl, rfl, h3, r3⟩ := trodAll_cons r2
  obtain ⟨rfl, rfl, rfl⟩ := trodAll_nil r3
  obtain rfl : args = #[v0, v1, v2, v3] := by cases args; simp_all
  obtain ⟨a0, rfl, rfl, rfl, w0⟩ := open_int Tryd.underlying3 (hval 0 3 v0 rfl rfl) h0
  obtain ⟨a1, rfl, rfl, rfl, w1⟩ := open_int Tryd.underlying3 (hval 1 3 v1 rfl rfl) h1
  obtain ⟨a2, rfl, rfl, rfl, w2⟩ := Go.ChangeMaps.open_string Tryd.underlying9 (hval 2 9 v2 rfl rfl) h2
  have s2 := string_small hsz (j := 2) rfl rfl
  obtain ⟨A3, n3, c3, l3, rfl, b3, w3⟩ := open_bytes (hval 3 22 v3 rfl rfl) h3
  have s3 := bytes_small hsz (j := 3) rfl rfl w3
  exact gscal_walk a0 a1 a2.data.toList A3 n3 c3 l3 W b3 hT
theorem row : Rows.GroupScalarsSpecSaid :=
  OpenClaim.holds_of_wide 4 Tryd.f4 rfl rfl rfl rfl rfl rfl rfl ⟨rfl, rfl, rfl, rfl, rfl⟩ rfl rfl rfl rfl rfl (by kernel_rfl) Tryd.func4 (by kernel_rfl)
    (of_decide_eq_true (by kernel_rfl)) (by unfold Func.isWrapper; first | (rw [if_pos (by decide +kernel)]; kernel_rfl) | (rw [if_neg (by decide +kernel)]; exact ⟨rfl, rfl⟩))
    (fun os started H enc _ => lifted os started H enc)
/-- The statement. -/
theorem proved : Rows.GroupScalarsSpecCardSaid :=
  Claim7.holds_tied_plain_at .later [] [.data, .data] true Rows.groupScalarsSpecCard.stood.harness false
    row (fun _ h => by cases h) (by kernel_rfl) (fun _ h => by cases h) groupScalarsSpec_row_tie rfl ⟨rfl, rfl⟩ (by kernel_rfl) rfl
    (fun f fn hf hfn => by
      obtain rfl : f = 4 := Option.some.inj ((show Tryd.prog.funcNamed "sizar/sizarlaw03.GroupScalarsSpec" = some 4 by kernel_rfl).symm.trans hf) |>.symm
      obtain rfl : fn = Tryd.f4 := (Option.some.inj (Tryd.func4.symm.trans hfn)).symm
      exact ⟨by kernel_rfl, fun j t ht => by
        rw [Tryd.params4] at ht
        have hm : t ∈ ([3, 3, 9, 22] : List TypeId) := by simpa using Array.mem_of_getElem? ht
        have hall : (([3, 3, 9, 22] : List TypeId).all fun u => !Tryd.prog.wantsStandIn u) = true := by kernel_rfl
        exact (show Tryd.prog.wantsStandIn t = false by simpa using List.all_eq_true.1 hall t hm)⟩)
    (by kernel_rfl)
#print axioms proved
end Go.Proofs.YtedokiemlkccaaaDoor.groupScalarsSpec
