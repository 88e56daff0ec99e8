/-
  DERIVED. GIVEN WITH THE SEED: THE CARDS: each row of YtedokiemlkccaaaDoorRows.lean that lists a variable, with what it lists TIED to the program's text (the seventh form; the later family's looks); each row that meets fmt, with fmt's text TOLD by the authors' own Lean function (tested against real Go, not proved from fmt's source: count such statements apart). THE CARD IS WHAT COUNTS. Prove the row's statement (the work); the ties are given (YtedokiemlkccaaaDoorTie.lean); close each card by the builder's one call (the guide's Derived/Test/ToyasCard.lean, 'card_holds'). Laid BY PROGRAM, IN A SANDBOX (cutbox-door.mjs). By AI agents, Wed Nov 11 2026. No macro, syntax, notation, axiom, sorry.
-/
import Derived.Test.YtedokiemlkccaaaDoorRows
import GoSem.ClaimSeven
namespace Go.Proofs.YtedokiemlkccaaaDoor
namespace Rows

/-- THE TIED CARD OF 'sizarlaw04.SignNonce'. -/
def signNonceCard : Claim7 := { stood := { row := signNonceRow, standIns := [], harness := (true, "0b8cd2c544e7f5ca45ee9567fbdbed488d0f0203b5f3e14555fc17d3aa747616"), looks := false }, kinds := [], alts := [], laidByText := true, laidKinds := [.data, .data], laidTests := true, laidLooks := .later }
def SignNonceCardSaid : Prop := Claim7.holds Tryd.pinned (.plain (OpenSpec.ofChange signNonceSpec)) signNonceCard

/-- THE TIED CARD OF 'sizarlaw03.GroupScalarsSpec'. -/
def groupScalarsSpecCard : Claim7 := { stood := { row := groupScalarsSpecRow, standIns := [], harness := (true, "0b8cd2c544e7f5ca45ee9567fbdbed488d0f0203b5f3e14555fc17d3aa747616"), looks := false }, kinds := [], alts := [], laidByText := true, laidKinds := [.data, .data], laidTests := true, laidLooks := .later }
def GroupScalarsSpecCardSaid : Prop := Claim7.holds Tryd.pinned (.plain (OpenSpec.ofChange groupScalarsSpecSpec)) groupScalarsSpecCard

/-- THE TIED CARD OF 'sizarlaw04.SignDifference'. -/
def signDifferenceCard : Claim7 := { stood := { row := signDifferenceRow, standIns := [], harness := (true, "0b8cd2c544e7f5ca45ee9567fbdbed488d0f0203b5f3e14555fc17d3aa747616"), looks := false }, kinds := [], alts := [], laidByText := true, laidKinds := [.data, .data], laidTests := true, laidLooks := .later }
def SignDifferenceCardSaid : Prop := Claim7.holds Tryd.pinned (.plain (OpenSpec.ofChange signDifferenceSpec)) signDifferenceCard

/-- THE TIED CARD OF 'sizarlaw03.GroupDetermined'. -/
def groupDeterminedCard : Claim7 := { stood := { row := groupDeterminedRow, standIns := [], harness := (true, "0b8cd2c544e7f5ca45ee9567fbdbed488d0f0203b5f3e14555fc17d3aa747616"), looks := false }, kinds := [], alts := [], laidByText := true, laidKinds := [.data, .data], laidTests := true, laidLooks := .later }
def GroupDeterminedCardSaid : Prop := Claim7.holds Tryd.pinned (.plain (OpenSpec.ofChange groupDeterminedSpec)) groupDeterminedCard

/-- THE TIED CARD OF 'sizarlaw41.TreeRootSpec'. -/
def treeRootSpecCard : Claim7 := { stood := { row := treeRootSpecRow, standIns := [], harness := (true, "0b8cd2c544e7f5ca45ee9567fbdbed488d0f0203b5f3e14555fc17d3aa747616"), looks := false }, kinds := [], alts := [], laidByText := true, laidKinds := [.data, .data], laidTests := true, laidLooks := .later }
def TreeRootSpecCardSaid : Prop := Claim7.holds Tryd.pinned (.plain (OpenSpec.ofChange treeRootSpecSpec)) treeRootSpecCard

/-- THE TIED CARD OF 'sizarlaw41.TreePathSpec'. -/
def treePathSpecCard : Claim7 := { stood := { row := treePathSpecRow, standIns := [], harness := (true, "0b8cd2c544e7f5ca45ee9567fbdbed488d0f0203b5f3e14555fc17d3aa747616"), looks := false }, kinds := [], alts := [], laidByText := true, laidKinds := [.data, .data], laidTests := true, laidLooks := .later }
def TreePathSpecCardSaid : Prop := Claim7.holds Tryd.pinned (.plain (OpenSpec.ofChange treePathSpecSpec)) treePathSpecCard

/-- THE TIED CARD OF 'sizarlaw41.TreeBinds'. -/
def treeBindsCard : Claim7 := { stood := { row := treeBindsRow, standIns := [], harness := (true, "0b8cd2c544e7f5ca45ee9567fbdbed488d0f0203b5f3e14555fc17d3aa747616"), looks := false }, kinds := [], alts := [], laidByText := true, laidKinds := [.data, .data], laidTests := true, laidLooks := .later }
def TreeBindsCardSaid : Prop := Claim7.holds Tryd.pinned (.plain (OpenSpec.ofChange treeBindsSpec)) treeBindsCard

/-- THE TIED CARD OF 'sizarlaw41.TreeParts'. -/
def treePartsCard : Claim7 := { stood := { row := treePartsRow, standIns := [], harness := (true, "0b8cd2c544e7f5ca45ee9567fbdbed488d0f0203b5f3e14555fc17d3aa747616"), looks := false }, kinds := [], alts := [], laidByText := true, laidKinds := [.data, .data], laidTests := true, laidLooks := .later }
def TreePartsCardSaid : Prop := Claim7.holds Tryd.pinned (.plain (OpenSpec.ofChange treePartsSpec)) treePartsCard

/-- THE TIED CARD OF 'sizarlaw41.TreeLimits'. -/
def treeLimitsCard : Claim7 := { stood := { row := treeLimitsRow, standIns := [], harness := (true, "0b8cd2c544e7f5ca45ee9567fbdbed488d0f0203b5f3e14555fc17d3aa747616"), looks := false }, kinds := [], alts := [], laidByText := true, laidKinds := [.data, .data], laidTests := true, laidLooks := .later }
def TreeLimitsCardSaid : Prop := Claim7.holds Tryd.pinned (.plain (OpenSpec.ofChange treeLimitsSpec)) treeLimitsCard

/-- THE TIED CARD OF 'sizarlaw41.TreeLeafSpec'. -/
def treeLeafSpecCard : Claim7 := { stood := { row := treeLeafSpecRow, standIns := [], harness := (true, "0b8cd2c544e7f5ca45ee9567fbdbed488d0f0203b5f3e14555fc17d3aa747616"), looks := false }, kinds := [], alts := [], laidByText := true, laidKinds := [.data, .data], laidTests := true, laidLooks := .later }
def TreeLeafSpecCardSaid : Prop := Claim7.holds Tryd.pinned (.plain (OpenSpec.ofChange treeLeafSpecSpec)) treeLeafSpecCard

/-- THE TIED CARD OF 'sizarlaw41.TreeClimbs'. -/
def treeClimbsCard : Claim7 := { stood := { row := treeClimbsRow, standIns := [], harness := (true, "0b8cd2c544e7f5ca45ee9567fbdbed488d0f0203b5f3e14555fc17d3aa747616"), looks := false }, kinds := [], alts := [], laidByText := true, laidKinds := [.data, .data], laidTests := true, laidLooks := .later }
def TreeClimbsCardSaid : Prop := Claim7.holds Tryd.pinned (.plain (OpenSpec.ofChange treeClimbsSpec)) treeClimbsCard

/-- THE TIED CARD OF 'sizarlaw41.TreeHidden'. -/
def treeHiddenCard : Claim7 := { stood := { row := treeHiddenRow, standIns := [], harness := (true, "0b8cd2c544e7f5ca45ee9567fbdbed488d0f0203b5f3e14555fc17d3aa747616"), looks := false }, kinds := [], alts := [], laidByText := true, laidKinds := [.data, .data], laidTests := true, laidLooks := .later }
def TreeHiddenCardSaid : Prop := Claim7.holds Tryd.pinned (.plain (OpenSpec.ofChange treeHiddenSpec)) treeHiddenCard

/-- THE TIED CARD OF 'sizarlaw04.SignPublicSpec'. -/
def signPublicSpecCard : Claim7 := { stood := { row := signPublicSpecRow, standIns := [], harness := (true, "0b8cd2c544e7f5ca45ee9567fbdbed488d0f0203b5f3e14555fc17d3aa747616"), looks := false }, kinds := [], alts := [], laidByText := true, laidKinds := [.data, .data], laidTests := true, laidLooks := .later }
def SignPublicSpecCardSaid : Prop := Claim7.holds Tryd.pinned (.plain (OpenSpec.ofChange signPublicSpecSpec)) signPublicSpecCard

/-- THE TIED CARD OF 'sizarlaw04.SignPrivateSpec'. -/
def signPrivateSpecCard : Claim7 := { stood := { row := signPrivateSpecRow, standIns := [], harness := (true, "0b8cd2c544e7f5ca45ee9567fbdbed488d0f0203b5f3e14555fc17d3aa747616"), looks := false }, kinds := [], alts := [], laidByText := true, laidKinds := [.data, .data], laidTests := true, laidLooks := .later }
def SignPrivateSpecCardSaid : Prop := Claim7.holds Tryd.pinned (.plain (OpenSpec.ofChange signPrivateSpecSpec)) signPrivateSpecCard

/-- THE TIED CARD OF 'sizarlaw04.SignVerifySpec'. -/
def signVerifySpecCard : Claim7 := { stood := { row := signVerifySpecRow, standIns := [], harness := (true, "0b8cd2c544e7f5ca45ee9567fbdbed488d0f0203b5f3e14555fc17d3aa747616"), looks := false }, kinds := [], alts := [], laidByText := true, laidKinds := [.data, .data], laidTests := true, laidLooks := .later }
def SignVerifySpecCardSaid : Prop := Claim7.holds Tryd.pinned (.plain (OpenSpec.ofChange signVerifySpecSpec)) signVerifySpecCard

/-- THE TIED CARD OF 'sizarlaw04.SignVerifies'. -/
def signVerifiesCard : Claim7 := { stood := { row := signVerifiesRow, standIns := [], harness := (true, "0b8cd2c544e7f5ca45ee9567fbdbed488d0f0203b5f3e14555fc17d3aa747616"), looks := false }, kinds := [], alts := [], laidByText := true, laidKinds := [.data, .data], laidTests := true, laidLooks := .later }
def SignVerifiesCardSaid : Prop := Claim7.holds Tryd.pinned (.plain (OpenSpec.ofChange signVerifiesSpec)) signVerifiesCard

/-- THE TIED CARD OF 'sizarlaw04.SignEquation'. -/
def signEquationCard : Claim7 := { stood := { row := signEquationRow, standIns := [], harness := (true, "0b8cd2c544e7f5ca45ee9567fbdbed488d0f0203b5f3e14555fc17d3aa747616"), looks := false }, kinds := [], alts := [], laidByText := true, laidKinds := [.data, .data], laidTests := true, laidLooks := .later }
def SignEquationCardSaid : Prop := Claim7.holds Tryd.pinned (.plain (OpenSpec.ofChange signEquationSpec)) signEquationCard

/-- THE TIED CARD OF 'sizarlaw04.SignOnly'. -/
def signOnlyCard : Claim7 := { stood := { row := signOnlyRow, standIns := [], harness := (true, "0b8cd2c544e7f5ca45ee9567fbdbed488d0f0203b5f3e14555fc17d3aa747616"), looks := false }, kinds := [], alts := [], laidByText := true, laidKinds := [.data, .data], laidTests := true, laidLooks := .later }
def SignOnlyCardSaid : Prop := Claim7.holds Tryd.pinned (.plain (OpenSpec.ofChange signOnlySpec)) signOnlyCard

/-- THE SECOND FORM's CARD OF 'sizarlaw04.SignNonce'. -/
def signNonceUptoCard : Claim7 := { stood := { row := signNonceUptoRow, standIns := [], harness := (true, "0b8cd2c544e7f5ca45ee9567fbdbed488d0f0203b5f3e14555fc17d3aa747616"), looks := false }, kinds := [], alts := [], laidByText := true, laidKinds := [.data, .data], laidTests := true, laidLooks := .later }
def SignNonceUptoCardSaid : Prop := Claim7.holds Tryd.pinned (.plain (OpenSpec.upto signNonceSpec)) signNonceUptoCard

/-- THE SECOND FORM's CARD OF 'sizarlaw03.GroupScalarsSpec'. -/
def groupScalarsSpecUptoCard : Claim7 := { stood := { row := groupScalarsSpecUptoRow, standIns := [], harness := (true, "0b8cd2c544e7f5ca45ee9567fbdbed488d0f0203b5f3e14555fc17d3aa747616"), looks := false }, kinds := [], alts := [], laidByText := true, laidKinds := [.data, .data], laidTests := true, laidLooks := .later }
def GroupScalarsSpecUptoCardSaid : Prop := Claim7.holds Tryd.pinned (.plain (OpenSpec.upto groupScalarsSpecSpec)) groupScalarsSpecUptoCard

/-- THE SECOND FORM's CARD OF 'sizarlaw04.SignDifference'. -/
def signDifferenceUptoCard : Claim7 := { stood := { row := signDifferenceUptoRow, standIns := [], harness := (true, "0b8cd2c544e7f5ca45ee9567fbdbed488d0f0203b5f3e14555fc17d3aa747616"), looks := false }, kinds := [], alts := [], laidByText := true, laidKinds := [.data, .data], laidTests := true, laidLooks := .later }
def SignDifferenceUptoCardSaid : Prop := Claim7.holds Tryd.pinned (.plain (OpenSpec.upto signDifferenceSpec)) signDifferenceUptoCard

/-- THE SECOND FORM's CARD OF 'sizarlaw03.GroupDetermined'. -/
def groupDeterminedUptoCard : Claim7 := { stood := { row := groupDeterminedUptoRow, standIns := [], harness := (true, "0b8cd2c544e7f5ca45ee9567fbdbed488d0f0203b5f3e14555fc17d3aa747616"), looks := false }, kinds := [], alts := [], laidByText := true, laidKinds := [.data, .data], laidTests := true, laidLooks := .later }
def GroupDeterminedUptoCardSaid : Prop := Claim7.holds Tryd.pinned (.plain (OpenSpec.upto groupDeterminedSpec)) groupDeterminedUptoCard

/-- THE SECOND FORM's CARD OF 'sizarlaw41.TreeRootSpec'. -/
def treeRootSpecUptoCard : Claim7 := { stood := { row := treeRootSpecUptoRow, standIns := [], harness := (true, "0b8cd2c544e7f5ca45ee9567fbdbed488d0f0203b5f3e14555fc17d3aa747616"), looks := false }, kinds := [], alts := [], laidByText := true, laidKinds := [.data, .data], laidTests := true, laidLooks := .later }
def TreeRootSpecUptoCardSaid : Prop := Claim7.holds Tryd.pinned (.plain (OpenSpec.upto treeRootSpecSpec)) treeRootSpecUptoCard

/-- THE SECOND FORM's CARD OF 'sizarlaw41.TreePathSpec'. -/
def treePathSpecUptoCard : Claim7 := { stood := { row := treePathSpecUptoRow, standIns := [], harness := (true, "0b8cd2c544e7f5ca45ee9567fbdbed488d0f0203b5f3e14555fc17d3aa747616"), looks := false }, kinds := [], alts := [], laidByText := true, laidKinds := [.data, .data], laidTests := true, laidLooks := .later }
def TreePathSpecUptoCardSaid : Prop := Claim7.holds Tryd.pinned (.plain (OpenSpec.upto treePathSpecSpec)) treePathSpecUptoCard

/-- THE SECOND FORM's CARD OF 'sizarlaw41.TreeBinds'. -/
def treeBindsUptoCard : Claim7 := { stood := { row := treeBindsUptoRow, standIns := [], harness := (true, "0b8cd2c544e7f5ca45ee9567fbdbed488d0f0203b5f3e14555fc17d3aa747616"), looks := false }, kinds := [], alts := [], laidByText := true, laidKinds := [.data, .data], laidTests := true, laidLooks := .later }
def TreeBindsUptoCardSaid : Prop := Claim7.holds Tryd.pinned (.plain (OpenSpec.upto treeBindsSpec)) treeBindsUptoCard

/-- THE SECOND FORM's CARD OF 'sizarlaw41.TreeParts'. -/
def treePartsUptoCard : Claim7 := { stood := { row := treePartsUptoRow, standIns := [], harness := (true, "0b8cd2c544e7f5ca45ee9567fbdbed488d0f0203b5f3e14555fc17d3aa747616"), looks := false }, kinds := [], alts := [], laidByText := true, laidKinds := [.data, .data], laidTests := true, laidLooks := .later }
def TreePartsUptoCardSaid : Prop := Claim7.holds Tryd.pinned (.plain (OpenSpec.upto treePartsSpec)) treePartsUptoCard

/-- THE SECOND FORM's CARD OF 'sizarlaw41.TreeLimits'. -/
def treeLimitsUptoCard : Claim7 := { stood := { row := treeLimitsUptoRow, standIns := [], harness := (true, "0b8cd2c544e7f5ca45ee9567fbdbed488d0f0203b5f3e14555fc17d3aa747616"), looks := false }, kinds := [], alts := [], laidByText := true, laidKinds := [.data, .data], laidTests := true, laidLooks := .later }
def TreeLimitsUptoCardSaid : Prop := Claim7.holds Tryd.pinned (.plain (OpenSpec.upto treeLimitsSpec)) treeLimitsUptoCard

/-- THE SECOND FORM's CARD OF 'sizarlaw41.TreeLeafSpec'. -/
def treeLeafSpecUptoCard : Claim7 := { stood := { row := treeLeafSpecUptoRow, standIns := [], harness := (true, "0b8cd2c544e7f5ca45ee9567fbdbed488d0f0203b5f3e14555fc17d3aa747616"), looks := false }, kinds := [], alts := [], laidByText := true, laidKinds := [.data, .data], laidTests := true, laidLooks := .later }
def TreeLeafSpecUptoCardSaid : Prop := Claim7.holds Tryd.pinned (.plain (OpenSpec.upto treeLeafSpecSpec)) treeLeafSpecUptoCard

/-- THE SECOND FORM's CARD OF 'sizarlaw41.TreeClimbs'. -/
def treeClimbsUptoCard : Claim7 := { stood := { row := treeClimbsUptoRow, standIns := [], harness := (true, "0b8cd2c544e7f5ca45ee9567fbdbed488d0f0203b5f3e14555fc17d3aa747616"), looks := false }, kinds := [], alts := [], laidByText := true, laidKinds := [.data, .data], laidTests := true, laidLooks := .later }
def TreeClimbsUptoCardSaid : Prop := Claim7.holds Tryd.pinned (.plain (OpenSpec.upto treeClimbsSpec)) treeClimbsUptoCard

/-- THE SECOND FORM's CARD OF 'sizarlaw41.TreeHidden'. -/
def treeHiddenUptoCard : Claim7 := { stood := { row := treeHiddenUptoRow, standIns := [], harness := (true, "0b8cd2c544e7f5ca45ee9567fbdbed488d0f0203b5f3e14555fc17d3aa747616"), looks := false }, kinds := [], alts := [], laidByText := true, laidKinds := [.data, .data], laidTests := true, laidLooks := .later }
def TreeHiddenUptoCardSaid : Prop := Claim7.holds Tryd.pinned (.plain (OpenSpec.upto treeHiddenSpec)) treeHiddenUptoCard

/-- THE SECOND FORM's CARD OF 'sizarlaw04.SignPublicSpec'. -/
def signPublicSpecUptoCard : Claim7 := { stood := { row := signPublicSpecUptoRow, standIns := [], harness := (true, "0b8cd2c544e7f5ca45ee9567fbdbed488d0f0203b5f3e14555fc17d3aa747616"), looks := false }, kinds := [], alts := [], laidByText := true, laidKinds := [.data, .data], laidTests := true, laidLooks := .later }
def SignPublicSpecUptoCardSaid : Prop := Claim7.holds Tryd.pinned (.plain (OpenSpec.upto signPublicSpecSpec)) signPublicSpecUptoCard

/-- THE SECOND FORM's CARD OF 'sizarlaw04.SignPrivateSpec'. -/
def signPrivateSpecUptoCard : Claim7 := { stood := { row := signPrivateSpecUptoRow, standIns := [], harness := (true, "0b8cd2c544e7f5ca45ee9567fbdbed488d0f0203b5f3e14555fc17d3aa747616"), looks := false }, kinds := [], alts := [], laidByText := true, laidKinds := [.data, .data], laidTests := true, laidLooks := .later }
def SignPrivateSpecUptoCardSaid : Prop := Claim7.holds Tryd.pinned (.plain (OpenSpec.upto signPrivateSpecSpec)) signPrivateSpecUptoCard

/-- THE SECOND FORM's CARD OF 'sizarlaw04.SignVerifySpec'. -/
def signVerifySpecUptoCard : Claim7 := { stood := { row := signVerifySpecUptoRow, standIns := [], harness := (true, "0b8cd2c544e7f5ca45ee9567fbdbed488d0f0203b5f3e14555fc17d3aa747616"), looks := false }, kinds := [], alts := [], laidByText := true, laidKinds := [.data, .data], laidTests := true, laidLooks := .later }
def SignVerifySpecUptoCardSaid : Prop := Claim7.holds Tryd.pinned (.plain (OpenSpec.upto signVerifySpecSpec)) signVerifySpecUptoCard

/-- THE SECOND FORM's CARD OF 'sizarlaw04.SignVerifies'. -/
def signVerifiesUptoCard : Claim7 := { stood := { row := signVerifiesUptoRow, standIns := [], harness := (true, "0b8cd2c544e7f5ca45ee9567fbdbed488d0f0203b5f3e14555fc17d3aa747616"), looks := false }, kinds := [], alts := [], laidByText := true, laidKinds := [.data, .data], laidTests := true, laidLooks := .later }
def SignVerifiesUptoCardSaid : Prop := Claim7.holds Tryd.pinned (.plain (OpenSpec.upto signVerifiesSpec)) signVerifiesUptoCard

/-- THE SECOND FORM's CARD OF 'sizarlaw04.SignEquation'. -/
def signEquationUptoCard : Claim7 := { stood := { row := signEquationUptoRow, standIns := [], harness := (true, "0b8cd2c544e7f5ca45ee9567fbdbed488d0f0203b5f3e14555fc17d3aa747616"), looks := false }, kinds := [], alts := [], laidByText := true, laidKinds := [.data, .data], laidTests := true, laidLooks := .later }
def SignEquationUptoCardSaid : Prop := Claim7.holds Tryd.pinned (.plain (OpenSpec.upto signEquationSpec)) signEquationUptoCard

/-- THE SECOND FORM's CARD OF 'sizarlaw04.SignOnly'. -/
def signOnlyUptoCard : Claim7 := { stood := { row := signOnlyUptoRow, standIns := [], harness := (true, "0b8cd2c544e7f5ca45ee9567fbdbed488d0f0203b5f3e14555fc17d3aa747616"), looks := false }, kinds := [], alts := [], laidByText := true, laidKinds := [.data, .data], laidTests := true, laidLooks := .later }
def SignOnlyUptoCardSaid : Prop := Claim7.holds Tryd.pinned (.plain (OpenSpec.upto signOnlySpec)) signOnlyUptoCard
end Rows
end Go.Proofs.YtedokiemlkccaaaDoor
