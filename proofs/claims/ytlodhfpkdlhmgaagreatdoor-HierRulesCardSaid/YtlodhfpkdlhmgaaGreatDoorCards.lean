/-
  DERIVED. GIVEN WITH THE SEED: THE CARDS: each row of YtlodhfpkdlhmgaaGreatDoorRows.lean that lists a variable, with what it lists TIED to the program's text (the seventh form; the later family's looks); each row that meets fmt, with fmt's text TOLD by the authors' own Lean function (tested against real Go, not proved from fmt's source: count such statements apart). THE CARD IS WHAT COUNTS. Prove the row's statement (the work); the ties are given (YtlodhfpkdlhmgaaGreatDoorTie.lean); close each card by the builder's one call (the guide's Derived/Test/ToyasCard.lean, 'card_holds'). Laid BY PROGRAM, IN A SANDBOX (cutbox-door.mjs). By AI agents, Wed Nov 11 2026. No macro, syntax, notation, axiom, sorry.
-/
import Derived.Test.YtlodhfpkdlhmgaaGreatDoorRows
import GoSem.ClaimSeven
namespace Go.Proofs.YtlodhfpkdlhmgaaGreatDoor
namespace Rows

/-- THE TIED CARD OF 'keystonelaw6.HierOwn'. -/
def hierOwnCard : Claim7 := { stood := { row := hierOwnRow, standIns := [], harness := (true, "d24d289f9b3804767343c8a03045b572585f80e20b64b23ef56999e27fbdf153"), looks := true }, kinds := [], alts := [], laidByText := true, laidKinds := [.data, .handle, .pinned], laidTests := true, laidLooks := .later }
def HierOwnCardSaid : Prop := Claim7.holds Tryz.pinned (.plain (OpenSpec.ofChange hierOwnSpec)) hierOwnCard

/-- THE TIED CARD OF 'keystonelaw6.HierLinks'. -/
def hierLinksCard : Claim7 := { stood := { row := hierLinksRow, standIns := [], harness := (true, "d24d289f9b3804767343c8a03045b572585f80e20b64b23ef56999e27fbdf153"), looks := true }, kinds := [], alts := [], laidByText := true, laidKinds := [.data, .handle, .pinned], laidTests := true, laidLooks := .later }
def HierLinksCardSaid : Prop := Claim7.holds Tryz.pinned (.plain (OpenSpec.ofChange hierLinksSpec)) hierLinksCard

/-- THE TIED CARD OF 'keystonelaw6.HierRules'. -/
def hierRulesCard : Claim7 := { stood := { row := hierRulesRow, standIns := [], harness := (true, "d24d289f9b3804767343c8a03045b572585f80e20b64b23ef56999e27fbdf153"), looks := true }, kinds := [], alts := [], laidByText := true, laidKinds := [.data, .handle, .pinned], laidTests := true, laidLooks := .later }
def HierRulesCardSaid : Prop := Claim7.holds Tryz.pinned (.plain (OpenSpec.ofChange hierRulesSpec)) hierRulesCard

/-- THE TIED CARD OF 'keystonelaw6.HierFaces'. -/
def hierFacesCard : Claim7 := { stood := { row := hierFacesRow, standIns := [], harness := (true, "d24d289f9b3804767343c8a03045b572585f80e20b64b23ef56999e27fbdf153"), looks := true }, kinds := [], alts := [], laidByText := true, laidKinds := [.data, .handle, .pinned], laidTests := true, laidLooks := .later }
def HierFacesCardSaid : Prop := Claim7.holds Tryz.pinned (.plain (OpenSpec.ofChange hierFacesSpec)) hierFacesCard

/-- THE TIED CARD OF 'keystonelaw6.HierOrder'. -/
def hierOrderCard : Claim7 := { stood := { row := hierOrderRow, standIns := [], harness := (true, "d24d289f9b3804767343c8a03045b572585f80e20b64b23ef56999e27fbdf153"), looks := true }, kinds := [], alts := [], laidByText := true, laidKinds := [.data, .handle, .pinned], laidTests := true, laidLooks := .later }
def HierOrderCardSaid : Prop := Claim7.holds Tryz.pinned (.plain (OpenSpec.ofChange hierOrderSpec)) hierOrderCard

/-- THE TIED CARD OF 'keystonelaw6.HierOrders'. -/
def hierOrdersCard : Claim7 := { stood := { row := hierOrdersRow, standIns := [], harness := (true, "d24d289f9b3804767343c8a03045b572585f80e20b64b23ef56999e27fbdf153"), looks := true }, kinds := [], alts := [], laidByText := true, laidKinds := [.data, .handle, .pinned], laidTests := true, laidLooks := .later }
def HierOrdersCardSaid : Prop := Claim7.holds Tryz.pinned (.plain (OpenSpec.ofChange hierOrdersSpec)) hierOrdersCard

/-- THE TIED CARD OF 'keystonelaw6.HierOwes'. -/
def hierOwesCard : Claim7 := { stood := { row := hierOwesRow, standIns := [], harness := (true, "d24d289f9b3804767343c8a03045b572585f80e20b64b23ef56999e27fbdf153"), looks := true }, kinds := [], alts := [], laidByText := true, laidKinds := [.data, .handle, .pinned], laidTests := true, laidLooks := .later }
def HierOwesCardSaid : Prop := Claim7.holds Tryz.pinned (.plain (OpenSpec.ofChange hierOwesSpec)) hierOwesCard

/-- THE TIED CARD OF 'keystonelaw6.HierNearest'. -/
def hierNearestCard : Claim7 := { stood := { row := hierNearestRow, standIns := [], harness := (true, "d24d289f9b3804767343c8a03045b572585f80e20b64b23ef56999e27fbdf153"), looks := true }, kinds := [], alts := [], laidByText := true, laidKinds := [.data, .handle, .pinned], laidTests := true, laidLooks := .later }
def HierNearestCardSaid : Prop := Claim7.holds Tryz.pinned (.plain (OpenSpec.ofChange hierNearestSpec)) hierNearestCard

/-- THE TIED CARD OF 'keystonelaw6.HierMethods'. -/
def hierMethodsCard : Claim7 := { stood := { row := hierMethodsRow, standIns := [], harness := (true, "d24d289f9b3804767343c8a03045b572585f80e20b64b23ef56999e27fbdf153"), looks := true }, kinds := [], alts := [], laidByText := true, laidKinds := [.data, .handle, .pinned], laidTests := true, laidLooks := .later }
def HierMethodsCardSaid : Prop := Claim7.holds Tryz.pinned (.plain (OpenSpec.ofChange hierMethodsSpec)) hierMethodsCard

/-- THE TIED CARD OF 'keystonelaw6.HierFields'. -/
def hierFieldsCard : Claim7 := { stood := { row := hierFieldsRow, standIns := [], harness := (true, "d24d289f9b3804767343c8a03045b572585f80e20b64b23ef56999e27fbdf153"), looks := true }, kinds := [], alts := [], laidByText := true, laidKinds := [.data, .handle, .pinned], laidTests := true, laidLooks := .later }
def HierFieldsCardSaid : Prop := Claim7.holds Tryz.pinned (.plain (OpenSpec.ofChange hierFieldsSpec)) hierFieldsCard

/-- THE TIED CARD OF 'keystonelaw6.HierLayout'. -/
def hierLayoutCard : Claim7 := { stood := { row := hierLayoutRow, standIns := [], harness := (true, "d24d289f9b3804767343c8a03045b572585f80e20b64b23ef56999e27fbdf153"), looks := true }, kinds := [], alts := [], laidByText := true, laidKinds := [.data, .handle, .pinned], laidTests := true, laidLooks := .later }
def HierLayoutCardSaid : Prop := Claim7.holds Tryz.pinned (.plain (OpenSpec.ofChange hierLayoutSpec)) hierLayoutCard

/-- THE TIED CARD OF 'keystonelaw6.HierTurned'. -/
def hierTurnedCard : Claim7 := { stood := { row := hierTurnedRow, standIns := [], harness := (true, "d24d289f9b3804767343c8a03045b572585f80e20b64b23ef56999e27fbdf153"), looks := true }, kinds := [], alts := [], laidByText := true, laidKinds := [.data, .handle, .pinned], laidTests := true, laidLooks := .later }
def HierTurnedCardSaid : Prop := Claim7.holds Tryz.pinned (.plain (OpenSpec.ofChange hierTurnedSpec)) hierTurnedCard

/-- THE TIED CARD OF 'keystonelaw7.LatticeOrders'. -/
def latticeOrdersCard : Claim7 := { stood := { row := latticeOrdersRow, standIns := [], harness := (true, "d24d289f9b3804767343c8a03045b572585f80e20b64b23ef56999e27fbdf153"), looks := true }, kinds := [], alts := [], laidByText := true, laidKinds := [.data, .handle, .pinned], laidTests := true, laidLooks := .later }
def LatticeOrdersCardSaid : Prop := Claim7.holds Tryz.pinned (.plain (OpenSpec.ofChange latticeOrdersSpec)) latticeOrdersCard

/-- THE TIED CARD OF 'keystonelaw7.LatticeCommon'. -/
def latticeCommonCard : Claim7 := { stood := { row := latticeCommonRow, standIns := [], harness := (true, "d24d289f9b3804767343c8a03045b572585f80e20b64b23ef56999e27fbdf153"), looks := true }, kinds := [], alts := [], laidByText := true, laidKinds := [.data, .handle, .pinned], laidTests := true, laidLooks := .later }
def LatticeCommonCardSaid : Prop := Claim7.holds Tryz.pinned (.plain (OpenSpec.ofChange latticeCommonSpec)) latticeCommonCard

/-- THE TIED CARD OF 'keystonelaw7.LatticeTop'. -/
def latticeTopCard : Claim7 := { stood := { row := latticeTopRow, standIns := [], harness := (true, "d24d289f9b3804767343c8a03045b572585f80e20b64b23ef56999e27fbdf153"), looks := true }, kinds := [], alts := [], laidByText := true, laidKinds := [.data, .handle, .pinned], laidTests := true, laidLooks := .later }
def LatticeTopCardSaid : Prop := Claim7.holds Tryz.pinned (.plain (OpenSpec.ofChange latticeTopSpec)) latticeTopCard

/-- THE TIED CARD OF 'keystonelaw7.LatticeOrder'. -/
def latticeOrderCard : Claim7 := { stood := { row := latticeOrderRow, standIns := [], harness := (true, "d24d289f9b3804767343c8a03045b572585f80e20b64b23ef56999e27fbdf153"), looks := true }, kinds := [], alts := [], laidByText := true, laidKinds := [.data, .handle, .pinned], laidTests := true, laidLooks := .later }
def LatticeOrderCardSaid : Prop := Claim7.holds Tryz.pinned (.plain (OpenSpec.ofChange latticeOrderSpec)) latticeOrderCard

/-- THE TIED CARD OF 'keystonelaw7.LatticeJoins'. -/
def latticeJoinsCard : Claim7 := { stood := { row := latticeJoinsRow, standIns := [], harness := (true, "d24d289f9b3804767343c8a03045b572585f80e20b64b23ef56999e27fbdf153"), looks := true }, kinds := [], alts := [], laidByText := true, laidKinds := [.data, .handle, .pinned], laidTests := true, laidLooks := .later }
def LatticeJoinsCardSaid : Prop := Claim7.holds Tryz.pinned (.plain (OpenSpec.ofChange latticeJoinsSpec)) latticeJoinsCard

/-- THE TIED CARD OF 'keystonelaw7.LatticeFits'. -/
def latticeFitsCard : Claim7 := { stood := { row := latticeFitsRow, standIns := [], harness := (true, "d24d289f9b3804767343c8a03045b572585f80e20b64b23ef56999e27fbdf153"), looks := true }, kinds := [], alts := [], laidByText := true, laidKinds := [.data, .handle, .pinned], laidTests := true, laidLooks := .later }
def LatticeFitsCardSaid : Prop := Claim7.holds Tryz.pinned (.plain (OpenSpec.ofChange latticeFitsSpec)) latticeFitsCard

/-- THE SECOND FORM's CARD OF 'keystonelaw6.HierOwn'. -/
def hierOwnUptoCard : Claim7 := { stood := { row := hierOwnUptoRow, standIns := [], harness := (true, "d24d289f9b3804767343c8a03045b572585f80e20b64b23ef56999e27fbdf153"), looks := true }, kinds := [], alts := [], laidByText := true, laidKinds := [.data, .handle, .pinned], laidTests := true, laidLooks := .later }
def HierOwnUptoCardSaid : Prop := Claim7.holds Tryz.pinned (.plain (OpenSpec.upto hierOwnSpec)) hierOwnUptoCard

/-- THE SECOND FORM's CARD OF 'keystonelaw6.HierLinks'. -/
def hierLinksUptoCard : Claim7 := { stood := { row := hierLinksUptoRow, standIns := [], harness := (true, "d24d289f9b3804767343c8a03045b572585f80e20b64b23ef56999e27fbdf153"), looks := true }, kinds := [], alts := [], laidByText := true, laidKinds := [.data, .handle, .pinned], laidTests := true, laidLooks := .later }
def HierLinksUptoCardSaid : Prop := Claim7.holds Tryz.pinned (.plain (OpenSpec.upto hierLinksSpec)) hierLinksUptoCard

/-- THE SECOND FORM's CARD OF 'keystonelaw6.HierRules'. -/
def hierRulesUptoCard : Claim7 := { stood := { row := hierRulesUptoRow, standIns := [], harness := (true, "d24d289f9b3804767343c8a03045b572585f80e20b64b23ef56999e27fbdf153"), looks := true }, kinds := [], alts := [], laidByText := true, laidKinds := [.data, .handle, .pinned], laidTests := true, laidLooks := .later }
def HierRulesUptoCardSaid : Prop := Claim7.holds Tryz.pinned (.plain (OpenSpec.upto hierRulesSpec)) hierRulesUptoCard

/-- THE SECOND FORM's CARD OF 'keystonelaw6.HierFaces'. -/
def hierFacesUptoCard : Claim7 := { stood := { row := hierFacesUptoRow, standIns := [], harness := (true, "d24d289f9b3804767343c8a03045b572585f80e20b64b23ef56999e27fbdf153"), looks := true }, kinds := [], alts := [], laidByText := true, laidKinds := [.data, .handle, .pinned], laidTests := true, laidLooks := .later }
def HierFacesUptoCardSaid : Prop := Claim7.holds Tryz.pinned (.plain (OpenSpec.upto hierFacesSpec)) hierFacesUptoCard

/-- THE SECOND FORM's CARD OF 'keystonelaw6.HierOrder'. -/
def hierOrderUptoCard : Claim7 := { stood := { row := hierOrderUptoRow, standIns := [], harness := (true, "d24d289f9b3804767343c8a03045b572585f80e20b64b23ef56999e27fbdf153"), looks := true }, kinds := [], alts := [], laidByText := true, laidKinds := [.data, .handle, .pinned], laidTests := true, laidLooks := .later }
def HierOrderUptoCardSaid : Prop := Claim7.holds Tryz.pinned (.plain (OpenSpec.upto hierOrderSpec)) hierOrderUptoCard

/-- THE SECOND FORM's CARD OF 'keystonelaw6.HierOrders'. -/
def hierOrdersUptoCard : Claim7 := { stood := { row := hierOrdersUptoRow, standIns := [], harness := (true, "d24d289f9b3804767343c8a03045b572585f80e20b64b23ef56999e27fbdf153"), looks := true }, kinds := [], alts := [], laidByText := true, laidKinds := [.data, .handle, .pinned], laidTests := true, laidLooks := .later }
def HierOrdersUptoCardSaid : Prop := Claim7.holds Tryz.pinned (.plain (OpenSpec.upto hierOrdersSpec)) hierOrdersUptoCard

/-- THE SECOND FORM's CARD OF 'keystonelaw6.HierOwes'. -/
def hierOwesUptoCard : Claim7 := { stood := { row := hierOwesUptoRow, standIns := [], harness := (true, "d24d289f9b3804767343c8a03045b572585f80e20b64b23ef56999e27fbdf153"), looks := true }, kinds := [], alts := [], laidByText := true, laidKinds := [.data, .handle, .pinned], laidTests := true, laidLooks := .later }
def HierOwesUptoCardSaid : Prop := Claim7.holds Tryz.pinned (.plain (OpenSpec.upto hierOwesSpec)) hierOwesUptoCard

/-- THE SECOND FORM's CARD OF 'keystonelaw6.HierNearest'. -/
def hierNearestUptoCard : Claim7 := { stood := { row := hierNearestUptoRow, standIns := [], harness := (true, "d24d289f9b3804767343c8a03045b572585f80e20b64b23ef56999e27fbdf153"), looks := true }, kinds := [], alts := [], laidByText := true, laidKinds := [.data, .handle, .pinned], laidTests := true, laidLooks := .later }
def HierNearestUptoCardSaid : Prop := Claim7.holds Tryz.pinned (.plain (OpenSpec.upto hierNearestSpec)) hierNearestUptoCard

/-- THE SECOND FORM's CARD OF 'keystonelaw6.HierMethods'. -/
def hierMethodsUptoCard : Claim7 := { stood := { row := hierMethodsUptoRow, standIns := [], harness := (true, "d24d289f9b3804767343c8a03045b572585f80e20b64b23ef56999e27fbdf153"), looks := true }, kinds := [], alts := [], laidByText := true, laidKinds := [.data, .handle, .pinned], laidTests := true, laidLooks := .later }
def HierMethodsUptoCardSaid : Prop := Claim7.holds Tryz.pinned (.plain (OpenSpec.upto hierMethodsSpec)) hierMethodsUptoCard

/-- THE SECOND FORM's CARD OF 'keystonelaw6.HierFields'. -/
def hierFieldsUptoCard : Claim7 := { stood := { row := hierFieldsUptoRow, standIns := [], harness := (true, "d24d289f9b3804767343c8a03045b572585f80e20b64b23ef56999e27fbdf153"), looks := true }, kinds := [], alts := [], laidByText := true, laidKinds := [.data, .handle, .pinned], laidTests := true, laidLooks := .later }
def HierFieldsUptoCardSaid : Prop := Claim7.holds Tryz.pinned (.plain (OpenSpec.upto hierFieldsSpec)) hierFieldsUptoCard

/-- THE SECOND FORM's CARD OF 'keystonelaw6.HierLayout'. -/
def hierLayoutUptoCard : Claim7 := { stood := { row := hierLayoutUptoRow, standIns := [], harness := (true, "d24d289f9b3804767343c8a03045b572585f80e20b64b23ef56999e27fbdf153"), looks := true }, kinds := [], alts := [], laidByText := true, laidKinds := [.data, .handle, .pinned], laidTests := true, laidLooks := .later }
def HierLayoutUptoCardSaid : Prop := Claim7.holds Tryz.pinned (.plain (OpenSpec.upto hierLayoutSpec)) hierLayoutUptoCard

/-- THE SECOND FORM's CARD OF 'keystonelaw6.HierTurned'. -/
def hierTurnedUptoCard : Claim7 := { stood := { row := hierTurnedUptoRow, standIns := [], harness := (true, "d24d289f9b3804767343c8a03045b572585f80e20b64b23ef56999e27fbdf153"), looks := true }, kinds := [], alts := [], laidByText := true, laidKinds := [.data, .handle, .pinned], laidTests := true, laidLooks := .later }
def HierTurnedUptoCardSaid : Prop := Claim7.holds Tryz.pinned (.plain (OpenSpec.upto hierTurnedSpec)) hierTurnedUptoCard

/-- THE SECOND FORM's CARD OF 'keystonelaw7.LatticeOrders'. -/
def latticeOrdersUptoCard : Claim7 := { stood := { row := latticeOrdersUptoRow, standIns := [], harness := (true, "d24d289f9b3804767343c8a03045b572585f80e20b64b23ef56999e27fbdf153"), looks := true }, kinds := [], alts := [], laidByText := true, laidKinds := [.data, .handle, .pinned], laidTests := true, laidLooks := .later }
def LatticeOrdersUptoCardSaid : Prop := Claim7.holds Tryz.pinned (.plain (OpenSpec.upto latticeOrdersSpec)) latticeOrdersUptoCard

/-- THE SECOND FORM's CARD OF 'keystonelaw7.LatticeCommon'. -/
def latticeCommonUptoCard : Claim7 := { stood := { row := latticeCommonUptoRow, standIns := [], harness := (true, "d24d289f9b3804767343c8a03045b572585f80e20b64b23ef56999e27fbdf153"), looks := true }, kinds := [], alts := [], laidByText := true, laidKinds := [.data, .handle, .pinned], laidTests := true, laidLooks := .later }
def LatticeCommonUptoCardSaid : Prop := Claim7.holds Tryz.pinned (.plain (OpenSpec.upto latticeCommonSpec)) latticeCommonUptoCard

/-- THE SECOND FORM's CARD OF 'keystonelaw7.LatticeTop'. -/
def latticeTopUptoCard : Claim7 := { stood := { row := latticeTopUptoRow, standIns := [], harness := (true, "d24d289f9b3804767343c8a03045b572585f80e20b64b23ef56999e27fbdf153"), looks := true }, kinds := [], alts := [], laidByText := true, laidKinds := [.data, .handle, .pinned], laidTests := true, laidLooks := .later }
def LatticeTopUptoCardSaid : Prop := Claim7.holds Tryz.pinned (.plain (OpenSpec.upto latticeTopSpec)) latticeTopUptoCard

/-- THE SECOND FORM's CARD OF 'keystonelaw7.LatticeOrder'. -/
def latticeOrderUptoCard : Claim7 := { stood := { row := latticeOrderUptoRow, standIns := [], harness := (true, "d24d289f9b3804767343c8a03045b572585f80e20b64b23ef56999e27fbdf153"), looks := true }, kinds := [], alts := [], laidByText := true, laidKinds := [.data, .handle, .pinned], laidTests := true, laidLooks := .later }
def LatticeOrderUptoCardSaid : Prop := Claim7.holds Tryz.pinned (.plain (OpenSpec.upto latticeOrderSpec)) latticeOrderUptoCard

/-- THE SECOND FORM's CARD OF 'keystonelaw7.LatticeJoins'. -/
def latticeJoinsUptoCard : Claim7 := { stood := { row := latticeJoinsUptoRow, standIns := [], harness := (true, "d24d289f9b3804767343c8a03045b572585f80e20b64b23ef56999e27fbdf153"), looks := true }, kinds := [], alts := [], laidByText := true, laidKinds := [.data, .handle, .pinned], laidTests := true, laidLooks := .later }
def LatticeJoinsUptoCardSaid : Prop := Claim7.holds Tryz.pinned (.plain (OpenSpec.upto latticeJoinsSpec)) latticeJoinsUptoCard

/-- THE SECOND FORM's CARD OF 'keystonelaw7.LatticeFits'. -/
def latticeFitsUptoCard : Claim7 := { stood := { row := latticeFitsUptoRow, standIns := [], harness := (true, "d24d289f9b3804767343c8a03045b572585f80e20b64b23ef56999e27fbdf153"), looks := true }, kinds := [], alts := [], laidByText := true, laidKinds := [.data, .handle, .pinned], laidTests := true, laidLooks := .later }
def LatticeFitsUptoCardSaid : Prop := Claim7.holds Tryz.pinned (.plain (OpenSpec.upto latticeFitsSpec)) latticeFitsUptoCard
end Rows
end Go.Proofs.YtlodhfpkdlhmgaaGreatDoor
