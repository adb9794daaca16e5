/-
  DERIVED. GIVEN WITH THE SEED: THE CARDS: each row of YtojednnciknhpaaDoorRows.lean that lists a variable, with what it lists TIED to the program's text (the seventh form; the later family's looks); each row that meets fmt, with fmt's text TOLD by the authors' own Lean function (tested against real Go, not proved from fmt's source: count such statements apart). THE CARD IS WHAT COUNTS. Prove the row's statement (the work); the ties are given (YtojednnciknhpaaDoorTie.lean); close each card by the builder's one call (the guide's Derived/Test/ToyasCard.lean, 'card_holds'). Laid BY PROGRAM, IN A SANDBOX (cutbox-door.mjs). By AI agents, Wed Nov 11 2026. No macro, syntax, notation, axiom, sorry.
-/
import Derived.Test.YtojednnciknhpaaDoorRows
import GoSem.ClaimSeven
namespace Go.Proofs.YtojednnciknhpaaDoor
namespace Rows

/-- THE TIED CARD OF 'oastlaw04.BidTried'. -/
def bidTriedCard : Claim7 := { stood := { row := bidTriedRow, standIns := [], harness := (true, "66738b0622a06ea7ce03efa502df5ff6d8f9c397634cf591ae1069b3813f7707"), looks := false }, kinds := [], alts := [], laidByText := true, laidKinds := [.data], laidTests := true, laidLooks := .later }
def BidTriedCardSaid : Prop := Claim7.holds Tryd.pinned (.plain (OpenSpec.ofChange bidTriedSpec)) bidTriedCard

/-- THE TIED CARD OF 'oastlaw04.BidLeast'. -/
def bidLeastCard : Claim7 := { stood := { row := bidLeastRow, standIns := [], harness := (true, "66738b0622a06ea7ce03efa502df5ff6d8f9c397634cf591ae1069b3813f7707"), looks := false }, kinds := [], alts := [], laidByText := true, laidKinds := [.data], laidTests := true, laidLooks := .later }
def BidLeastCardSaid : Prop := Claim7.holds Tryd.pinned (.plain (OpenSpec.ofChange bidLeastSpec)) bidLeastCard

/-- THE TIED CARD OF 'oastlaw04.BidBoth'. -/
def bidBothCard : Claim7 := { stood := { row := bidBothRow, standIns := [], harness := (true, "66738b0622a06ea7ce03efa502df5ff6d8f9c397634cf591ae1069b3813f7707"), looks := false }, kinds := [], alts := [], laidByText := true, laidKinds := [.data], laidTests := true, laidLooks := .later }
def BidBothCardSaid : Prop := Claim7.holds Tryd.pinned (.plain (OpenSpec.ofChange bidBothSpec)) bidBothCard

/-- THE TIED CARD OF 'oastlaw04.BidCrowds'. -/
def bidCrowdsCard : Claim7 := { stood := { row := bidCrowdsRow, standIns := [], harness := (true, "66738b0622a06ea7ce03efa502df5ff6d8f9c397634cf591ae1069b3813f7707"), looks := false }, kinds := [], alts := [], laidByText := true, laidKinds := [.data], laidTests := true, laidLooks := .later }
def BidCrowdsCardSaid : Prop := Claim7.holds Tryd.pinned (.plain (OpenSpec.ofChange bidCrowdsSpec)) bidCrowdsCard

/-- THE TIED CARD OF 'oastlaw04.BidSolves'. -/
def bidSolvesCard : Claim7 := { stood := { row := bidSolvesRow, standIns := [], harness := (true, "66738b0622a06ea7ce03efa502df5ff6d8f9c397634cf591ae1069b3813f7707"), looks := false }, kinds := [], alts := [], laidByText := true, laidKinds := [.data], laidTests := true, laidLooks := .later }
def BidSolvesCardSaid : Prop := Claim7.holds Tryd.pinned (.plain (OpenSpec.ofChange bidSolvesSpec)) bidSolvesCard

/-- THE TIED CARD OF 'oastlaw04.BidGains'. -/
def bidGainsCard : Claim7 := { stood := { row := bidGainsRow, standIns := [], harness := (true, "66738b0622a06ea7ce03efa502df5ff6d8f9c397634cf591ae1069b3813f7707"), looks := false }, kinds := [], alts := [], laidByText := true, laidKinds := [.data], laidTests := true, laidLooks := .later }
def BidGainsCardSaid : Prop := Claim7.holds Tryd.pinned (.plain (OpenSpec.ofChange bidGainsSpec)) bidGainsCard

/-- THE TIED CARD OF 'oastlaw04.BidTruth'. -/
def bidTruthCard : Claim7 := { stood := { row := bidTruthRow, standIns := [], harness := (true, "66738b0622a06ea7ce03efa502df5ff6d8f9c397634cf591ae1069b3813f7707"), looks := false }, kinds := [], alts := [], laidByText := true, laidKinds := [.data], laidTests := true, laidLooks := .later }
def BidTruthCardSaid : Prop := Claim7.holds Tryd.pinned (.plain (OpenSpec.ofChange bidTruthSpec)) bidTruthCard

/-- THE TIED CARD OF 'oastlaw04.BidTotals'. -/
def bidTotalsCard : Claim7 := { stood := { row := bidTotalsRow, standIns := [], harness := (true, "66738b0622a06ea7ce03efa502df5ff6d8f9c397634cf591ae1069b3813f7707"), looks := false }, kinds := [], alts := [], laidByText := true, laidKinds := [.data], laidTests := true, laidLooks := .later }
def BidTotalsCardSaid : Prop := Claim7.holds Tryd.pinned (.plain (OpenSpec.ofChange bidTotalsSpec)) bidTotalsCard

/-- THE TIED CARD OF 'oastlaw04.BidMore'. -/
def bidMoreCard : Claim7 := { stood := { row := bidMoreRow, standIns := [], harness := (true, "66738b0622a06ea7ce03efa502df5ff6d8f9c397634cf591ae1069b3813f7707"), looks := false }, kinds := [], alts := [], laidByText := true, laidKinds := [.data], laidTests := true, laidLooks := .later }
def BidMoreCardSaid : Prop := Claim7.holds Tryd.pinned (.plain (OpenSpec.ofChange bidMoreSpec)) bidMoreCard

/-- THE TIED CARD OF 'oastlaw04.BidBalances'. -/
def bidBalancesCard : Claim7 := { stood := { row := bidBalancesRow, standIns := [], harness := (true, "66738b0622a06ea7ce03efa502df5ff6d8f9c397634cf591ae1069b3813f7707"), looks := false }, kinds := [], alts := [], laidByText := true, laidKinds := [.data], laidTests := true, laidLooks := .later }
def BidBalancesCardSaid : Prop := Claim7.holds Tryd.pinned (.plain (OpenSpec.ofChange bidBalancesSpec)) bidBalancesCard

/-- THE TIED CARD OF 'oastlaw04.BidContent'. -/
def bidContentCard : Claim7 := { stood := { row := bidContentRow, standIns := [], harness := (true, "66738b0622a06ea7ce03efa502df5ff6d8f9c397634cf591ae1069b3813f7707"), looks := false }, kinds := [], alts := [], laidByText := true, laidKinds := [.data], laidTests := true, laidLooks := .later }
def BidContentCardSaid : Prop := Claim7.holds Tryd.pinned (.plain (OpenSpec.ofChange bidContentSpec)) bidContentCard

/-- THE TIED CARD OF 'oastlaw04.BidBlocks'. -/
def bidBlocksCard : Claim7 := { stood := { row := bidBlocksRow, standIns := [], harness := (true, "66738b0622a06ea7ce03efa502df5ff6d8f9c397634cf591ae1069b3813f7707"), looks := false }, kinds := [], alts := [], laidByText := true, laidKinds := [.data], laidTests := true, laidLooks := .later }
def BidBlocksCardSaid : Prop := Claim7.holds Tryd.pinned (.plain (OpenSpec.ofChange bidBlocksSpec)) bidBlocksCard

/-- THE TIED CARD OF 'oastlaw04.BidHalls'. -/
def bidHallsCard : Claim7 := { stood := { row := bidHallsRow, standIns := [], harness := (true, "66738b0622a06ea7ce03efa502df5ff6d8f9c397634cf591ae1069b3813f7707"), looks := false }, kinds := [], alts := [], laidByText := true, laidKinds := [.data], laidTests := true, laidLooks := .later }
def BidHallsCardSaid : Prop := Claim7.holds Tryd.pinned (.plain (OpenSpec.ofChange bidHallsSpec)) bidHallsCard

/-- THE TIED CARD OF 'oastlaw04.BidChecks'. -/
def bidChecksCard : Claim7 := { stood := { row := bidChecksRow, standIns := [], harness := (true, "66738b0622a06ea7ce03efa502df5ff6d8f9c397634cf591ae1069b3813f7707"), looks := false }, kinds := [], alts := [], laidByText := true, laidKinds := [.data], laidTests := true, laidLooks := .later }
def BidChecksCardSaid : Prop := Claim7.holds Tryd.pinned (.plain (OpenSpec.ofChange bidChecksSpec)) bidChecksCard

/-- THE TIED CARD OF 'oastlaw04.BidSingles'. -/
def bidSinglesCard : Claim7 := { stood := { row := bidSinglesRow, standIns := [], harness := (true, "66738b0622a06ea7ce03efa502df5ff6d8f9c397634cf591ae1069b3813f7707"), looks := false }, kinds := [], alts := [], laidByText := true, laidKinds := [.data], laidTests := true, laidLooks := .later }
def BidSinglesCardSaid : Prop := Claim7.holds Tryd.pinned (.plain (OpenSpec.ofChange bidSinglesSpec)) bidSinglesCard

/-- THE SECOND FORM's CARD OF 'oastlaw04.BidTried'. -/
def bidTriedUptoCard : Claim7 := { stood := { row := bidTriedUptoRow, standIns := [], harness := (true, "66738b0622a06ea7ce03efa502df5ff6d8f9c397634cf591ae1069b3813f7707"), looks := false }, kinds := [], alts := [], laidByText := true, laidKinds := [.data], laidTests := true, laidLooks := .later }
def BidTriedUptoCardSaid : Prop := Claim7.holds Tryd.pinned (.plain (OpenSpec.upto bidTriedSpec)) bidTriedUptoCard

/-- THE SECOND FORM's CARD OF 'oastlaw04.BidLeast'. -/
def bidLeastUptoCard : Claim7 := { stood := { row := bidLeastUptoRow, standIns := [], harness := (true, "66738b0622a06ea7ce03efa502df5ff6d8f9c397634cf591ae1069b3813f7707"), looks := false }, kinds := [], alts := [], laidByText := true, laidKinds := [.data], laidTests := true, laidLooks := .later }
def BidLeastUptoCardSaid : Prop := Claim7.holds Tryd.pinned (.plain (OpenSpec.upto bidLeastSpec)) bidLeastUptoCard

/-- THE SECOND FORM's CARD OF 'oastlaw04.BidBoth'. -/
def bidBothUptoCard : Claim7 := { stood := { row := bidBothUptoRow, standIns := [], harness := (true, "66738b0622a06ea7ce03efa502df5ff6d8f9c397634cf591ae1069b3813f7707"), looks := false }, kinds := [], alts := [], laidByText := true, laidKinds := [.data], laidTests := true, laidLooks := .later }
def BidBothUptoCardSaid : Prop := Claim7.holds Tryd.pinned (.plain (OpenSpec.upto bidBothSpec)) bidBothUptoCard

/-- THE SECOND FORM's CARD OF 'oastlaw04.BidCrowds'. -/
def bidCrowdsUptoCard : Claim7 := { stood := { row := bidCrowdsUptoRow, standIns := [], harness := (true, "66738b0622a06ea7ce03efa502df5ff6d8f9c397634cf591ae1069b3813f7707"), looks := false }, kinds := [], alts := [], laidByText := true, laidKinds := [.data], laidTests := true, laidLooks := .later }
def BidCrowdsUptoCardSaid : Prop := Claim7.holds Tryd.pinned (.plain (OpenSpec.upto bidCrowdsSpec)) bidCrowdsUptoCard

/-- THE SECOND FORM's CARD OF 'oastlaw04.BidSolves'. -/
def bidSolvesUptoCard : Claim7 := { stood := { row := bidSolvesUptoRow, standIns := [], harness := (true, "66738b0622a06ea7ce03efa502df5ff6d8f9c397634cf591ae1069b3813f7707"), looks := false }, kinds := [], alts := [], laidByText := true, laidKinds := [.data], laidTests := true, laidLooks := .later }
def BidSolvesUptoCardSaid : Prop := Claim7.holds Tryd.pinned (.plain (OpenSpec.upto bidSolvesSpec)) bidSolvesUptoCard

/-- THE SECOND FORM's CARD OF 'oastlaw04.BidGains'. -/
def bidGainsUptoCard : Claim7 := { stood := { row := bidGainsUptoRow, standIns := [], harness := (true, "66738b0622a06ea7ce03efa502df5ff6d8f9c397634cf591ae1069b3813f7707"), looks := false }, kinds := [], alts := [], laidByText := true, laidKinds := [.data], laidTests := true, laidLooks := .later }
def BidGainsUptoCardSaid : Prop := Claim7.holds Tryd.pinned (.plain (OpenSpec.upto bidGainsSpec)) bidGainsUptoCard

/-- THE SECOND FORM's CARD OF 'oastlaw04.BidTruth'. -/
def bidTruthUptoCard : Claim7 := { stood := { row := bidTruthUptoRow, standIns := [], harness := (true, "66738b0622a06ea7ce03efa502df5ff6d8f9c397634cf591ae1069b3813f7707"), looks := false }, kinds := [], alts := [], laidByText := true, laidKinds := [.data], laidTests := true, laidLooks := .later }
def BidTruthUptoCardSaid : Prop := Claim7.holds Tryd.pinned (.plain (OpenSpec.upto bidTruthSpec)) bidTruthUptoCard

/-- THE SECOND FORM's CARD OF 'oastlaw04.BidTotals'. -/
def bidTotalsUptoCard : Claim7 := { stood := { row := bidTotalsUptoRow, standIns := [], harness := (true, "66738b0622a06ea7ce03efa502df5ff6d8f9c397634cf591ae1069b3813f7707"), looks := false }, kinds := [], alts := [], laidByText := true, laidKinds := [.data], laidTests := true, laidLooks := .later }
def BidTotalsUptoCardSaid : Prop := Claim7.holds Tryd.pinned (.plain (OpenSpec.upto bidTotalsSpec)) bidTotalsUptoCard

/-- THE SECOND FORM's CARD OF 'oastlaw04.BidMore'. -/
def bidMoreUptoCard : Claim7 := { stood := { row := bidMoreUptoRow, standIns := [], harness := (true, "66738b0622a06ea7ce03efa502df5ff6d8f9c397634cf591ae1069b3813f7707"), looks := false }, kinds := [], alts := [], laidByText := true, laidKinds := [.data], laidTests := true, laidLooks := .later }
def BidMoreUptoCardSaid : Prop := Claim7.holds Tryd.pinned (.plain (OpenSpec.upto bidMoreSpec)) bidMoreUptoCard

/-- THE SECOND FORM's CARD OF 'oastlaw04.BidBalances'. -/
def bidBalancesUptoCard : Claim7 := { stood := { row := bidBalancesUptoRow, standIns := [], harness := (true, "66738b0622a06ea7ce03efa502df5ff6d8f9c397634cf591ae1069b3813f7707"), looks := false }, kinds := [], alts := [], laidByText := true, laidKinds := [.data], laidTests := true, laidLooks := .later }
def BidBalancesUptoCardSaid : Prop := Claim7.holds Tryd.pinned (.plain (OpenSpec.upto bidBalancesSpec)) bidBalancesUptoCard

/-- THE SECOND FORM's CARD OF 'oastlaw04.BidContent'. -/
def bidContentUptoCard : Claim7 := { stood := { row := bidContentUptoRow, standIns := [], harness := (true, "66738b0622a06ea7ce03efa502df5ff6d8f9c397634cf591ae1069b3813f7707"), looks := false }, kinds := [], alts := [], laidByText := true, laidKinds := [.data], laidTests := true, laidLooks := .later }
def BidContentUptoCardSaid : Prop := Claim7.holds Tryd.pinned (.plain (OpenSpec.upto bidContentSpec)) bidContentUptoCard

/-- THE SECOND FORM's CARD OF 'oastlaw04.BidBlocks'. -/
def bidBlocksUptoCard : Claim7 := { stood := { row := bidBlocksUptoRow, standIns := [], harness := (true, "66738b0622a06ea7ce03efa502df5ff6d8f9c397634cf591ae1069b3813f7707"), looks := false }, kinds := [], alts := [], laidByText := true, laidKinds := [.data], laidTests := true, laidLooks := .later }
def BidBlocksUptoCardSaid : Prop := Claim7.holds Tryd.pinned (.plain (OpenSpec.upto bidBlocksSpec)) bidBlocksUptoCard

/-- THE SECOND FORM's CARD OF 'oastlaw04.BidHalls'. -/
def bidHallsUptoCard : Claim7 := { stood := { row := bidHallsUptoRow, standIns := [], harness := (true, "66738b0622a06ea7ce03efa502df5ff6d8f9c397634cf591ae1069b3813f7707"), looks := false }, kinds := [], alts := [], laidByText := true, laidKinds := [.data], laidTests := true, laidLooks := .later }
def BidHallsUptoCardSaid : Prop := Claim7.holds Tryd.pinned (.plain (OpenSpec.upto bidHallsSpec)) bidHallsUptoCard

/-- THE SECOND FORM's CARD OF 'oastlaw04.BidChecks'. -/
def bidChecksUptoCard : Claim7 := { stood := { row := bidChecksUptoRow, standIns := [], harness := (true, "66738b0622a06ea7ce03efa502df5ff6d8f9c397634cf591ae1069b3813f7707"), looks := false }, kinds := [], alts := [], laidByText := true, laidKinds := [.data], laidTests := true, laidLooks := .later }
def BidChecksUptoCardSaid : Prop := Claim7.holds Tryd.pinned (.plain (OpenSpec.upto bidChecksSpec)) bidChecksUptoCard

/-- THE SECOND FORM's CARD OF 'oastlaw04.BidSingles'. -/
def bidSinglesUptoCard : Claim7 := { stood := { row := bidSinglesUptoRow, standIns := [], harness := (true, "66738b0622a06ea7ce03efa502df5ff6d8f9c397634cf591ae1069b3813f7707"), looks := false }, kinds := [], alts := [], laidByText := true, laidKinds := [.data], laidTests := true, laidLooks := .later }
def BidSinglesUptoCardSaid : Prop := Claim7.holds Tryd.pinned (.plain (OpenSpec.upto bidSinglesSpec)) bidSinglesUptoCard
end Rows
end Go.Proofs.YtojednnciknhpaaDoor
