/-
  DERIVED. GIVEN WITH THE SEED: THE CARDS: each row of YtbheamjhjgoccaaDoorRows.lean that lists a variable, with what it lists TIED to the program's text (the seventh form; the later family's looks); each row that meets fmt, with fmt's text TOLD by the authors' own Lean function (tested against real Go, not proved from fmt's source: count such statements apart). THE CARD IS WHAT COUNTS. Prove the row's statement (the work); the ties are given (YtbheamjhjgoccaaDoorTie.lean); close each card by the builder's one call (the guide's Derived/Test/ToyasCard.lean, 'card_holds'). Laid BY PROGRAM, IN A SANDBOX (cutbox-door.mjs). By AI agents, Wed Nov 11 2026. No macro, syntax, notation, axiom, sorry.
-/
import Derived.Test.YtbheamjhjgoccaaDoorRows
import GoSem.ClaimSeven
namespace Go.Proofs.YtbheamjhjgoccaaDoor
namespace Rows

/-- THE TIED CARD OF 'ceroplastlaw05.RoomFates'. -/
def roomFatesCard : Claim7 := { stood := { row := roomFatesRow, standIns := [], harness := (true, "75c129de1f98bec74c65c363b57acbb209f77f3a824996ec32aa3a29a438dc7c"), looks := false }, kinds := [], alts := [], laidByText := true, laidKinds := [.data, .data], laidTests := true, laidLooks := .later }
def RoomFatesCardSaid : Prop := Claim7.holds Tryd.pinned (.plain (OpenSpec.ofChange roomFatesSpec)) roomFatesCard

/-- THE TIED CARD OF 'ceroplastlaw05.RoomShows'. -/
def roomShowsCard : Claim7 := { stood := { row := roomShowsRow, standIns := [], harness := (true, "75c129de1f98bec74c65c363b57acbb209f77f3a824996ec32aa3a29a438dc7c"), looks := false }, kinds := [], alts := [], laidByText := true, laidKinds := [.data, .data], laidTests := true, laidLooks := .later }
def RoomShowsCardSaid : Prop := Claim7.holds Tryd.pinned (.plain (OpenSpec.ofChange roomShowsSpec)) roomShowsCard

/-- THE TIED CARD OF 'ceroplastlaw05.RoomBests'. -/
def roomBestsCard : Claim7 := { stood := { row := roomBestsRow, standIns := [], harness := (true, "75c129de1f98bec74c65c363b57acbb209f77f3a824996ec32aa3a29a438dc7c"), looks := false }, kinds := [], alts := [], laidByText := true, laidKinds := [.data, .data], laidTests := true, laidLooks := .later }
def RoomBestsCardSaid : Prop := Claim7.holds Tryd.pinned (.plain (OpenSpec.ofChange roomBestsSpec)) roomBestsCard

/-- THE TIED CARD OF 'ceroplastlaw05.RoomBreaks'. -/
def roomBreaksCard : Claim7 := { stood := { row := roomBreaksRow, standIns := [], harness := (true, "75c129de1f98bec74c65c363b57acbb209f77f3a824996ec32aa3a29a438dc7c"), looks := false }, kinds := [], alts := [], laidByText := true, laidKinds := [.data, .data], laidTests := true, laidLooks := .later }
def RoomBreaksCardSaid : Prop := Claim7.holds Tryd.pinned (.plain (OpenSpec.ofChange roomBreaksSpec)) roomBreaksCard

/-- THE TIED CARD OF 'ceroplastlaw05.RoomKnown'. -/
def roomKnownCard : Claim7 := { stood := { row := roomKnownRow, standIns := [], harness := (true, "75c129de1f98bec74c65c363b57acbb209f77f3a824996ec32aa3a29a438dc7c"), looks := false }, kinds := [], alts := [], laidByText := true, laidKinds := [.data, .data], laidTests := true, laidLooks := .later }
def RoomKnownCardSaid : Prop := Claim7.holds Tryd.pinned (.plain (OpenSpec.ofChange roomKnownSpec)) roomKnownCard

/-- THE TIED CARD OF 'ceroplastlaw05.RoomSafe'. -/
def roomSafeCard : Claim7 := { stood := { row := roomSafeRow, standIns := [], harness := (true, "75c129de1f98bec74c65c363b57acbb209f77f3a824996ec32aa3a29a438dc7c"), looks := false }, kinds := [], alts := [], laidByText := true, laidKinds := [.data, .data], laidTests := true, laidLooks := .later }
def RoomSafeCardSaid : Prop := Claim7.holds Tryd.pinned (.plain (OpenSpec.ofChange roomSafeSpec)) roomSafeCard

/-- THE TIED CARD OF 'ceroplastlaw05.RoomMost'. -/
def roomMostCard : Claim7 := { stood := { row := roomMostRow, standIns := [], harness := (true, "75c129de1f98bec74c65c363b57acbb209f77f3a824996ec32aa3a29a438dc7c"), looks := false }, kinds := [], alts := [], laidByText := true, laidKinds := [.data, .data], laidTests := true, laidLooks := .later }
def RoomMostCardSaid : Prop := Claim7.holds Tryd.pinned (.plain (OpenSpec.ofChange roomMostSpec)) roomMostCard

/-- THE TIED CARD OF 'ceroplastlaw05.RoomBroken'. -/
def roomBrokenCard : Claim7 := { stood := { row := roomBrokenRow, standIns := [], harness := (true, "75c129de1f98bec74c65c363b57acbb209f77f3a824996ec32aa3a29a438dc7c"), looks := false }, kinds := [], alts := [], laidByText := true, laidKinds := [.data, .data], laidTests := true, laidLooks := .later }
def RoomBrokenCardSaid : Prop := Claim7.holds Tryd.pinned (.plain (OpenSpec.ofChange roomBrokenSpec)) roomBrokenCard

/-- THE TIED CARD OF 'ceroplastlaw05.RoomMargin'. -/
def roomMarginCard : Claim7 := { stood := { row := roomMarginRow, standIns := [], harness := (true, "75c129de1f98bec74c65c363b57acbb209f77f3a824996ec32aa3a29a438dc7c"), looks := false }, kinds := [], alts := [], laidByText := true, laidKinds := [.data, .data], laidTests := true, laidLooks := .later }
def RoomMarginCardSaid : Prop := Claim7.holds Tryd.pinned (.plain (OpenSpec.ofChange roomMarginSpec)) roomMarginCard

/-- THE TIED CARD OF 'ceroplastlaw05.RoomFate'. -/
def roomFateCard : Claim7 := { stood := { row := roomFateRow, standIns := [], harness := (true, "75c129de1f98bec74c65c363b57acbb209f77f3a824996ec32aa3a29a438dc7c"), looks := false }, kinds := [], alts := [], laidByText := true, laidKinds := [.data, .data], laidTests := true, laidLooks := .later }
def RoomFateCardSaid : Prop := Claim7.holds Tryd.pinned (.plain (OpenSpec.ofChange roomFateSpec)) roomFateCard

/-- THE TIED CARD OF 'ceroplastlaw05.RoomEasier'. -/
def roomEasierCard : Claim7 := { stood := { row := roomEasierRow, standIns := [], harness := (true, "75c129de1f98bec74c65c363b57acbb209f77f3a824996ec32aa3a29a438dc7c"), looks := false }, kinds := [], alts := [], laidByText := true, laidKinds := [.data, .data], laidTests := true, laidLooks := .later }
def RoomEasierCardSaid : Prop := Claim7.holds Tryd.pinned (.plain (OpenSpec.ofChange roomEasierSpec)) roomEasierCard

/-- THE TIED CARD OF 'ceroplastlaw05.RoomOrder'. -/
def roomOrderCard : Claim7 := { stood := { row := roomOrderRow, standIns := [], harness := (true, "75c129de1f98bec74c65c363b57acbb209f77f3a824996ec32aa3a29a438dc7c"), looks := false }, kinds := [], alts := [], laidByText := true, laidKinds := [.data, .data], laidTests := true, laidLooks := .later }
def RoomOrderCardSaid : Prop := Claim7.holds Tryd.pinned (.plain (OpenSpec.ofChange roomOrderSpec)) roomOrderCard

/-- THE TIED CARD OF 'ceroplastlaw05.RoomNeeds'. -/
def roomNeedsCard : Claim7 := { stood := { row := roomNeedsRow, standIns := [], harness := (true, "75c129de1f98bec74c65c363b57acbb209f77f3a824996ec32aa3a29a438dc7c"), looks := false }, kinds := [], alts := [], laidByText := true, laidKinds := [.data, .data], laidTests := true, laidLooks := .later }
def RoomNeedsCardSaid : Prop := Claim7.holds Tryd.pinned (.plain (OpenSpec.ofChange roomNeedsSpec)) roomNeedsCard

/-- THE TIED CARD OF 'ceroplastlaw05.RoomLoads'. -/
def roomLoadsCard : Claim7 := { stood := { row := roomLoadsRow, standIns := [], harness := (true, "75c129de1f98bec74c65c363b57acbb209f77f3a824996ec32aa3a29a438dc7c"), looks := false }, kinds := [], alts := [], laidByText := true, laidKinds := [.data, .data], laidTests := true, laidLooks := .later }
def RoomLoadsCardSaid : Prop := Claim7.holds Tryd.pinned (.plain (OpenSpec.ofChange roomLoadsSpec)) roomLoadsCard

/-- THE SECOND FORM's CARD OF 'ceroplastlaw05.RoomFates'. -/
def roomFatesUptoCard : Claim7 := { stood := { row := roomFatesUptoRow, standIns := [], harness := (true, "75c129de1f98bec74c65c363b57acbb209f77f3a824996ec32aa3a29a438dc7c"), looks := false }, kinds := [], alts := [], laidByText := true, laidKinds := [.data, .data], laidTests := true, laidLooks := .later }
def RoomFatesUptoCardSaid : Prop := Claim7.holds Tryd.pinned (.plain (OpenSpec.upto roomFatesSpec)) roomFatesUptoCard

/-- THE SECOND FORM's CARD OF 'ceroplastlaw05.RoomShows'. -/
def roomShowsUptoCard : Claim7 := { stood := { row := roomShowsUptoRow, standIns := [], harness := (true, "75c129de1f98bec74c65c363b57acbb209f77f3a824996ec32aa3a29a438dc7c"), looks := false }, kinds := [], alts := [], laidByText := true, laidKinds := [.data, .data], laidTests := true, laidLooks := .later }
def RoomShowsUptoCardSaid : Prop := Claim7.holds Tryd.pinned (.plain (OpenSpec.upto roomShowsSpec)) roomShowsUptoCard

/-- THE SECOND FORM's CARD OF 'ceroplastlaw05.RoomBests'. -/
def roomBestsUptoCard : Claim7 := { stood := { row := roomBestsUptoRow, standIns := [], harness := (true, "75c129de1f98bec74c65c363b57acbb209f77f3a824996ec32aa3a29a438dc7c"), looks := false }, kinds := [], alts := [], laidByText := true, laidKinds := [.data, .data], laidTests := true, laidLooks := .later }
def RoomBestsUptoCardSaid : Prop := Claim7.holds Tryd.pinned (.plain (OpenSpec.upto roomBestsSpec)) roomBestsUptoCard

/-- THE SECOND FORM's CARD OF 'ceroplastlaw05.RoomBreaks'. -/
def roomBreaksUptoCard : Claim7 := { stood := { row := roomBreaksUptoRow, standIns := [], harness := (true, "75c129de1f98bec74c65c363b57acbb209f77f3a824996ec32aa3a29a438dc7c"), looks := false }, kinds := [], alts := [], laidByText := true, laidKinds := [.data, .data], laidTests := true, laidLooks := .later }
def RoomBreaksUptoCardSaid : Prop := Claim7.holds Tryd.pinned (.plain (OpenSpec.upto roomBreaksSpec)) roomBreaksUptoCard

/-- THE SECOND FORM's CARD OF 'ceroplastlaw05.RoomKnown'. -/
def roomKnownUptoCard : Claim7 := { stood := { row := roomKnownUptoRow, standIns := [], harness := (true, "75c129de1f98bec74c65c363b57acbb209f77f3a824996ec32aa3a29a438dc7c"), looks := false }, kinds := [], alts := [], laidByText := true, laidKinds := [.data, .data], laidTests := true, laidLooks := .later }
def RoomKnownUptoCardSaid : Prop := Claim7.holds Tryd.pinned (.plain (OpenSpec.upto roomKnownSpec)) roomKnownUptoCard

/-- THE SECOND FORM's CARD OF 'ceroplastlaw05.RoomSafe'. -/
def roomSafeUptoCard : Claim7 := { stood := { row := roomSafeUptoRow, standIns := [], harness := (true, "75c129de1f98bec74c65c363b57acbb209f77f3a824996ec32aa3a29a438dc7c"), looks := false }, kinds := [], alts := [], laidByText := true, laidKinds := [.data, .data], laidTests := true, laidLooks := .later }
def RoomSafeUptoCardSaid : Prop := Claim7.holds Tryd.pinned (.plain (OpenSpec.upto roomSafeSpec)) roomSafeUptoCard

/-- THE SECOND FORM's CARD OF 'ceroplastlaw05.RoomMost'. -/
def roomMostUptoCard : Claim7 := { stood := { row := roomMostUptoRow, standIns := [], harness := (true, "75c129de1f98bec74c65c363b57acbb209f77f3a824996ec32aa3a29a438dc7c"), looks := false }, kinds := [], alts := [], laidByText := true, laidKinds := [.data, .data], laidTests := true, laidLooks := .later }
def RoomMostUptoCardSaid : Prop := Claim7.holds Tryd.pinned (.plain (OpenSpec.upto roomMostSpec)) roomMostUptoCard

/-- THE SECOND FORM's CARD OF 'ceroplastlaw05.RoomBroken'. -/
def roomBrokenUptoCard : Claim7 := { stood := { row := roomBrokenUptoRow, standIns := [], harness := (true, "75c129de1f98bec74c65c363b57acbb209f77f3a824996ec32aa3a29a438dc7c"), looks := false }, kinds := [], alts := [], laidByText := true, laidKinds := [.data, .data], laidTests := true, laidLooks := .later }
def RoomBrokenUptoCardSaid : Prop := Claim7.holds Tryd.pinned (.plain (OpenSpec.upto roomBrokenSpec)) roomBrokenUptoCard

/-- THE SECOND FORM's CARD OF 'ceroplastlaw05.RoomMargin'. -/
def roomMarginUptoCard : Claim7 := { stood := { row := roomMarginUptoRow, standIns := [], harness := (true, "75c129de1f98bec74c65c363b57acbb209f77f3a824996ec32aa3a29a438dc7c"), looks := false }, kinds := [], alts := [], laidByText := true, laidKinds := [.data, .data], laidTests := true, laidLooks := .later }
def RoomMarginUptoCardSaid : Prop := Claim7.holds Tryd.pinned (.plain (OpenSpec.upto roomMarginSpec)) roomMarginUptoCard

/-- THE SECOND FORM's CARD OF 'ceroplastlaw05.RoomFate'. -/
def roomFateUptoCard : Claim7 := { stood := { row := roomFateUptoRow, standIns := [], harness := (true, "75c129de1f98bec74c65c363b57acbb209f77f3a824996ec32aa3a29a438dc7c"), looks := false }, kinds := [], alts := [], laidByText := true, laidKinds := [.data, .data], laidTests := true, laidLooks := .later }
def RoomFateUptoCardSaid : Prop := Claim7.holds Tryd.pinned (.plain (OpenSpec.upto roomFateSpec)) roomFateUptoCard

/-- THE SECOND FORM's CARD OF 'ceroplastlaw05.RoomEasier'. -/
def roomEasierUptoCard : Claim7 := { stood := { row := roomEasierUptoRow, standIns := [], harness := (true, "75c129de1f98bec74c65c363b57acbb209f77f3a824996ec32aa3a29a438dc7c"), looks := false }, kinds := [], alts := [], laidByText := true, laidKinds := [.data, .data], laidTests := true, laidLooks := .later }
def RoomEasierUptoCardSaid : Prop := Claim7.holds Tryd.pinned (.plain (OpenSpec.upto roomEasierSpec)) roomEasierUptoCard

/-- THE SECOND FORM's CARD OF 'ceroplastlaw05.RoomOrder'. -/
def roomOrderUptoCard : Claim7 := { stood := { row := roomOrderUptoRow, standIns := [], harness := (true, "75c129de1f98bec74c65c363b57acbb209f77f3a824996ec32aa3a29a438dc7c"), looks := false }, kinds := [], alts := [], laidByText := true, laidKinds := [.data, .data], laidTests := true, laidLooks := .later }
def RoomOrderUptoCardSaid : Prop := Claim7.holds Tryd.pinned (.plain (OpenSpec.upto roomOrderSpec)) roomOrderUptoCard

/-- THE SECOND FORM's CARD OF 'ceroplastlaw05.RoomNeeds'. -/
def roomNeedsUptoCard : Claim7 := { stood := { row := roomNeedsUptoRow, standIns := [], harness := (true, "75c129de1f98bec74c65c363b57acbb209f77f3a824996ec32aa3a29a438dc7c"), looks := false }, kinds := [], alts := [], laidByText := true, laidKinds := [.data, .data], laidTests := true, laidLooks := .later }
def RoomNeedsUptoCardSaid : Prop := Claim7.holds Tryd.pinned (.plain (OpenSpec.upto roomNeedsSpec)) roomNeedsUptoCard

/-- THE SECOND FORM's CARD OF 'ceroplastlaw05.RoomLoads'. -/
def roomLoadsUptoCard : Claim7 := { stood := { row := roomLoadsUptoRow, standIns := [], harness := (true, "75c129de1f98bec74c65c363b57acbb209f77f3a824996ec32aa3a29a438dc7c"), looks := false }, kinds := [], alts := [], laidByText := true, laidKinds := [.data, .data], laidTests := true, laidLooks := .later }
def RoomLoadsUptoCardSaid : Prop := Claim7.holds Tryd.pinned (.plain (OpenSpec.upto roomLoadsSpec)) roomLoadsUptoCard
end Rows
end Go.Proofs.YtbheamjhjgoccaaDoor
