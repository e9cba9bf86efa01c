/-
  DERIVED. GIVEN WITH THE SEED: THE CARDS: each row of YtonlfplloenfcaaGreatDoorRows.lean that lists a variable, with what it lists TIED to the program's text (the seventh form; the later family's looks); each row that meets fmt, with fmt's text TOLD by the authors' own Lean function (tested against real Go, not proved from fmt's source: count such statements apart). THE CARD IS WHAT COUNTS. Prove the row's statement (the work); the ties are given (YtonlfplloenfcaaGreatDoorTie.lean); close each card by the builder's one call (the guide's Derived/Test/ToyasCard.lean, 'card_holds'). Laid BY PROGRAM, IN A SANDBOX (cutbox-door.mjs). By AI agents, Wed Nov 11 2026. No macro, syntax, notation, axiom, sorry.
-/
import Derived.Test.YtonlfplloenfcaaGreatDoorRows
import GoSem.ClaimSeven
namespace Go.Proofs.YtonlfplloenfcaaGreatDoor
namespace Rows

/-- THE TIED CARD OF 'footmanlaw12.HeadsPuts'. -/
def headsPutsCard : Claim7 := { stood := { row := headsPutsRow, standIns := [], harness := (true, "8f05b6ca80ed6d59d1a7de63d39844b70636a850684812ff888b6492df993b4d"), looks := true }, kinds := [], alts := [], laidByText := true, laidKinds := [.data, .data, .data, .data, .sentinel, .pinned], laidTests := true, laidLooks := .later }
def HeadsPutsCardSaid : Prop := Claim7.holds Tryz.pinned (.plain (OpenSpec.ofChange headsPutsSpec)) headsPutsCard

/-- THE TIED CARD OF 'footmanlaw12.HeadsRequests'. -/
def headsRequestsCard : Claim7 := { stood := { row := headsRequestsRow, standIns := [], harness := (true, "8f05b6ca80ed6d59d1a7de63d39844b70636a850684812ff888b6492df993b4d"), looks := true }, kinds := [], alts := [], laidByText := true, laidKinds := [.data, .data, .data, .data, .pinned], laidTests := true, laidLooks := .later }
def HeadsRequestsCardSaid : Prop := Claim7.holds Tryz.pinned (.plain (OpenSpec.ofChange headsRequestsSpec)) headsRequestsCard

/-- THE TIED CARD OF 'footmanlaw13.BodiesChunks'. -/
def bodiesChunksCard : Claim7 := { stood := { row := bodiesChunksRow, standIns := [], harness := (true, "8f05b6ca80ed6d59d1a7de63d39844b70636a850684812ff888b6492df993b4d"), looks := true }, kinds := [], alts := [], laidByText := true, laidKinds := [.data, .data, .data, .data, .sentinel, .sentinel, .pinned], laidTests := true, laidLooks := .later }
def BodiesChunksCardSaid : Prop := Claim7.holds Tryz.pinned (.plain (OpenSpec.ofChange bodiesChunksSpec)) bodiesChunksCard

/-- THE TIED CARD OF 'footmanlaw12.HeadsGets'. -/
def headsGetsCard : Claim7 := { stood := { row := headsGetsRow, standIns := [], harness := (true, "8f05b6ca80ed6d59d1a7de63d39844b70636a850684812ff888b6492df993b4d"), looks := true }, kinds := [], alts := [], laidByText := true, laidKinds := [.data, .data, .data, .data, .sentinel, .sentinel, .pinned], laidTests := true, laidLooks := .later }
def HeadsGetsCardSaid : Prop := Claim7.holds Tryz.pinned (.plain (OpenSpec.ofChange headsGetsSpec)) headsGetsCard

/-- THE TIED CARD OF 'footmanlaw13.BodiesHow'. -/
def bodiesHowCard : Claim7 := { stood := { row := bodiesHowRow, standIns := [], harness := (true, "8f05b6ca80ed6d59d1a7de63d39844b70636a850684812ff888b6492df993b4d"), looks := true }, kinds := [], alts := [], laidByText := true, laidKinds := [.data, .data, .data, .data, .sentinel, .sentinel, .pinned], laidTests := true, laidLooks := .later }
def BodiesHowCardSaid : Prop := Claim7.holds Tryz.pinned (.plain (OpenSpec.ofChange bodiesHowSpec)) bodiesHowCard

/-- THE TIED CARD OF 'footmanlaw12.HeadsMore'. -/
def headsMoreCard : Claim7 := { stood := { row := headsMoreRow, standIns := [], harness := (true, "8f05b6ca80ed6d59d1a7de63d39844b70636a850684812ff888b6492df993b4d"), looks := true }, kinds := [], alts := [], laidByText := true, laidKinds := [.data, .data, .data, .data, .sentinel, .sentinel, .sentinel, .pinned], laidTests := true, laidLooks := .later }
def HeadsMoreCardSaid : Prop := Claim7.holds Tryz.pinned (.plain (OpenSpec.ofChange headsMoreSpec)) headsMoreCard

/-- THE TIED CARD OF 'footmanlaw12.HeadsAnswer'. -/
def headsAnswerCard : Claim7 := { stood := { row := headsAnswerRow, standIns := [], harness := (true, "8f05b6ca80ed6d59d1a7de63d39844b70636a850684812ff888b6492df993b4d"), looks := true }, kinds := [], alts := [], laidByText := true, laidKinds := [.data, .data, .data, .data, .sentinel, .sentinel, .sentinel, .pinned], laidTests := true, laidLooks := .later }
def HeadsAnswerCardSaid : Prop := Claim7.holds Tryz.pinned (.plain (OpenSpec.ofChange headsAnswerSpec)) headsAnswerCard

/-- THE TIED CARD OF 'footmanlaw12.HeadsNames'. -/
def headsNamesCard : Claim7 := { stood := { row := headsNamesRow, standIns := [], harness := (true, "8f05b6ca80ed6d59d1a7de63d39844b70636a850684812ff888b6492df993b4d"), looks := true }, kinds := [], alts := [], laidByText := true, laidKinds := [.data, .data, .data, .data, .sentinel, .sentinel, .sentinel, .pinned], laidTests := true, laidLooks := .later }
def HeadsNamesCardSaid : Prop := Claim7.holds Tryz.pinned (.plain (OpenSpec.ofChange headsNamesSpec)) headsNamesCard

/-- THE TIED CARD OF 'footmanlaw12.HeadsBack'. -/
def headsBackCard : Claim7 := { stood := { row := headsBackRow, standIns := [], harness := (true, "8f05b6ca80ed6d59d1a7de63d39844b70636a850684812ff888b6492df993b4d"), looks := true }, kinds := [], alts := [], laidByText := true, laidKinds := [.data, .data, .data, .data, .sentinel, .sentinel, .sentinel, .pinned], laidTests := true, laidLooks := .later }
def HeadsBackCardSaid : Prop := Claim7.holds Tryz.pinned (.plain (OpenSpec.ofChange headsBackSpec)) headsBackCard

/-- THE TIED CARD OF 'footmanlaw12.HeadsLimit'. -/
def headsLimitCard : Claim7 := { stood := { row := headsLimitRow, standIns := [], harness := (true, "8f05b6ca80ed6d59d1a7de63d39844b70636a850684812ff888b6492df993b4d"), looks := true }, kinds := [], alts := [], laidByText := true, laidKinds := [.data, .data, .data, .data, .sentinel, .sentinel, .sentinel, .pinned], laidTests := true, laidLooks := .later }
def HeadsLimitCardSaid : Prop := Claim7.holds Tryz.pinned (.plain (OpenSpec.ofChange headsLimitSpec)) headsLimitCard

/-- THE TIED CARD OF 'footmanlaw13.BodiesBack'. -/
def bodiesBackCard : Claim7 := { stood := { row := bodiesBackRow, standIns := [], harness := (true, "8f05b6ca80ed6d59d1a7de63d39844b70636a850684812ff888b6492df993b4d"), looks := true }, kinds := [], alts := [], laidByText := true, laidKinds := [.data, .data, .data, .data, .sentinel, .sentinel, .sentinel, .pinned], laidTests := true, laidLooks := .later }
def BodiesBackCardSaid : Prop := Claim7.holds Tryz.pinned (.plain (OpenSpec.ofChange bodiesBackSpec)) bodiesBackCard

/-- THE TIED CARD OF 'footmanlaw13.BodiesOn'. -/
def bodiesOnCard : Claim7 := { stood := { row := bodiesOnRow, standIns := [], harness := (true, "8f05b6ca80ed6d59d1a7de63d39844b70636a850684812ff888b6492df993b4d"), looks := true }, kinds := [], alts := [], laidByText := true, laidKinds := [.data, .data, .data, .data, .sentinel, .sentinel, .sentinel, .pinned], laidTests := true, laidLooks := .later }
def BodiesOnCardSaid : Prop := Claim7.holds Tryz.pinned (.plain (OpenSpec.ofChange bodiesOnSpec)) bodiesOnCard

/-- THE TIED CARD OF 'footmanlaw13.BodiesLoose'. -/
def bodiesLooseCard : Claim7 := { stood := { row := bodiesLooseRow, standIns := [], harness := (true, "8f05b6ca80ed6d59d1a7de63d39844b70636a850684812ff888b6492df993b4d"), looks := true }, kinds := [], alts := [], laidByText := true, laidKinds := [.data, .data, .data, .data, .sentinel, .sentinel, .sentinel, .pinned], laidTests := true, laidLooks := .later }
def BodiesLooseCardSaid : Prop := Claim7.holds Tryz.pinned (.plain (OpenSpec.ofChange bodiesLooseSpec)) bodiesLooseCard

/-- THE TIED CARD OF 'footmanlaw13.BodiesNone'. -/
def bodiesNoneCard : Claim7 := { stood := { row := bodiesNoneRow, standIns := [], harness := (true, "8f05b6ca80ed6d59d1a7de63d39844b70636a850684812ff888b6492df993b4d"), looks := true }, kinds := [], alts := [], laidByText := true, laidKinds := [.data, .data, .data, .data, .sentinel, .sentinel, .sentinel, .pinned], laidTests := true, laidLooks := .later }
def BodiesNoneCardSaid : Prop := Claim7.holds Tryz.pinned (.plain (OpenSpec.ofChange bodiesNoneSpec)) bodiesNoneCard

/-- THE TIED CARD OF 'footmanlaw13.BodiesLength'. -/
def bodiesLengthCard : Claim7 := { stood := { row := bodiesLengthRow, standIns := [], harness := (true, "8f05b6ca80ed6d59d1a7de63d39844b70636a850684812ff888b6492df993b4d"), looks := true }, kinds := [], alts := [], laidByText := true, laidKinds := [.data, .data, .data, .data, .sentinel, .sentinel, .sentinel, .pinned], laidTests := true, laidLooks := .later }
def BodiesLengthCardSaid : Prop := Claim7.holds Tryz.pinned (.plain (OpenSpec.ofChange bodiesLengthSpec)) bodiesLengthCard

/-- THE TIED CARD OF 'footmanlaw13.BodiesBoth'. -/
def bodiesBothCard : Claim7 := { stood := { row := bodiesBothRow, standIns := [], harness := (true, "8f05b6ca80ed6d59d1a7de63d39844b70636a850684812ff888b6492df993b4d"), looks := true }, kinds := [], alts := [], laidByText := true, laidKinds := [.data, .data, .data, .data, .sentinel, .sentinel, .sentinel, .pinned], laidTests := true, laidLooks := .later }
def BodiesBothCardSaid : Prop := Claim7.holds Tryz.pinned (.plain (OpenSpec.ofChange bodiesBothSpec)) bodiesBothCard

/-- THE TIED CARD OF 'footmanlaw20.ReaderReads'. -/
def readerReadsCard : Claim7 := { stood := { row := readerReadsRow, standIns := [], harness := (true, "8f05b6ca80ed6d59d1a7de63d39844b70636a850684812ff888b6492df993b4d"), looks := true }, kinds := [], alts := [], laidByText := true, laidKinds := [.data, .data, .data, .data, .sentinel, .sentinel, .pinned], laidTests := true, laidLooks := .later }
def ReaderReadsCardSaid : Prop := Claim7.holds Tryz.pinned (.plain (OpenSpec.ofChange readerReadsSpec)) readerReadsCard

/-- THE TIED CARD OF 'footmanlaw20.ReaderCuts'. -/
def readerCutsCard : Claim7 := { stood := { row := readerCutsRow, standIns := [], harness := (true, "8f05b6ca80ed6d59d1a7de63d39844b70636a850684812ff888b6492df993b4d"), looks := true }, kinds := [], alts := [], laidByText := true, laidKinds := [.data, .data, .data, .data, .sentinel, .sentinel, .pinned], laidTests := true, laidLooks := .later }
def ReaderCutsCardSaid : Prop := Claim7.holds Tryz.pinned (.plain (OpenSpec.ofChange readerCutsSpec)) readerCutsCard

/-- THE TIED CARD OF 'footmanlaw20.ReaderBodies'. -/
def readerBodiesCard : Claim7 := { stood := { row := readerBodiesRow, standIns := [], harness := (true, "8f05b6ca80ed6d59d1a7de63d39844b70636a850684812ff888b6492df993b4d"), looks := true }, kinds := [], alts := [], laidByText := true, laidKinds := [.data, .data, .data, .data, .sentinel, .sentinel, .sentinel, .pinned], laidTests := true, laidLooks := .later }
def ReaderBodiesCardSaid : Prop := Claim7.holds Tryz.pinned (.plain (OpenSpec.ofChange readerBodiesSpec)) readerBodiesCard

/-- THE SECOND FORM's CARD OF 'footmanlaw12.HeadsPuts'. -/
def headsPutsUptoCard : Claim7 := { stood := { row := headsPutsUptoRow, standIns := [], harness := (true, "8f05b6ca80ed6d59d1a7de63d39844b70636a850684812ff888b6492df993b4d"), looks := true }, kinds := [], alts := [], laidByText := true, laidKinds := [.data, .data, .data, .data, .sentinel, .pinned], laidTests := true, laidLooks := .later }
def HeadsPutsUptoCardSaid : Prop := Claim7.holds Tryz.pinned (.plain (OpenSpec.upto headsPutsSpec)) headsPutsUptoCard

/-- THE SECOND FORM's CARD OF 'footmanlaw12.HeadsRequests'. -/
def headsRequestsUptoCard : Claim7 := { stood := { row := headsRequestsUptoRow, standIns := [], harness := (true, "8f05b6ca80ed6d59d1a7de63d39844b70636a850684812ff888b6492df993b4d"), looks := true }, kinds := [], alts := [], laidByText := true, laidKinds := [.data, .data, .data, .data, .pinned], laidTests := true, laidLooks := .later }
def HeadsRequestsUptoCardSaid : Prop := Claim7.holds Tryz.pinned (.plain (OpenSpec.upto headsRequestsSpec)) headsRequestsUptoCard

/-- THE SECOND FORM's CARD OF 'footmanlaw13.BodiesChunks'. -/
def bodiesChunksUptoCard : Claim7 := { stood := { row := bodiesChunksUptoRow, standIns := [], harness := (true, "8f05b6ca80ed6d59d1a7de63d39844b70636a850684812ff888b6492df993b4d"), looks := true }, kinds := [], alts := [], laidByText := true, laidKinds := [.data, .data, .data, .data, .sentinel, .sentinel, .pinned], laidTests := true, laidLooks := .later }
def BodiesChunksUptoCardSaid : Prop := Claim7.holds Tryz.pinned (.plain (OpenSpec.upto bodiesChunksSpec)) bodiesChunksUptoCard

/-- THE SECOND FORM's CARD OF 'footmanlaw12.HeadsGets'. -/
def headsGetsUptoCard : Claim7 := { stood := { row := headsGetsUptoRow, standIns := [], harness := (true, "8f05b6ca80ed6d59d1a7de63d39844b70636a850684812ff888b6492df993b4d"), looks := true }, kinds := [], alts := [], laidByText := true, laidKinds := [.data, .data, .data, .data, .sentinel, .sentinel, .pinned], laidTests := true, laidLooks := .later }
def HeadsGetsUptoCardSaid : Prop := Claim7.holds Tryz.pinned (.plain (OpenSpec.upto headsGetsSpec)) headsGetsUptoCard

/-- THE SECOND FORM's CARD OF 'footmanlaw13.BodiesHow'. -/
def bodiesHowUptoCard : Claim7 := { stood := { row := bodiesHowUptoRow, standIns := [], harness := (true, "8f05b6ca80ed6d59d1a7de63d39844b70636a850684812ff888b6492df993b4d"), looks := true }, kinds := [], alts := [], laidByText := true, laidKinds := [.data, .data, .data, .data, .sentinel, .sentinel, .pinned], laidTests := true, laidLooks := .later }
def BodiesHowUptoCardSaid : Prop := Claim7.holds Tryz.pinned (.plain (OpenSpec.upto bodiesHowSpec)) bodiesHowUptoCard

/-- THE SECOND FORM's CARD OF 'footmanlaw12.HeadsMore'. -/
def headsMoreUptoCard : Claim7 := { stood := { row := headsMoreUptoRow, standIns := [], harness := (true, "8f05b6ca80ed6d59d1a7de63d39844b70636a850684812ff888b6492df993b4d"), looks := true }, kinds := [], alts := [], laidByText := true, laidKinds := [.data, .data, .data, .data, .sentinel, .sentinel, .sentinel, .pinned], laidTests := true, laidLooks := .later }
def HeadsMoreUptoCardSaid : Prop := Claim7.holds Tryz.pinned (.plain (OpenSpec.upto headsMoreSpec)) headsMoreUptoCard

/-- THE SECOND FORM's CARD OF 'footmanlaw12.HeadsAnswer'. -/
def headsAnswerUptoCard : Claim7 := { stood := { row := headsAnswerUptoRow, standIns := [], harness := (true, "8f05b6ca80ed6d59d1a7de63d39844b70636a850684812ff888b6492df993b4d"), looks := true }, kinds := [], alts := [], laidByText := true, laidKinds := [.data, .data, .data, .data, .sentinel, .sentinel, .sentinel, .pinned], laidTests := true, laidLooks := .later }
def HeadsAnswerUptoCardSaid : Prop := Claim7.holds Tryz.pinned (.plain (OpenSpec.upto headsAnswerSpec)) headsAnswerUptoCard

/-- THE SECOND FORM's CARD OF 'footmanlaw12.HeadsNames'. -/
def headsNamesUptoCard : Claim7 := { stood := { row := headsNamesUptoRow, standIns := [], harness := (true, "8f05b6ca80ed6d59d1a7de63d39844b70636a850684812ff888b6492df993b4d"), looks := true }, kinds := [], alts := [], laidByText := true, laidKinds := [.data, .data, .data, .data, .sentinel, .sentinel, .sentinel, .pinned], laidTests := true, laidLooks := .later }
def HeadsNamesUptoCardSaid : Prop := Claim7.holds Tryz.pinned (.plain (OpenSpec.upto headsNamesSpec)) headsNamesUptoCard

/-- THE SECOND FORM's CARD OF 'footmanlaw12.HeadsBack'. -/
def headsBackUptoCard : Claim7 := { stood := { row := headsBackUptoRow, standIns := [], harness := (true, "8f05b6ca80ed6d59d1a7de63d39844b70636a850684812ff888b6492df993b4d"), looks := true }, kinds := [], alts := [], laidByText := true, laidKinds := [.data, .data, .data, .data, .sentinel, .sentinel, .sentinel, .pinned], laidTests := true, laidLooks := .later }
def HeadsBackUptoCardSaid : Prop := Claim7.holds Tryz.pinned (.plain (OpenSpec.upto headsBackSpec)) headsBackUptoCard

/-- THE SECOND FORM's CARD OF 'footmanlaw12.HeadsLimit'. -/
def headsLimitUptoCard : Claim7 := { stood := { row := headsLimitUptoRow, standIns := [], harness := (true, "8f05b6ca80ed6d59d1a7de63d39844b70636a850684812ff888b6492df993b4d"), looks := true }, kinds := [], alts := [], laidByText := true, laidKinds := [.data, .data, .data, .data, .sentinel, .sentinel, .sentinel, .pinned], laidTests := true, laidLooks := .later }
def HeadsLimitUptoCardSaid : Prop := Claim7.holds Tryz.pinned (.plain (OpenSpec.upto headsLimitSpec)) headsLimitUptoCard

/-- THE SECOND FORM's CARD OF 'footmanlaw13.BodiesBack'. -/
def bodiesBackUptoCard : Claim7 := { stood := { row := bodiesBackUptoRow, standIns := [], harness := (true, "8f05b6ca80ed6d59d1a7de63d39844b70636a850684812ff888b6492df993b4d"), looks := true }, kinds := [], alts := [], laidByText := true, laidKinds := [.data, .data, .data, .data, .sentinel, .sentinel, .sentinel, .pinned], laidTests := true, laidLooks := .later }
def BodiesBackUptoCardSaid : Prop := Claim7.holds Tryz.pinned (.plain (OpenSpec.upto bodiesBackSpec)) bodiesBackUptoCard

/-- THE SECOND FORM's CARD OF 'footmanlaw13.BodiesOn'. -/
def bodiesOnUptoCard : Claim7 := { stood := { row := bodiesOnUptoRow, standIns := [], harness := (true, "8f05b6ca80ed6d59d1a7de63d39844b70636a850684812ff888b6492df993b4d"), looks := true }, kinds := [], alts := [], laidByText := true, laidKinds := [.data, .data, .data, .data, .sentinel, .sentinel, .sentinel, .pinned], laidTests := true, laidLooks := .later }
def BodiesOnUptoCardSaid : Prop := Claim7.holds Tryz.pinned (.plain (OpenSpec.upto bodiesOnSpec)) bodiesOnUptoCard

/-- THE SECOND FORM's CARD OF 'footmanlaw13.BodiesLoose'. -/
def bodiesLooseUptoCard : Claim7 := { stood := { row := bodiesLooseUptoRow, standIns := [], harness := (true, "8f05b6ca80ed6d59d1a7de63d39844b70636a850684812ff888b6492df993b4d"), looks := true }, kinds := [], alts := [], laidByText := true, laidKinds := [.data, .data, .data, .data, .sentinel, .sentinel, .sentinel, .pinned], laidTests := true, laidLooks := .later }
def BodiesLooseUptoCardSaid : Prop := Claim7.holds Tryz.pinned (.plain (OpenSpec.upto bodiesLooseSpec)) bodiesLooseUptoCard

/-- THE SECOND FORM's CARD OF 'footmanlaw13.BodiesNone'. -/
def bodiesNoneUptoCard : Claim7 := { stood := { row := bodiesNoneUptoRow, standIns := [], harness := (true, "8f05b6ca80ed6d59d1a7de63d39844b70636a850684812ff888b6492df993b4d"), looks := true }, kinds := [], alts := [], laidByText := true, laidKinds := [.data, .data, .data, .data, .sentinel, .sentinel, .sentinel, .pinned], laidTests := true, laidLooks := .later }
def BodiesNoneUptoCardSaid : Prop := Claim7.holds Tryz.pinned (.plain (OpenSpec.upto bodiesNoneSpec)) bodiesNoneUptoCard

/-- THE SECOND FORM's CARD OF 'footmanlaw13.BodiesLength'. -/
def bodiesLengthUptoCard : Claim7 := { stood := { row := bodiesLengthUptoRow, standIns := [], harness := (true, "8f05b6ca80ed6d59d1a7de63d39844b70636a850684812ff888b6492df993b4d"), looks := true }, kinds := [], alts := [], laidByText := true, laidKinds := [.data, .data, .data, .data, .sentinel, .sentinel, .sentinel, .pinned], laidTests := true, laidLooks := .later }
def BodiesLengthUptoCardSaid : Prop := Claim7.holds Tryz.pinned (.plain (OpenSpec.upto bodiesLengthSpec)) bodiesLengthUptoCard

/-- THE SECOND FORM's CARD OF 'footmanlaw13.BodiesBoth'. -/
def bodiesBothUptoCard : Claim7 := { stood := { row := bodiesBothUptoRow, standIns := [], harness := (true, "8f05b6ca80ed6d59d1a7de63d39844b70636a850684812ff888b6492df993b4d"), looks := true }, kinds := [], alts := [], laidByText := true, laidKinds := [.data, .data, .data, .data, .sentinel, .sentinel, .sentinel, .pinned], laidTests := true, laidLooks := .later }
def BodiesBothUptoCardSaid : Prop := Claim7.holds Tryz.pinned (.plain (OpenSpec.upto bodiesBothSpec)) bodiesBothUptoCard

/-- THE SECOND FORM's CARD OF 'footmanlaw20.ReaderReads'. -/
def readerReadsUptoCard : Claim7 := { stood := { row := readerReadsUptoRow, standIns := [], harness := (true, "8f05b6ca80ed6d59d1a7de63d39844b70636a850684812ff888b6492df993b4d"), looks := true }, kinds := [], alts := [], laidByText := true, laidKinds := [.data, .data, .data, .data, .sentinel, .sentinel, .pinned], laidTests := true, laidLooks := .later }
def ReaderReadsUptoCardSaid : Prop := Claim7.holds Tryz.pinned (.plain (OpenSpec.upto readerReadsSpec)) readerReadsUptoCard

/-- THE SECOND FORM's CARD OF 'footmanlaw20.ReaderCuts'. -/
def readerCutsUptoCard : Claim7 := { stood := { row := readerCutsUptoRow, standIns := [], harness := (true, "8f05b6ca80ed6d59d1a7de63d39844b70636a850684812ff888b6492df993b4d"), looks := true }, kinds := [], alts := [], laidByText := true, laidKinds := [.data, .data, .data, .data, .sentinel, .sentinel, .pinned], laidTests := true, laidLooks := .later }
def ReaderCutsUptoCardSaid : Prop := Claim7.holds Tryz.pinned (.plain (OpenSpec.upto readerCutsSpec)) readerCutsUptoCard

/-- THE SECOND FORM's CARD OF 'footmanlaw20.ReaderBodies'. -/
def readerBodiesUptoCard : Claim7 := { stood := { row := readerBodiesUptoRow, standIns := [], harness := (true, "8f05b6ca80ed6d59d1a7de63d39844b70636a850684812ff888b6492df993b4d"), looks := true }, kinds := [], alts := [], laidByText := true, laidKinds := [.data, .data, .data, .data, .sentinel, .sentinel, .sentinel, .pinned], laidTests := true, laidLooks := .later }
def ReaderBodiesUptoCardSaid : Prop := Claim7.holds Tryz.pinned (.plain (OpenSpec.upto readerBodiesSpec)) readerBodiesUptoCard
end Rows
end Go.Proofs.YtonlfplloenfcaaGreatDoor
