/-
  DERIVED. GIVEN WITH THE SEED: THE CARDS: each row of YtonlfplloenfcaaDoorRows.lean that lists a variable, with what it lists TIED to the program's text (the seventh form; the later family's looks); each row that meets fmt, with fmt's text TOLD by the authors' own Lean function (tested against real Go, not proved from fmt's source: count such statements apart). THE CARD IS WHAT COUNTS. Prove the row's statement (the work); the ties are given (YtonlfplloenfcaaDoorTie.lean); close each card by the builder's one call (the guide's Derived/Test/ToyasCard.lean, 'card_holds'). Laid BY PROGRAM, IN A SANDBOX (cutbox-door.mjs). By AI agents, Wed Nov 11 2026. No macro, syntax, notation, axiom, sorry.
-/
import Derived.Test.YtonlfplloenfcaaDoorRows
import GoSem.ClaimSeven
namespace Go.Proofs.YtonlfplloenfcaaDoor
namespace Rows

/-- THE TIED CARD OF 'footmanlaw12.HeadsFinds'. -/
def headsFindsCard : Claim7 := { stood := { row := headsFindsRow, standIns := [], harness := (true, "12eba56699f8db452dae775f92352ab5b1df894d2799c217e81dc569ebb2f2a8"), looks := true }, kinds := [], alts := [], laidByText := true, laidKinds := [.data, .data, .data], laidTests := true, laidLooks := .later }
def HeadsFindsCardSaid : Prop := Claim7.holds Tryd.pinned (.plain (OpenSpec.ofChange headsFindsSpec)) headsFindsCard

/-- THE TIED CARD OF 'footmanlaw13.BodiesPuts'. -/
def bodiesPutsCard : Claim7 := { stood := { row := bodiesPutsRow, standIns := [], harness := (true, "12eba56699f8db452dae775f92352ab5b1df894d2799c217e81dc569ebb2f2a8"), looks := true }, kinds := [], alts := [], laidByText := true, laidKinds := [.data, .data, .data, .sentinel], laidTests := true, laidLooks := .later }
def BodiesPutsCardSaid : Prop := Claim7.holds Tryd.pinned (.plain (OpenSpec.ofChange bodiesPutsSpec)) bodiesPutsCard

/-- THE TIED CARD OF 'footmanlaw12.HeadsLines'. -/
def headsLinesCard : Claim7 := { stood := { row := headsLinesRow, standIns := [], harness := (true, "12eba56699f8db452dae775f92352ab5b1df894d2799c217e81dc569ebb2f2a8"), looks := true }, kinds := [], alts := [], laidByText := true, laidKinds := [.data, .data, .data, .data, .sentinel, .sentinel, .sentinel, .pinned], laidTests := true, laidLooks := .later }
def HeadsLinesCardSaid : Prop := Claim7.holds Tryd.pinned (.plain (OpenSpec.ofChange headsLinesSpec)) headsLinesCard

/-- THE SECOND FORM's CARD OF 'footmanlaw12.HeadsFinds'. -/
def headsFindsUptoCard : Claim7 := { stood := { row := headsFindsUptoRow, standIns := [], harness := (true, "12eba56699f8db452dae775f92352ab5b1df894d2799c217e81dc569ebb2f2a8"), looks := true }, kinds := [], alts := [], laidByText := true, laidKinds := [.data, .data, .data], laidTests := true, laidLooks := .later }
def HeadsFindsUptoCardSaid : Prop := Claim7.holds Tryd.pinned (.plain (OpenSpec.upto headsFindsSpec)) headsFindsUptoCard

/-- THE SECOND FORM's CARD OF 'footmanlaw13.BodiesPuts'. -/
def bodiesPutsUptoCard : Claim7 := { stood := { row := bodiesPutsUptoRow, standIns := [], harness := (true, "12eba56699f8db452dae775f92352ab5b1df894d2799c217e81dc569ebb2f2a8"), looks := true }, kinds := [], alts := [], laidByText := true, laidKinds := [.data, .data, .data, .sentinel], laidTests := true, laidLooks := .later }
def BodiesPutsUptoCardSaid : Prop := Claim7.holds Tryd.pinned (.plain (OpenSpec.upto bodiesPutsSpec)) bodiesPutsUptoCard

/-- THE SECOND FORM's CARD OF 'footmanlaw12.HeadsLines'. -/
def headsLinesUptoCard : Claim7 := { stood := { row := headsLinesUptoRow, standIns := [], harness := (true, "12eba56699f8db452dae775f92352ab5b1df894d2799c217e81dc569ebb2f2a8"), looks := true }, kinds := [], alts := [], laidByText := true, laidKinds := [.data, .data, .data, .data, .sentinel, .sentinel, .sentinel, .pinned], laidTests := true, laidLooks := .later }
def HeadsLinesUptoCardSaid : Prop := Claim7.holds Tryd.pinned (.plain (OpenSpec.upto headsLinesSpec)) headsLinesUptoCard
end Rows
end Go.Proofs.YtonlfplloenfcaaDoor
