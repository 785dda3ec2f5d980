/-
  DERIVED. GIVEN WITH THE SEED: THE CARDS: each row of YtmamodnpghlgcaaGreatDoorRows.lean that lists a variable, with what it lists TIED to the program's text (the seventh form; the later family's looks); each row that meets fmt, with fmt's text TOLD by the authors' own Lean function (tested against real Go, not proved from fmt's source: count such statements apart). THE CARD IS WHAT COUNTS. Prove the row's statement (the work); the ties are given (YtmamodnpghlgcaaGreatDoorTie.lean); close each card by the builder's one call (the guide's Derived/Test/ToyasCard.lean, 'card_holds'). Laid BY PROGRAM, IN A SANDBOX (cutbox-door.mjs). By AI agents, Wed Nov 11 2026. No macro, syntax, notation, axiom, sorry.
-/
import Derived.Test.YtmamodnpghlgcaaGreatDoorRows
import GoSem.ClaimSeven
namespace Go.Proofs.YtmamodnpghlgcaaGreatDoor
namespace Rows

/-- THE TIED CARD OF 'weirgatelaw43.PlaylistMergesAsSpecified'. -/
def playlistMergesAsSpecifiedCard : Claim7 := { stood := { row := playlistMergesAsSpecifiedRow, standIns := [], harness := (true, "255fd139bd9613344c1f05bca005ba97fad4211d0fa1c01d92803ff3e59f71e4"), looks := true }, kinds := [], alts := [], laidByText := true, laidKinds := [.data, .data, .data, .data, .sentinel, .sentinel, .pinned], laidTests := true, laidLooks := .later }
def PlaylistMergesAsSpecifiedCardSaid : Prop := Claim7.holds Tryz.pinned (.plain (OpenSpec.ofChange playlistMergesAsSpecifiedSpec)) playlistMergesAsSpecifiedCard

/-- THE TIED CARD OF 'weirgatelaw43.PlaylistReadsAsSpecified'. -/
def playlistReadsAsSpecifiedCard : Claim7 := { stood := { row := playlistReadsAsSpecifiedRow, standIns := [], harness := (true, "255fd139bd9613344c1f05bca005ba97fad4211d0fa1c01d92803ff3e59f71e4"), looks := true }, kinds := [], alts := [], laidByText := true, laidKinds := [.data, .data, .data, .data, .sentinel, .sentinel, .pinned], laidTests := true, laidLooks := .later }
def PlaylistReadsAsSpecifiedCardSaid : Prop := Claim7.holds Tryz.pinned (.plain (OpenSpec.ofChange playlistReadsAsSpecifiedSpec)) playlistReadsAsSpecifiedCard

/-- THE TIED CARD OF 'weirgatelaw43.PlaylistSpreadsAsSpecified'. -/
def playlistSpreadsAsSpecifiedCard : Claim7 := { stood := { row := playlistSpreadsAsSpecifiedRow, standIns := [], harness := (true, "255fd139bd9613344c1f05bca005ba97fad4211d0fa1c01d92803ff3e59f71e4"), looks := true }, kinds := [], alts := [], laidByText := true, laidKinds := [.data, .data, .data, .data, .sentinel, .sentinel, .pinned], laidTests := true, laidLooks := .later }
def PlaylistSpreadsAsSpecifiedCardSaid : Prop := Claim7.holds Tryz.pinned (.plain (OpenSpec.ofChange playlistSpreadsAsSpecifiedSpec)) playlistSpreadsAsSpecifiedCard

/-- THE TIED CARD OF 'weirgatelaw43.PlaylistPushesAsSpecified'. -/
def playlistPushesAsSpecifiedCard : Claim7 := { stood := { row := playlistPushesAsSpecifiedRow, standIns := [], harness := (true, "255fd139bd9613344c1f05bca005ba97fad4211d0fa1c01d92803ff3e59f71e4"), looks := true }, kinds := [], alts := [], laidByText := true, laidKinds := [.data, .data, .data, .data, .sentinel, .sentinel, .pinned], laidTests := true, laidLooks := .later }
def PlaylistPushesAsSpecifiedCardSaid : Prop := Claim7.holds Tryz.pinned (.plain (OpenSpec.ofChange playlistPushesAsSpecifiedSpec)) playlistPushesAsSpecifiedCard

/-- THE SECOND FORM's CARD OF 'weirgatelaw43.PlaylistMergesAsSpecified'. -/
def playlistMergesAsSpecifiedUptoCard : Claim7 := { stood := { row := playlistMergesAsSpecifiedUptoRow, standIns := [], harness := (true, "255fd139bd9613344c1f05bca005ba97fad4211d0fa1c01d92803ff3e59f71e4"), looks := true }, kinds := [], alts := [], laidByText := true, laidKinds := [.data, .data, .data, .data, .sentinel, .sentinel, .pinned], laidTests := true, laidLooks := .later }
def PlaylistMergesAsSpecifiedUptoCardSaid : Prop := Claim7.holds Tryz.pinned (.plain (OpenSpec.upto playlistMergesAsSpecifiedSpec)) playlistMergesAsSpecifiedUptoCard

/-- THE SECOND FORM's CARD OF 'weirgatelaw43.PlaylistReadsAsSpecified'. -/
def playlistReadsAsSpecifiedUptoCard : Claim7 := { stood := { row := playlistReadsAsSpecifiedUptoRow, standIns := [], harness := (true, "255fd139bd9613344c1f05bca005ba97fad4211d0fa1c01d92803ff3e59f71e4"), looks := true }, kinds := [], alts := [], laidByText := true, laidKinds := [.data, .data, .data, .data, .sentinel, .sentinel, .pinned], laidTests := true, laidLooks := .later }
def PlaylistReadsAsSpecifiedUptoCardSaid : Prop := Claim7.holds Tryz.pinned (.plain (OpenSpec.upto playlistReadsAsSpecifiedSpec)) playlistReadsAsSpecifiedUptoCard

/-- THE SECOND FORM's CARD OF 'weirgatelaw43.PlaylistSpreadsAsSpecified'. -/
def playlistSpreadsAsSpecifiedUptoCard : Claim7 := { stood := { row := playlistSpreadsAsSpecifiedUptoRow, standIns := [], harness := (true, "255fd139bd9613344c1f05bca005ba97fad4211d0fa1c01d92803ff3e59f71e4"), looks := true }, kinds := [], alts := [], laidByText := true, laidKinds := [.data, .data, .data, .data, .sentinel, .sentinel, .pinned], laidTests := true, laidLooks := .later }
def PlaylistSpreadsAsSpecifiedUptoCardSaid : Prop := Claim7.holds Tryz.pinned (.plain (OpenSpec.upto playlistSpreadsAsSpecifiedSpec)) playlistSpreadsAsSpecifiedUptoCard

/-- THE SECOND FORM's CARD OF 'weirgatelaw43.PlaylistPushesAsSpecified'. -/
def playlistPushesAsSpecifiedUptoCard : Claim7 := { stood := { row := playlistPushesAsSpecifiedUptoRow, standIns := [], harness := (true, "255fd139bd9613344c1f05bca005ba97fad4211d0fa1c01d92803ff3e59f71e4"), looks := true }, kinds := [], alts := [], laidByText := true, laidKinds := [.data, .data, .data, .data, .sentinel, .sentinel, .pinned], laidTests := true, laidLooks := .later }
def PlaylistPushesAsSpecifiedUptoCardSaid : Prop := Claim7.holds Tryz.pinned (.plain (OpenSpec.upto playlistPushesAsSpecifiedSpec)) playlistPushesAsSpecifiedUptoCard
end Rows
end Go.Proofs.YtmamodnpghlgcaaGreatDoor
