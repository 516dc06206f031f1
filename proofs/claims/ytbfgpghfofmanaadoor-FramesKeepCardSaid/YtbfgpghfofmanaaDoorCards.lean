/-
  DERIVED. GIVEN WITH THE SEED: THE CARDS: each row of YtbfgpghfofmanaaDoorRows.lean that lists a variable, with what it lists TIED to the program's text (the seventh form; the later family's looks); each row that meets fmt, with fmt's text TOLD by the authors' own Lean function (tested against real Go, not proved from fmt's source: count such statements apart). THE CARD IS WHAT COUNTS. Prove the row's statement (the work); the ties are given (YtbfgpghfofmanaaDoorTie.lean); close each card by the builder's one call (the guide's Derived/Test/ToyasCard.lean, 'card_holds'). Laid BY PROGRAM, IN A SANDBOX (cutbox-door.mjs). By AI agents, Wed Nov 11 2026. No macro, syntax, notation, axiom, sorry.
-/
import Derived.Test.YtbfgpghfofmanaaDoorRows
import GoSem.ClaimSeven
namespace Go.Proofs.YtbfgpghfofmanaaDoor
namespace Rows

/-- THE TIED CARD OF 'siltlaw17.FramesKeep'. -/
def framesKeepCard : Claim7 := { stood := { row := framesKeepRow, standIns := [], harness := (true, "af8f5c7e0a1bd02c30b04ba8e5aea8c4629cc16d8892c7b8b715459d9aa4eb3d"), looks := true }, kinds := [], alts := [], laidByText := true, laidKinds := [.handle], laidTests := true, laidLooks := .later }
def FramesKeepCardSaid : Prop := Claim7.holds Tryd.pinned (.plain (OpenSpec.ofChange framesKeepSpec)) framesKeepCard

/-- THE TIED CARD OF 'siltlaw17.FramesPlay'. -/
def framesPlayCard : Claim7 := { stood := { row := framesPlayRow, standIns := [], harness := (true, "af8f5c7e0a1bd02c30b04ba8e5aea8c4629cc16d8892c7b8b715459d9aa4eb3d"), looks := true }, kinds := [], alts := [], laidByText := true, laidKinds := [.handle], laidTests := true, laidLooks := .later }
def FramesPlayCardSaid : Prop := Claim7.holds Tryd.pinned (.plain (OpenSpec.ofChange framesPlaySpec)) framesPlayCard

/-- THE SECOND FORM's CARD OF 'siltlaw17.FramesKeep'. -/
def framesKeepUptoCard : Claim7 := { stood := { row := framesKeepUptoRow, standIns := [], harness := (true, "af8f5c7e0a1bd02c30b04ba8e5aea8c4629cc16d8892c7b8b715459d9aa4eb3d"), looks := true }, kinds := [], alts := [], laidByText := true, laidKinds := [.handle], laidTests := true, laidLooks := .later }
def FramesKeepUptoCardSaid : Prop := Claim7.holds Tryd.pinned (.plain (OpenSpec.upto framesKeepSpec)) framesKeepUptoCard

/-- THE SECOND FORM's CARD OF 'siltlaw17.FramesPlay'. -/
def framesPlayUptoCard : Claim7 := { stood := { row := framesPlayUptoRow, standIns := [], harness := (true, "af8f5c7e0a1bd02c30b04ba8e5aea8c4629cc16d8892c7b8b715459d9aa4eb3d"), looks := true }, kinds := [], alts := [], laidByText := true, laidKinds := [.handle], laidTests := true, laidLooks := .later }
def FramesPlayUptoCardSaid : Prop := Claim7.holds Tryd.pinned (.plain (OpenSpec.upto framesPlaySpec)) framesPlayUptoCard
end Rows
end Go.Proofs.YtbfgpghfofmanaaDoor
