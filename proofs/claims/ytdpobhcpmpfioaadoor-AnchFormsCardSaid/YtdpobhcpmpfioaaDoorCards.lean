/-
  DERIVED. GIVEN WITH THE SEED: THE CARDS: each row of YtdpobhcpmpfioaaDoorRows.lean that lists a variable, with what it lists TIED to the program's text (the seventh form; the later family's looks); each row that meets fmt, with fmt's text TOLD by the authors' own Lean function (tested against real Go, not proved from fmt's source: count such statements apart). THE CARD IS WHAT COUNTS. Prove the row's statement (the work); the ties are given (YtdpobhcpmpfioaaDoorTie.lean); close each card by the builder's one call (the guide's Derived/Test/ToyasCard.lean, 'card_holds'). Laid BY PROGRAM, IN A SANDBOX (cutbox-door.mjs). By AI agents, Wed Nov 11 2026. No macro, syntax, notation, axiom, sorry.
-/
import Derived.Test.YtdpobhcpmpfioaaDoorRows
import GoSem.ClaimSeven
namespace Go.Proofs.YtdpobhcpmpfioaaDoor
namespace Rows

/-- THE TIED CARD OF 'lighteragelaw20.AnchForms'. -/
def anchFormsCard : Claim7 := { stood := { row := anchFormsRow, standIns := [], harness := (true, "c1d2575f67786e414054e76952a1a664266ad444ee888d936c16c7460c66b649"), looks := false }, kinds := [], alts := [], laidByText := true, laidKinds := [.data, .data], laidTests := true, laidLooks := .later }
def AnchFormsCardSaid : Prop := Claim7.holds Tryd.pinned (.plain (OpenSpec.ofChange anchFormsSpec)) anchFormsCard

/-- THE SECOND FORM's CARD OF 'lighteragelaw20.AnchForms'. -/
def anchFormsUptoCard : Claim7 := { stood := { row := anchFormsUptoRow, standIns := [], harness := (true, "c1d2575f67786e414054e76952a1a664266ad444ee888d936c16c7460c66b649"), looks := false }, kinds := [], alts := [], laidByText := true, laidKinds := [.data, .data], laidTests := true, laidLooks := .later }
def AnchFormsUptoCardSaid : Prop := Claim7.holds Tryd.pinned (.plain (OpenSpec.upto anchFormsSpec)) anchFormsUptoCard
end Rows
end Go.Proofs.YtdpobhcpmpfioaaDoor
