/-
  DERIVED. GIVEN WITH THE SEED: THE CARDS: each row of YthhmahmclkmjpaaDoorRows.lean that lists a variable, with what it lists TIED to the program's text (the seventh form; the later family's looks); each row that meets fmt, with fmt's text TOLD by the authors' own Lean function (tested against real Go, not proved from fmt's source: count such statements apart). THE CARD IS WHAT COUNTS. Prove the row's statement (the work); the ties are given (YthhmahmclkmjpaaDoorTie.lean); close each card by the builder's one call (the guide's Derived/Test/ToyasCard.lean, 'card_holds'). Laid BY PROGRAM, IN A SANDBOX (cutbox-door.mjs). By AI agents, Wed Nov 11 2026. No macro, syntax, notation, axiom, sorry.
-/
import Derived.Test.YthhmahmclkmjpaaDoorRows
import GoSem.ClaimSeven
namespace Go.Proofs.YthhmahmclkmjpaaDoor
namespace Rows

/-- THE TIED CARD OF 'gouachelaw17.ProgramsNumber'. -/
def programsNumberCard : Claim7 := { stood := { row := programsNumberRow, standIns := [], harness := (true, "f68c6492cf414dc17d22881be8223e44fc59e5f1eda5eb2a4de4d9592dba577b"), looks := true }, kinds := [], alts := [], laidByText := true, laidKinds := [.data, .listed, .data, .pinned], laidTests := true, laidLooks := .later }
def ProgramsNumberCardSaid : Prop := Claim7.holds Tryd.pinned (.plain (OpenSpec.ofChange programsNumberSpec)) programsNumberCard

/-- THE TIED CARD OF 'gouachelaw17.ProgramsForward'. -/
def programsForwardCard : Claim7 := { stood := { row := programsForwardRow, standIns := [], harness := (true, "f68c6492cf414dc17d22881be8223e44fc59e5f1eda5eb2a4de4d9592dba577b"), looks := true }, kinds := [], alts := [], laidByText := true, laidKinds := [.data, .listed, .data, .pinned], laidTests := true, laidLooks := .later }
def ProgramsForwardCardSaid : Prop := Claim7.holds Tryd.pinned (.plain (OpenSpec.ofChange programsForwardSpec)) programsForwardCard

/-- THE TIED CARD OF 'gouachelaw17.ProgramsIf'. -/
def programsIfCard : Claim7 := { stood := { row := programsIfRow, standIns := [], harness := (true, "f68c6492cf414dc17d22881be8223e44fc59e5f1eda5eb2a4de4d9592dba577b"), looks := true }, kinds := [], alts := [], laidByText := true, laidKinds := [.data, .listed, .data, .pinned], laidTests := true, laidLooks := .later }
def ProgramsIfCardSaid : Prop := Claim7.holds Tryd.pinned (.plain (OpenSpec.ofChange programsIfSpec)) programsIfCard

/-- THE TIED CARD OF 'gouachelaw17.ProgramsSign'. -/
def programsSignCard : Claim7 := { stood := { row := programsSignRow, standIns := [], harness := (true, "f68c6492cf414dc17d22881be8223e44fc59e5f1eda5eb2a4de4d9592dba577b"), looks := true }, kinds := [], alts := [], laidByText := true, laidKinds := [.data, .listed, .data, .pinned], laidTests := true, laidLooks := .later }
def ProgramsSignCardSaid : Prop := Claim7.holds Tryd.pinned (.plain (OpenSpec.ofChange programsSignSpec)) programsSignCard

/-- THE SECOND FORM's CARD OF 'gouachelaw17.ProgramsNumber'. -/
def programsNumberUptoCard : Claim7 := { stood := { row := programsNumberUptoRow, standIns := [], harness := (true, "f68c6492cf414dc17d22881be8223e44fc59e5f1eda5eb2a4de4d9592dba577b"), looks := true }, kinds := [], alts := [], laidByText := true, laidKinds := [.data, .listed, .data, .pinned], laidTests := true, laidLooks := .later }
def ProgramsNumberUptoCardSaid : Prop := Claim7.holds Tryd.pinned (.plain (OpenSpec.upto programsNumberSpec)) programsNumberUptoCard

/-- THE SECOND FORM's CARD OF 'gouachelaw17.ProgramsForward'. -/
def programsForwardUptoCard : Claim7 := { stood := { row := programsForwardUptoRow, standIns := [], harness := (true, "f68c6492cf414dc17d22881be8223e44fc59e5f1eda5eb2a4de4d9592dba577b"), looks := true }, kinds := [], alts := [], laidByText := true, laidKinds := [.data, .listed, .data, .pinned], laidTests := true, laidLooks := .later }
def ProgramsForwardUptoCardSaid : Prop := Claim7.holds Tryd.pinned (.plain (OpenSpec.upto programsForwardSpec)) programsForwardUptoCard

/-- THE SECOND FORM's CARD OF 'gouachelaw17.ProgramsIf'. -/
def programsIfUptoCard : Claim7 := { stood := { row := programsIfUptoRow, standIns := [], harness := (true, "f68c6492cf414dc17d22881be8223e44fc59e5f1eda5eb2a4de4d9592dba577b"), looks := true }, kinds := [], alts := [], laidByText := true, laidKinds := [.data, .listed, .data, .pinned], laidTests := true, laidLooks := .later }
def ProgramsIfUptoCardSaid : Prop := Claim7.holds Tryd.pinned (.plain (OpenSpec.upto programsIfSpec)) programsIfUptoCard

/-- THE SECOND FORM's CARD OF 'gouachelaw17.ProgramsSign'. -/
def programsSignUptoCard : Claim7 := { stood := { row := programsSignUptoRow, standIns := [], harness := (true, "f68c6492cf414dc17d22881be8223e44fc59e5f1eda5eb2a4de4d9592dba577b"), looks := true }, kinds := [], alts := [], laidByText := true, laidKinds := [.data, .listed, .data, .pinned], laidTests := true, laidLooks := .later }
def ProgramsSignUptoCardSaid : Prop := Claim7.holds Tryd.pinned (.plain (OpenSpec.upto programsSignSpec)) programsSignUptoCard
end Rows
end Go.Proofs.YthhmahmclkmjpaaDoor
