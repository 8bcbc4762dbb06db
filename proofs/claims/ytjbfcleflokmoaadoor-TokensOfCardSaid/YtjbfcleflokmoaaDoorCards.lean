/-
  DERIVED. GIVEN WITH THE SEED: THE CARDS: each row of YtjbfcleflokmoaaDoorRows.lean that lists a variable, with what it lists TIED to the program's text (the seventh form; the later family's looks); each row that meets fmt, with fmt's text TOLD by the authors' own Lean function (tested against real Go, not proved from fmt's source: count such statements apart). THE CARD IS WHAT COUNTS. Prove the row's statement (the work); the ties are given (YtjbfcleflokmoaaDoorTie.lean); close each card by the builder's one call (the guide's Derived/Test/ToyasCard.lean, 'card_holds'). Laid BY PROGRAM, IN A SANDBOX (cutbox-door.mjs). By AI agents, Wed Nov 11 2026. No macro, syntax, notation, axiom, sorry.
-/
import Derived.Test.YtjbfcleflokmoaaDoorRows
import GoSem.ClaimSeven
namespace Go.Proofs.YtjbfcleflokmoaaDoor
namespace Rows

/-- THE TIED CARD OF 'gouachelaw16.TokensOf'. -/
def tokensOfCard : Claim7 := { stood := { row := tokensOfRow, standIns := [], harness := (true, "d331b60fb0b8d67cb1c22b7b5cda7ce74748aabcf3586c77db7efc8ce8cc16f9"), looks := false }, kinds := [], alts := [], laidByText := true, laidKinds := [.data, .pinned], laidTests := true, laidLooks := .later }
def TokensOfCardSaid : Prop := Claim7.holds Tryd.pinned (.plain (OpenSpec.ofChange tokensOfSpec)) tokensOfCard

/-- THE TIED CARD OF 'gouachelaw16.TokensAgain'. -/
def tokensAgainCard : Claim7 := { stood := { row := tokensAgainRow, standIns := [], harness := (true, "d331b60fb0b8d67cb1c22b7b5cda7ce74748aabcf3586c77db7efc8ce8cc16f9"), looks := false }, kinds := [], alts := [], laidByText := true, laidKinds := [.data, .pinned], laidTests := true, laidLooks := .later }
def TokensAgainCardSaid : Prop := Claim7.holds Tryd.pinned (.plain (OpenSpec.ofChange tokensAgainSpec)) tokensAgainCard

/-- THE TIED CARD OF 'gouachelaw16.TokensPlaces'. -/
def tokensPlacesCard : Claim7 := { stood := { row := tokensPlacesRow, standIns := [], harness := (true, "d331b60fb0b8d67cb1c22b7b5cda7ce74748aabcf3586c77db7efc8ce8cc16f9"), looks := false }, kinds := [], alts := [], laidByText := true, laidKinds := [.data, .pinned], laidTests := true, laidLooks := .later }
def TokensPlacesCardSaid : Prop := Claim7.holds Tryd.pinned (.plain (OpenSpec.ofChange tokensPlacesSpec)) tokensPlacesCard

/-- THE TIED CARD OF 'gouachelaw16.TokensRemark'. -/
def tokensRemarkCard : Claim7 := { stood := { row := tokensRemarkRow, standIns := [], harness := (true, "d331b60fb0b8d67cb1c22b7b5cda7ce74748aabcf3586c77db7efc8ce8cc16f9"), looks := false }, kinds := [], alts := [], laidByText := true, laidKinds := [.data, .pinned], laidTests := true, laidLooks := .later }
def TokensRemarkCardSaid : Prop := Claim7.holds Tryd.pinned (.plain (OpenSpec.ofChange tokensRemarkSpec)) tokensRemarkCard

/-- THE SECOND FORM's CARD OF 'gouachelaw16.TokensOf'. -/
def tokensOfUptoCard : Claim7 := { stood := { row := tokensOfUptoRow, standIns := [], harness := (true, "d331b60fb0b8d67cb1c22b7b5cda7ce74748aabcf3586c77db7efc8ce8cc16f9"), looks := false }, kinds := [], alts := [], laidByText := true, laidKinds := [.data, .pinned], laidTests := true, laidLooks := .later }
def TokensOfUptoCardSaid : Prop := Claim7.holds Tryd.pinned (.plain (OpenSpec.upto tokensOfSpec)) tokensOfUptoCard

/-- THE SECOND FORM's CARD OF 'gouachelaw16.TokensAgain'. -/
def tokensAgainUptoCard : Claim7 := { stood := { row := tokensAgainUptoRow, standIns := [], harness := (true, "d331b60fb0b8d67cb1c22b7b5cda7ce74748aabcf3586c77db7efc8ce8cc16f9"), looks := false }, kinds := [], alts := [], laidByText := true, laidKinds := [.data, .pinned], laidTests := true, laidLooks := .later }
def TokensAgainUptoCardSaid : Prop := Claim7.holds Tryd.pinned (.plain (OpenSpec.upto tokensAgainSpec)) tokensAgainUptoCard

/-- THE SECOND FORM's CARD OF 'gouachelaw16.TokensPlaces'. -/
def tokensPlacesUptoCard : Claim7 := { stood := { row := tokensPlacesUptoRow, standIns := [], harness := (true, "d331b60fb0b8d67cb1c22b7b5cda7ce74748aabcf3586c77db7efc8ce8cc16f9"), looks := false }, kinds := [], alts := [], laidByText := true, laidKinds := [.data, .pinned], laidTests := true, laidLooks := .later }
def TokensPlacesUptoCardSaid : Prop := Claim7.holds Tryd.pinned (.plain (OpenSpec.upto tokensPlacesSpec)) tokensPlacesUptoCard

/-- THE SECOND FORM's CARD OF 'gouachelaw16.TokensRemark'. -/
def tokensRemarkUptoCard : Claim7 := { stood := { row := tokensRemarkUptoRow, standIns := [], harness := (true, "d331b60fb0b8d67cb1c22b7b5cda7ce74748aabcf3586c77db7efc8ce8cc16f9"), looks := false }, kinds := [], alts := [], laidByText := true, laidKinds := [.data, .pinned], laidTests := true, laidLooks := .later }
def TokensRemarkUptoCardSaid : Prop := Claim7.holds Tryd.pinned (.plain (OpenSpec.upto tokensRemarkSpec)) tokensRemarkUptoCard
end Rows
end Go.Proofs.YtjbfcleflokmoaaDoor
