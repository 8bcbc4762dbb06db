/-
  NARROWER THAN 'FOR EVERY INPUT', by the rows' own cells (each row's printed sentence says how): TokensOf: laid · TokensAgain: laid · TokensPlaces: laid · TokensRemark: laid.
  DERIVED. THE GIVEN ROWS OF THIS SEAT. 4 by the template 'for every input the law returns true; each argument reads behind the call as it read before'; 0 by the template 'total and deterministic' (their statements: YtjbfcleflokmoaaDoorTotals.lean).
  GIVEN WITH THE SEED: the statements are not yours to turn. If you find one false, say at which input.
  Laid BY PROGRAM, IN A SANDBOX (cutbox-rows.mjs): the forced cells as the released guide's own fill.sh prints them over the translation a22ee608efbc2dfe… (all of the seat's roots in one cut). By AI agents, Wed Nov 11 2026. No macro, syntax, notation, axiom, sorry.
-/
import Derived.Test.YtjbfcleflokmoaaDoorChecked
import GoSem.PinnedTables
import GoSem.Claim
import GoSem.ClaimJoined
import GoSem.ClaimMapViews
import Derived.JoinedTies
import Derived.KernelRfl
namespace Go.Proofs.YtjbfcleflokmoaaDoor
/- THE CELL 'sum', in the pinned program and in every row, IS THE sha256 OF THE DUMP (.gsa) THAT YtjbfcleflokmoaaDoorProg.lean LOADS. Nothing in Lean hashes anything: it is a label: what it is worth is what the hold of that sum in a sandbox is worth. -/
noncomputable def Tryd.pinned : Pinned := { name := "ytjbfcleflokmoaadoor", sum := "a22ee608efbc2dfe955ffd05917ad6ccdc852d443b53eeefb28df0790d65f32c", checked := Tryd.checked }
namespace Rows
def none {H : Type} : Left H := { results := [], args := [] }

/- WHAT THE LISTED PACKAGE-LEVEL VARIABLES READ AS WHEN THE CALL BEGINS. Each datum BY PROGRAM (the guide's laid-datum.mjs) off the statement by which the dump's own 'gosem.cut.vars' lays the variable. In a bare row this is a premise. The card (YtjbfcleflokmoaaDoorCards.lean) ties it to the program's text. -/
def laid_unicode_utf8_acceptRanges {H : Type} : DataW H := .agg [.agg [.lit (.int .u8 128), .lit (.int .u8 191)], .agg [.lit (.int .u8 160), .lit (.int .u8 191)], .agg [.lit (.int .u8 128), .lit (.int .u8 159)], .agg [.lit (.int .u8 144), .lit (.int .u8 191)], .agg [.lit (.int .u8 128), .lit (.int .u8 143)], .agg [.lit (.int .u8 0), .lit (.int .u8 0)], .agg [.lit (.int .u8 0), .lit (.int .u8 0)], .agg [.lit (.int .u8 0), .lit (.int .u8 0)], .agg [.lit (.int .u8 0), .lit (.int .u8 0)], .agg [.lit (.int .u8 0), .lit (.int .u8 0)], .agg [.lit (.int .u8 0), .lit (.int .u8 0)], .agg [.lit (.int .u8 0), .lit (.int .u8 0)], .agg [.lit (.int .u8 0), .lit (.int .u8 0)], .agg [.lit (.int .u8 0), .lit (.int .u8 0)], .agg [.lit (.int .u8 0), .lit (.int .u8 0)], .agg [.lit (.int .u8 0), .lit (.int .u8 0)]]
/-- One of Go's own tables, pinned by name: the form's constant. -/
def laid_unicode_utf8_first : DataW Unit := Go.Pinned.utf8First

/-- 'gouachelaw16.TokensOf': WHATEVER THE INPUT: true; the input reads as it did. -/
def tokensOfSpec : ChangeSpec := { name := "tokensOf", fn := fun _ => fun
  | [d] => { results := [.lit (.bool true)], args := [d] }
  | _ => none }
def tokensOfRow : OpenClaim := { program := "ytjbfcleflokmoaadoor", sum := "a22ee608efbc2dfe955ffd05917ad6ccdc852d443b53eeefb28df0790d65f32c", func := "gouache/gouachelaw16.TokensOf", spec := "tokensOf", inPlace := ["internal/bytealg.IndexByteString", "internal/bytealg.IndexString"], named := ["unicode/utf8.first", "unicode/utf8.acceptRanges", "internal/bytealg.MaxLen"], apart := false, laid := [("unicode/utf8.acceptRanges", laid_unicode_utf8_acceptRanges), ("unicode/utf8.first", laid_unicode_utf8_first)] }
def TokensOfSaid : Prop := tokensOfRow.holds Tryd.pinned (OpenSpec.ofChange tokensOfSpec)

/-- ITS FALSE NEIGHBOUR: 'it returns false'. Refute it at one input. -/
def tokensOfWrong : ChangeSpec := { name := "tokensOf", fn := fun _ => fun
  | [d] => { results := [.lit (.bool false)], args := [d] }
  | _ => none }
def TokensOfWrongFalsely : Prop := tokensOfRow.holds Tryd.pinned (OpenSpec.ofChange tokensOfWrong)

/-- 'gouachelaw16.TokensAgain': WHATEVER THE INPUT: true; the input reads as it did. -/
def tokensAgainSpec : ChangeSpec := { name := "tokensAgain", fn := fun _ => fun
  | [d1, d2] => { results := [.lit (.bool true)], args := [d1, d2] }
  | _ => none }
def tokensAgainRow : OpenClaim := { program := "ytjbfcleflokmoaadoor", sum := "a22ee608efbc2dfe955ffd05917ad6ccdc852d443b53eeefb28df0790d65f32c", func := "gouache/gouachelaw16.TokensAgain", spec := "tokensAgain", inPlace := ["internal/bytealg.IndexByteString", "internal/bytealg.IndexString"], named := ["unicode/utf8.first", "unicode/utf8.acceptRanges", "internal/bytealg.MaxLen"], apart := false, laid := [("unicode/utf8.acceptRanges", laid_unicode_utf8_acceptRanges), ("unicode/utf8.first", laid_unicode_utf8_first)] }
def TokensAgainSaid : Prop := tokensAgainRow.holds Tryd.pinned (OpenSpec.ofChange tokensAgainSpec)

/-- ITS FALSE NEIGHBOUR: 'it returns false'. Refute it at one input. -/
def tokensAgainWrong : ChangeSpec := { name := "tokensAgain", fn := fun _ => fun
  | [d1, d2] => { results := [.lit (.bool false)], args := [d1, d2] }
  | _ => none }
def TokensAgainWrongFalsely : Prop := tokensAgainRow.holds Tryd.pinned (OpenSpec.ofChange tokensAgainWrong)

/-- 'gouachelaw16.TokensPlaces': WHATEVER THE INPUT: true; the input reads as it did. -/
def tokensPlacesSpec : ChangeSpec := { name := "tokensPlaces", fn := fun _ => fun
  | [d] => { results := [.lit (.bool true)], args := [d] }
  | _ => none }
def tokensPlacesRow : OpenClaim := { program := "ytjbfcleflokmoaadoor", sum := "a22ee608efbc2dfe955ffd05917ad6ccdc852d443b53eeefb28df0790d65f32c", func := "gouache/gouachelaw16.TokensPlaces", spec := "tokensPlaces", inPlace := ["internal/bytealg.IndexByteString", "internal/bytealg.IndexString"], named := ["unicode/utf8.first", "unicode/utf8.acceptRanges", "internal/bytealg.MaxLen"], apart := false, laid := [("unicode/utf8.acceptRanges", laid_unicode_utf8_acceptRanges), ("unicode/utf8.first", laid_unicode_utf8_first)] }
def TokensPlacesSaid : Prop := tokensPlacesRow.holds Tryd.pinned (OpenSpec.ofChange tokensPlacesSpec)

/-- ITS FALSE NEIGHBOUR: 'it returns false'. Refute it at one input. -/
def tokensPlacesWrong : ChangeSpec := { name := "tokensPlaces", fn := fun _ => fun
  | [d] => { results := [.lit (.bool false)], args := [d] }
  | _ => none }
def TokensPlacesWrongFalsely : Prop := tokensPlacesRow.holds Tryd.pinned (OpenSpec.ofChange tokensPlacesWrong)

/-- 'gouachelaw16.TokensRemark': WHATEVER THE INPUT: true; the input reads as it did. -/
def tokensRemarkSpec : ChangeSpec := { name := "tokensRemark", fn := fun _ => fun
  | [d1, d2] => { results := [.lit (.bool true)], args := [d1, d2] }
  | _ => none }
def tokensRemarkRow : OpenClaim := { program := "ytjbfcleflokmoaadoor", sum := "a22ee608efbc2dfe955ffd05917ad6ccdc852d443b53eeefb28df0790d65f32c", func := "gouache/gouachelaw16.TokensRemark", spec := "tokensRemark", inPlace := ["internal/bytealg.IndexByteString", "internal/bytealg.IndexString"], named := ["unicode/utf8.first", "unicode/utf8.acceptRanges", "internal/bytealg.MaxLen"], apart := false, laid := [("unicode/utf8.acceptRanges", laid_unicode_utf8_acceptRanges), ("unicode/utf8.first", laid_unicode_utf8_first)] }
def TokensRemarkSaid : Prop := tokensRemarkRow.holds Tryd.pinned (OpenSpec.ofChange tokensRemarkSpec)

/-- ITS FALSE NEIGHBOUR: 'it returns false'. Refute it at one input. -/
def tokensRemarkWrong : ChangeSpec := { name := "tokensRemark", fn := fun _ => fun
  | [d1, d2] => { results := [.lit (.bool false)], args := [d1, d2] }
  | _ => none }
def TokensRemarkWrongFalsely : Prop := tokensRemarkRow.holds Tryd.pinned (OpenSpec.ofChange tokensRemarkWrong)

/- THE SECOND FORM. 'bulk': how many values and letters a reading holds, each counted each time it is reached (what is shared counts as often as it is met; a slice's spare places count too). A statement '..UptoSaid' is the law's where the arguments, and the package variables that the reading takes, are together of bulk at most 1048576: NARROWER than '..Said'. Prove '..Said' where nothing that the law and all that it calls make is longer than what came in: it says more and counts as full. Else prove '..UptoSaid'. A law counts once. -/
mutual
def uptoBulk {H : Type} : DataW H → Nat
  | .lit (.string bytes) => bytes.length + 1
  | .lit _ => 1
  | .nil => 1
  | .ptr d => uptoBulk d + 1
  | .slice elems spare => uptoBulkAll elems + uptoBulkAll spare + 1
  | .agg parts => uptoBulkAll parts + 1
  | .iface _ d => uptoBulk d + 1
  | .map entries => uptoBulkEntries entries + 1
  | .held _ => 1
def uptoBulkAll {H : Type} : List (DataW H) → Nat
  | [] => 0
  | d :: r => uptoBulk d + uptoBulkAll r
def uptoBulkEntries {H : Type} : List (Lit × DataW H) → Nat
  | [] => 0
  | x :: r => uptoBulkEntry x + uptoBulkEntries r
def uptoBulkEntry {H : Type} : Lit × DataW H → Nat
  | (.string bytes, d) => bytes.length + uptoBulk d + 1
  | (_, d) => uptoBulk d + 1
 end
def uptoSmall : (H : Type) → List (DataW H) → Bool := fun _ ds => decide (uptoBulkAll ds ≤ 1048576)
def OpenSpec.upto (s : _root_.Go.ChangeSpec) : _root_.Go.OpenSpec := { _root_.Go.OpenSpec.ofChange s with cond := some uptoSmall }

/-- 'gouachelaw16.TokensOf', WHERE WHAT IT READS IS OF BULK AT MOST 1048576: true; the input reads as it did. -/
def tokensOfUptoRow : OpenClaim := { program := "ytjbfcleflokmoaadoor", sum := "a22ee608efbc2dfe955ffd05917ad6ccdc852d443b53eeefb28df0790d65f32c", func := "gouache/gouachelaw16.TokensOf", spec := "tokensOf", inPlace := ["internal/bytealg.IndexByteString", "internal/bytealg.IndexString"], named := ["unicode/utf8.first", "unicode/utf8.acceptRanges", "internal/bytealg.MaxLen"], apart := false, laid := [("unicode/utf8.acceptRanges", laid_unicode_utf8_acceptRanges), ("unicode/utf8.first", laid_unicode_utf8_first)], narrowed := true }
def TokensOfUptoSaid : Prop := tokensOfUptoRow.holds Tryd.pinned (OpenSpec.upto tokensOfSpec)

/-- 'gouachelaw16.TokensAgain', WHERE WHAT IT READS IS OF BULK AT MOST 1048576: true; the input reads as it did. -/
def tokensAgainUptoRow : OpenClaim := { program := "ytjbfcleflokmoaadoor", sum := "a22ee608efbc2dfe955ffd05917ad6ccdc852d443b53eeefb28df0790d65f32c", func := "gouache/gouachelaw16.TokensAgain", spec := "tokensAgain", inPlace := ["internal/bytealg.IndexByteString", "internal/bytealg.IndexString"], named := ["unicode/utf8.first", "unicode/utf8.acceptRanges", "internal/bytealg.MaxLen"], apart := false, laid := [("unicode/utf8.acceptRanges", laid_unicode_utf8_acceptRanges), ("unicode/utf8.first", laid_unicode_utf8_first)], narrowed := true }
def TokensAgainUptoSaid : Prop := tokensAgainUptoRow.holds Tryd.pinned (OpenSpec.upto tokensAgainSpec)

/-- 'gouachelaw16.TokensPlaces', WHERE WHAT IT READS IS OF BULK AT MOST 1048576: true; the input reads as it did. -/
def tokensPlacesUptoRow : OpenClaim := { program := "ytjbfcleflokmoaadoor", sum := "a22ee608efbc2dfe955ffd05917ad6ccdc852d443b53eeefb28df0790d65f32c", func := "gouache/gouachelaw16.TokensPlaces", spec := "tokensPlaces", inPlace := ["internal/bytealg.IndexByteString", "internal/bytealg.IndexString"], named := ["unicode/utf8.first", "unicode/utf8.acceptRanges", "internal/bytealg.MaxLen"], apart := false, laid := [("unicode/utf8.acceptRanges", laid_unicode_utf8_acceptRanges), ("unicode/utf8.first", laid_unicode_utf8_first)], narrowed := true }
def TokensPlacesUptoSaid : Prop := tokensPlacesUptoRow.holds Tryd.pinned (OpenSpec.upto tokensPlacesSpec)

/-- 'gouachelaw16.TokensRemark', WHERE WHAT IT READS IS OF BULK AT MOST 1048576: true; the input reads as it did. -/
def tokensRemarkUptoRow : OpenClaim := { program := "ytjbfcleflokmoaadoor", sum := "a22ee608efbc2dfe955ffd05917ad6ccdc852d443b53eeefb28df0790d65f32c", func := "gouache/gouachelaw16.TokensRemark", spec := "tokensRemark", inPlace := ["internal/bytealg.IndexByteString", "internal/bytealg.IndexString"], named := ["unicode/utf8.first", "unicode/utf8.acceptRanges", "internal/bytealg.MaxLen"], apart := false, laid := [("unicode/utf8.acceptRanges", laid_unicode_utf8_acceptRanges), ("unicode/utf8.first", laid_unicode_utf8_first)], narrowed := true }
def TokensRemarkUptoSaid : Prop := tokensRemarkUptoRow.holds Tryd.pinned (OpenSpec.upto tokensRemarkSpec)

end Rows
end Go.Proofs.YtjbfcleflokmoaaDoor
