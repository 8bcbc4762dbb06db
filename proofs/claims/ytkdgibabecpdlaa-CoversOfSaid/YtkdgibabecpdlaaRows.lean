/-
  No cell of these rows narrows 'for every input' (looked for: loops, veiled, ifaces, maps, wideKeys, modest, calm, conditions, laid).
  DERIVED. THE GIVEN ROWS OF THIS SEAT. 9 by the template 'for every input the law returns true; each argument reads behind the call as it read before'; 0 by the template 'total and deterministic' (their statements: YtkdgibabecpdlaaTotals.lean).
  GIVEN WITH THE SEED: the statements are not yours to turn. If you find one false, say at which input.
  Laid BY PROGRAM, IN A SANDBOX (cutbox-rows.mjs): the forced cells as the released guide's own fill.sh prints them over the translation b7e1ac45ccc464c0… (all of the seat's roots in one cut). By AI agents, Wed Nov 11 2026. No macro, syntax, notation, axiom, sorry.
-/
import Derived.Test.YtkdgibabecpdlaaChecked
import GoSem.Claim
import GoSem.ClaimJoined
import GoSem.ClaimMapViews
import Derived.JoinedTies
import Derived.KernelRfl
namespace Go.Proofs.Ytkdgibabecpdlaa
/- THE CELL 'sum', in the pinned program and in every row, IS THE sha256 OF THE DUMP (.gsa) THAT YtkdgibabecpdlaaProg.lean LOADS. Nothing in Lean hashes anything: it is a label: what it is worth is what the hold of that sum in a sandbox is worth. -/
noncomputable def Try.pinned : Pinned := { name := "ytkdgibabecpdlaa", sum := "b7e1ac45ccc464c06be45ff494ff4a484d3320a8bc3f685af2e93f0957d436ec", checked := Try.checked }
namespace Rows
def none {H : Type} : Left H := { results := [], args := [] }

/-- 'gouachelaw28.CoversOf': WHATEVER THE INPUT: true; the input reads as it did. -/
def coversOfSpec : ChangeSpec := { name := "coversOf", fn := fun _ => fun
  | [d] => { results := [.lit (.bool true)], args := [d] }
  | _ => none }
def coversOfRow : OpenClaim := { program := "ytkdgibabecpdlaa", sum := "b7e1ac45ccc464c06be45ff494ff4a484d3320a8bc3f685af2e93f0957d436ec", func := "gouache/gouachelaw28.CoversOf", spec := "coversOf", unfollowed := true, recurses := true, apart := false }
def CoversOfSaid : Prop := coversOfRow.holds Try.pinned (OpenSpec.ofChange coversOfSpec)

/-- ITS FALSE NEIGHBOUR: 'it returns false'. Refute it at one input. -/
def coversOfWrong : ChangeSpec := { name := "coversOf", fn := fun _ => fun
  | [d] => { results := [.lit (.bool false)], args := [d] }
  | _ => none }
def CoversOfWrongFalsely : Prop := coversOfRow.holds Try.pinned (OpenSpec.ofChange coversOfWrong)

/-- 'gouachelaw28.CoversWinding': WHATEVER THE INPUT: true; the input reads as it did. -/
def coversWindingSpec : ChangeSpec := { name := "coversWinding", fn := fun _ => fun
  | [d1, d2] => { results := [.lit (.bool true)], args := [d1, d2] }
  | _ => none }
def coversWindingRow : OpenClaim := { program := "ytkdgibabecpdlaa", sum := "b7e1ac45ccc464c06be45ff494ff4a484d3320a8bc3f685af2e93f0957d436ec", func := "gouache/gouachelaw28.CoversWinding", spec := "coversWinding", unfollowed := true, recurses := true, apart := false }
def CoversWindingSaid : Prop := coversWindingRow.holds Try.pinned (OpenSpec.ofChange coversWindingSpec)

/-- ITS FALSE NEIGHBOUR: 'it returns false'. Refute it at one input. -/
def coversWindingWrong : ChangeSpec := { name := "coversWinding", fn := fun _ => fun
  | [d1, d2] => { results := [.lit (.bool false)], args := [d1, d2] }
  | _ => none }
def CoversWindingWrongFalsely : Prop := coversWindingRow.holds Try.pinned (OpenSpec.ofChange coversWindingWrong)

/-- 'gouachelaw28.CoversTurned': WHATEVER THE INPUT: true; the input reads as it did. -/
def coversTurnedSpec : ChangeSpec := { name := "coversTurned", fn := fun _ => fun
  | [d1, d2, d3] => { results := [.lit (.bool true)], args := [d1, d2, d3] }
  | _ => none }
def coversTurnedRow : OpenClaim := { program := "ytkdgibabecpdlaa", sum := "b7e1ac45ccc464c06be45ff494ff4a484d3320a8bc3f685af2e93f0957d436ec", func := "gouache/gouachelaw28.CoversTurned", spec := "coversTurned", unfollowed := true, recurses := true, apart := false }
def CoversTurnedSaid : Prop := coversTurnedRow.holds Try.pinned (OpenSpec.ofChange coversTurnedSpec)

/-- ITS FALSE NEIGHBOUR: 'it returns false'. Refute it at one input. -/
def coversTurnedWrong : ChangeSpec := { name := "coversTurned", fn := fun _ => fun
  | [d1, d2, d3] => { results := [.lit (.bool false)], args := [d1, d2, d3] }
  | _ => none }
def CoversTurnedWrongFalsely : Prop := coversTurnedRow.holds Try.pinned (OpenSpec.ofChange coversTurnedWrong)

/-- 'gouachelaw28.CoversCut': WHATEVER THE INPUT: true; the input reads as it did. -/
def coversCutSpec : ChangeSpec := { name := "coversCut", fn := fun _ => fun
  | [d1, d2, d3] => { results := [.lit (.bool true)], args := [d1, d2, d3] }
  | _ => none }
def coversCutRow : OpenClaim := { program := "ytkdgibabecpdlaa", sum := "b7e1ac45ccc464c06be45ff494ff4a484d3320a8bc3f685af2e93f0957d436ec", func := "gouache/gouachelaw28.CoversCut", spec := "coversCut", unfollowed := true, recurses := true, apart := false }
def CoversCutSaid : Prop := coversCutRow.holds Try.pinned (OpenSpec.ofChange coversCutSpec)

/-- ITS FALSE NEIGHBOUR: 'it returns false'. Refute it at one input. -/
def coversCutWrong : ChangeSpec := { name := "coversCut", fn := fun _ => fun
  | [d1, d2, d3] => { results := [.lit (.bool false)], args := [d1, d2, d3] }
  | _ => none }
def CoversCutWrongFalsely : Prop := coversCutRow.holds Try.pinned (OpenSpec.ofChange coversCutWrong)

/-- 'gouachelaw28.CoversBoxes': WHATEVER THE INPUT: true; the input reads as it did. -/
def coversBoxesSpec : ChangeSpec := { name := "coversBoxes", fn := fun _ => fun
  | [d1, d2, d3] => { results := [.lit (.bool true)], args := [d1, d2, d3] }
  | _ => none }
def coversBoxesRow : OpenClaim := { program := "ytkdgibabecpdlaa", sum := "b7e1ac45ccc464c06be45ff494ff4a484d3320a8bc3f685af2e93f0957d436ec", func := "gouache/gouachelaw28.CoversBoxes", spec := "coversBoxes", unfollowed := true, recurses := true, apart := false }
def CoversBoxesSaid : Prop := coversBoxesRow.holds Try.pinned (OpenSpec.ofChange coversBoxesSpec)

/-- ITS FALSE NEIGHBOUR: 'it returns false'. Refute it at one input. -/
def coversBoxesWrong : ChangeSpec := { name := "coversBoxes", fn := fun _ => fun
  | [d1, d2, d3] => { results := [.lit (.bool false)], args := [d1, d2, d3] }
  | _ => none }
def CoversBoxesWrongFalsely : Prop := coversBoxesRow.holds Try.pinned (OpenSpec.ofChange coversBoxesWrong)

/-- 'gouachelaw28.CoversMoved': WHATEVER THE INPUT: true; the input reads as it did. -/
def coversMovedSpec : ChangeSpec := { name := "coversMoved", fn := fun _ => fun
  | [d1, d2, d3] => { results := [.lit (.bool true)], args := [d1, d2, d3] }
  | _ => none }
def coversMovedRow : OpenClaim := { program := "ytkdgibabecpdlaa", sum := "b7e1ac45ccc464c06be45ff494ff4a484d3320a8bc3f685af2e93f0957d436ec", func := "gouache/gouachelaw28.CoversMoved", spec := "coversMoved", unfollowed := true, recurses := true, apart := false }
def CoversMovedSaid : Prop := coversMovedRow.holds Try.pinned (OpenSpec.ofChange coversMovedSpec)

/-- ITS FALSE NEIGHBOUR: 'it returns false'. Refute it at one input. -/
def coversMovedWrong : ChangeSpec := { name := "coversMoved", fn := fun _ => fun
  | [d1, d2, d3] => { results := [.lit (.bool false)], args := [d1, d2, d3] }
  | _ => none }
def CoversMovedWrongFalsely : Prop := coversMovedRow.holds Try.pinned (OpenSpec.ofChange coversMovedWrong)

/-- 'gouachelaw28.CoversPoints': WHATEVER THE INPUT: true; the input reads as it did. -/
def coversPointsSpec : ChangeSpec := { name := "coversPoints", fn := fun _ => fun
  | [d1, d2, d3] => { results := [.lit (.bool true)], args := [d1, d2, d3] }
  | _ => none }
def coversPointsRow : OpenClaim := { program := "ytkdgibabecpdlaa", sum := "b7e1ac45ccc464c06be45ff494ff4a484d3320a8bc3f685af2e93f0957d436ec", func := "gouache/gouachelaw28.CoversPoints", spec := "coversPoints", unfollowed := true, recurses := true, apart := false }
def CoversPointsSaid : Prop := coversPointsRow.holds Try.pinned (OpenSpec.ofChange coversPointsSpec)

/-- ITS FALSE NEIGHBOUR: 'it returns false'. Refute it at one input. -/
def coversPointsWrong : ChangeSpec := { name := "coversPoints", fn := fun _ => fun
  | [d1, d2, d3] => { results := [.lit (.bool false)], args := [d1, d2, d3] }
  | _ => none }
def CoversPointsWrongFalsely : Prop := coversPointsRow.holds Try.pinned (OpenSpec.ofChange coversPointsWrong)

/-- 'gouachelaw28.CoversBits': WHATEVER THE INPUT: true; the input reads as it did. -/
def coversBitsSpec : ChangeSpec := { name := "coversBits", fn := fun _ => fun
  | [d1, d2, d3] => { results := [.lit (.bool true)], args := [d1, d2, d3] }
  | _ => none }
def coversBitsRow : OpenClaim := { program := "ytkdgibabecpdlaa", sum := "b7e1ac45ccc464c06be45ff494ff4a484d3320a8bc3f685af2e93f0957d436ec", func := "gouache/gouachelaw28.CoversBits", spec := "coversBits", unfollowed := true, recurses := true, apart := false }
def CoversBitsSaid : Prop := coversBitsRow.holds Try.pinned (OpenSpec.ofChange coversBitsSpec)

/-- ITS FALSE NEIGHBOUR: 'it returns false'. Refute it at one input. -/
def coversBitsWrong : ChangeSpec := { name := "coversBits", fn := fun _ => fun
  | [d1, d2, d3] => { results := [.lit (.bool false)], args := [d1, d2, d3] }
  | _ => none }
def CoversBitsWrongFalsely : Prop := coversBitsRow.holds Try.pinned (OpenSpec.ofChange coversBitsWrong)

/-- 'gouachelaw28.CoversRules': WHATEVER THE INPUT: true; the input reads as it did. -/
def coversRulesSpec : ChangeSpec := { name := "coversRules", fn := fun _ => fun
  | [d] => { results := [.lit (.bool true)], args := [d] }
  | _ => none }
def coversRulesRow : OpenClaim := { program := "ytkdgibabecpdlaa", sum := "b7e1ac45ccc464c06be45ff494ff4a484d3320a8bc3f685af2e93f0957d436ec", func := "gouache/gouachelaw28.CoversRules", spec := "coversRules", unfollowed := true, recurses := true, apart := false }
def CoversRulesSaid : Prop := coversRulesRow.holds Try.pinned (OpenSpec.ofChange coversRulesSpec)

/-- ITS FALSE NEIGHBOUR: 'it returns false'. Refute it at one input. -/
def coversRulesWrong : ChangeSpec := { name := "coversRules", fn := fun _ => fun
  | [d] => { results := [.lit (.bool false)], args := [d] }
  | _ => none }
def CoversRulesWrongFalsely : Prop := coversRulesRow.holds Try.pinned (OpenSpec.ofChange coversRulesWrong)

/- THE SECOND FORM. 'bulk': how many values and letters a reading holds, each counted each time it is reached (what is shared counts as often as it is met; a slice's spare places count too). A statement '..UptoSaid' is the law's where the arguments, and the package variables that the reading takes, are together of bulk at most 1048576: NARROWER than '..Said'. Prove '..Said' where nothing that the law and all that it calls make is longer than what came in: it says more and counts as full. Else prove '..UptoSaid'. A law counts once. -/
mutual
def uptoBulk {H : Type} : DataW H → Nat
  | .lit (.string bytes) => bytes.length + 1
  | .lit _ => 1
  | .nil => 1
  | .ptr d => uptoBulk d + 1
  | .slice elems spare => uptoBulkAll elems + uptoBulkAll spare + 1
  | .agg parts => uptoBulkAll parts + 1
  | .iface _ d => uptoBulk d + 1
  | .map entries => uptoBulkEntries entries + 1
  | .held _ => 1
def uptoBulkAll {H : Type} : List (DataW H) → Nat
  | [] => 0
  | d :: r => uptoBulk d + uptoBulkAll r
def uptoBulkEntries {H : Type} : List (Lit × DataW H) → Nat
  | [] => 0
  | x :: r => uptoBulkEntry x + uptoBulkEntries r
def uptoBulkEntry {H : Type} : Lit × DataW H → Nat
  | (.string bytes, d) => bytes.length + uptoBulk d + 1
  | (_, d) => uptoBulk d + 1
 end
def uptoSmall : (H : Type) → List (DataW H) → Bool := fun _ ds => decide (uptoBulkAll ds ≤ 1048576)
def OpenSpec.upto (s : _root_.Go.ChangeSpec) : _root_.Go.OpenSpec := { _root_.Go.OpenSpec.ofChange s with cond := some uptoSmall }

/-- 'gouachelaw28.CoversOf', WHERE WHAT IT READS IS OF BULK AT MOST 1048576: true; the input reads as it did. -/
def coversOfUptoRow : OpenClaim := { program := "ytkdgibabecpdlaa", sum := "b7e1ac45ccc464c06be45ff494ff4a484d3320a8bc3f685af2e93f0957d436ec", func := "gouache/gouachelaw28.CoversOf", spec := "coversOf", unfollowed := true, recurses := true, apart := false, narrowed := true }
def CoversOfUptoSaid : Prop := coversOfUptoRow.holds Try.pinned (OpenSpec.upto coversOfSpec)

/-- 'gouachelaw28.CoversWinding', WHERE WHAT IT READS IS OF BULK AT MOST 1048576: true; the input reads as it did. -/
def coversWindingUptoRow : OpenClaim := { program := "ytkdgibabecpdlaa", sum := "b7e1ac45ccc464c06be45ff494ff4a484d3320a8bc3f685af2e93f0957d436ec", func := "gouache/gouachelaw28.CoversWinding", spec := "coversWinding", unfollowed := true, recurses := true, apart := false, narrowed := true }
def CoversWindingUptoSaid : Prop := coversWindingUptoRow.holds Try.pinned (OpenSpec.upto coversWindingSpec)

/-- 'gouachelaw28.CoversTurned', WHERE WHAT IT READS IS OF BULK AT MOST 1048576: true; the input reads as it did. -/
def coversTurnedUptoRow : OpenClaim := { program := "ytkdgibabecpdlaa", sum := "b7e1ac45ccc464c06be45ff494ff4a484d3320a8bc3f685af2e93f0957d436ec", func := "gouache/gouachelaw28.CoversTurned", spec := "coversTurned", unfollowed := true, recurses := true, apart := false, narrowed := true }
def CoversTurnedUptoSaid : Prop := coversTurnedUptoRow.holds Try.pinned (OpenSpec.upto coversTurnedSpec)

/-- 'gouachelaw28.CoversCut', WHERE WHAT IT READS IS OF BULK AT MOST 1048576: true; the input reads as it did. -/
def coversCutUptoRow : OpenClaim := { program := "ytkdgibabecpdlaa", sum := "b7e1ac45ccc464c06be45ff494ff4a484d3320a8bc3f685af2e93f0957d436ec", func := "gouache/gouachelaw28.CoversCut", spec := "coversCut", unfollowed := true, recurses := true, apart := false, narrowed := true }
def CoversCutUptoSaid : Prop := coversCutUptoRow.holds Try.pinned (OpenSpec.upto coversCutSpec)

/-- 'gouachelaw28.CoversBoxes', WHERE WHAT IT READS IS OF BULK AT MOST 1048576: true; the input reads as it did. -/
def coversBoxesUptoRow : OpenClaim := { program := "ytkdgibabecpdlaa", sum := "b7e1ac45ccc464c06be45ff494ff4a484d3320a8bc3f685af2e93f0957d436ec", func := "gouache/gouachelaw28.CoversBoxes", spec := "coversBoxes", unfollowed := true, recurses := true, apart := false, narrowed := true }
def CoversBoxesUptoSaid : Prop := coversBoxesUptoRow.holds Try.pinned (OpenSpec.upto coversBoxesSpec)

/-- 'gouachelaw28.CoversMoved', WHERE WHAT IT READS IS OF BULK AT MOST 1048576: true; the input reads as it did. -/
def coversMovedUptoRow : OpenClaim := { program := "ytkdgibabecpdlaa", sum := "b7e1ac45ccc464c06be45ff494ff4a484d3320a8bc3f685af2e93f0957d436ec", func := "gouache/gouachelaw28.CoversMoved", spec := "coversMoved", unfollowed := true, recurses := true, apart := false, narrowed := true }
def CoversMovedUptoSaid : Prop := coversMovedUptoRow.holds Try.pinned (OpenSpec.upto coversMovedSpec)

/-- 'gouachelaw28.CoversPoints', WHERE WHAT IT READS IS OF BULK AT MOST 1048576: true; the input reads as it did. -/
def coversPointsUptoRow : OpenClaim := { program := "ytkdgibabecpdlaa", sum := "b7e1ac45ccc464c06be45ff494ff4a484d3320a8bc3f685af2e93f0957d436ec", func := "gouache/gouachelaw28.CoversPoints", spec := "coversPoints", unfollowed := true, recurses := true, apart := false, narrowed := true }
def CoversPointsUptoSaid : Prop := coversPointsUptoRow.holds Try.pinned (OpenSpec.upto coversPointsSpec)

/-- 'gouachelaw28.CoversBits', WHERE WHAT IT READS IS OF BULK AT MOST 1048576: true; the input reads as it did. -/
def coversBitsUptoRow : OpenClaim := { program := "ytkdgibabecpdlaa", sum := "b7e1ac45ccc464c06be45ff494ff4a484d3320a8bc3f685af2e93f0957d436ec", func := "gouache/gouachelaw28.CoversBits", spec := "coversBits", unfollowed := true, recurses := true, apart := false, narrowed := true }
def CoversBitsUptoSaid : Prop := coversBitsUptoRow.holds Try.pinned (OpenSpec.upto coversBitsSpec)

/-- 'gouachelaw28.CoversRules', WHERE WHAT IT READS IS OF BULK AT MOST 1048576: true; the input reads as it did. -/
def coversRulesUptoRow : OpenClaim := { program := "ytkdgibabecpdlaa", sum := "b7e1ac45ccc464c06be45ff494ff4a484d3320a8bc3f685af2e93f0957d436ec", func := "gouache/gouachelaw28.CoversRules", spec := "coversRules", unfollowed := true, recurses := true, apart := false, narrowed := true }
def CoversRulesUptoSaid : Prop := coversRulesUptoRow.holds Try.pinned (OpenSpec.upto coversRulesSpec)

end Rows
end Go.Proofs.Ytkdgibabecpdlaa
