/- Proved: small laws on worlds and rows that the texts of this seat use; for all worlds. -/
import Derived.Test.YthhmahmclkmjpaaDoorPointsW0
import Derived.Test.YthhmahmclkmjpaaDoorCore2
import Derived.Deep.CutRange
import Derived.Deep.DeepCutAuto
import Derived.Deep.CutBlock
import Derived.Deep.RegionLaw
import Derived.Deep.RegionHeld3
import Derived.Deep.LoopGhost
import Derived.Deep.QuietTactic
import Derived.BigQuiet
import Derived.Outline
import Derived.IntWalk
namespace Go.Proofs.YthhmahmclkmjpaaDoor
open Go.RowKit
theorem below_drewN {B : Nat} {a b : World} (h : Below B a b) (n : Nat) : Below B a (b.drewN n) := ⟨h.os, h.tape, h.output, h.size, h.block⟩
theorem rd_of {w : World} {b e s n m c : Nat} {A : Option Addr} {xs : List Value} (h : w.ownsRow b e s (.slice A m c) n xs) : Rd w A xs := by
  obtain ⟨A', c', e', -, hr, -⟩ := ownsRow_form h
  injection e' with e1 _ _
  subst e1
  exact hr
theorem own_lt {w : World} {base e s n : Nat} {v : Value} {xs : List Value} (h : w.ownsRow base e s v n xs) (g : Nat) (hg : v.ownBlock = some g) : g < w.heap.size := by
  rcases h.2 with ⟨h0, _⟩ | ⟨g', cap, cur, rfl, _, hh, _⟩
  · rw [h0] at hg; cases hg
  · have : g' = g := by simpa [Value.ownBlock] using hg
    subst this
    exact (Array.getElem?_eq_some_iff.1 hh).1
end Go.Proofs.YthhmahmclkmjpaaDoor
