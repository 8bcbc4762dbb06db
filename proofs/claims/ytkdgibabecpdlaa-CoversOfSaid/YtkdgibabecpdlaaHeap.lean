/- Proved: container/heap's calls over the waiting edges (Len, Less, Swap, Pop); for rows of edges in memory of their own. -/
import Derived.Test.YtkdgibabecpdlaaWind2
import Derived.BigRegion
import Derived.Deep.MidRow
namespace Go.Proofs.Ytkdgibabecpdlaa
open Go.RowKit

/-- keys of two edges. -/
def keyAt (l : List Edge) (i : Nat) : Int := (l.getD i ((0, 0), (0, 0), 0)).1.2

set_option maxHeartbeats 400000 in
theorem waitLen_any (A : Option Addr) (n cap : Nat) (w : World) :
    Calls Try.prog 113 #[.slice A n cap] w fun e w' => e = .returned (.int .i64 n) ∧ w = w' := by
  go_enter Try.func113, Try.ntmps113
  go_wp2
  go_ret
  exact ⟨rfl, rfl⟩

set_option maxHeartbeats 400000 in
theorem waitLess_any (A : Option Addr) (cap : Nat) (l : List Edge) (i j : Nat) (x y : Int) (w : World) (h : Rd w A (edgeCells l)) (hx : x = i) (hy : y = j) (hi : i < l.length) (hj : j < l.length) :
    Calls Try.prog 114 #[.slice A l.length cap, .int .i64 x, .int .i64 y] w fun e w' => e = .returned (.bool (decide (keyAt l i < keyAt l j))) ∧ ∃ n, w' = w.drewN n := by
  subst hx hy
  obtain ⟨b, off, rfl, hbl, -, c1, -, -, -⟩ := h.edge (List.getElem?_eq_getElem hi)
  obtain ⟨b', off', e', -, -, d1, -, -, -⟩ := h.edge (List.getElem?_eq_getElem hj)
  injection e' with e'; injection e' with e1 e2; subst e1 e2
  have k1 : keyAt l i = l[i].1.2 := by simp [keyAt, List.getD, hi]
  have k2 : keyAt l j = l[j].1.2 := by simp [keyAt, List.getD, hj]
  rw [k1, k2]
  generalize l[i].1.2 = x at *
  generalize l[j].1.2 = y at *
  have hi' : (i : Int) < (l.length : Int) := by omega
  have hj' : (j : Int) < (l.length : Int) := by omega
  have hi0 : (0 : Int) ≤ (i : Int) := by omega
  have hj0 : (0 : Int) ≤ (j : Int) := by omega
  clear h k1 k2 hi hj
  go_enter Try.func114, Try.ntmps114
  go_wp2
  go_quiet (fail)
  go_wp2
  go_ret
  exact ⟨rfl, _, rfl⟩


theorem cell?_setCell_some {w : World} {p q : Addr} {x v : Value} (h : w.cell? q = some v) : ∃ v', (w.setCell p x).cell? q = some v' := by
  by_cases e : p = q
  · subst e; exact ⟨x, World.cell?_setCell_same w p x h⟩
  · exact ⟨v, (World.cell?_setCell_other w p q x e).trans h⟩

set_option maxHeartbeats 1000000 in
theorem waitSwap_cells (g cap n i j : Nat) (a0 a1 a2 a3 a4 b0 b1 b2 b3 b4 : Int) (w : World) (hi : i < n) (hj : j < n)
    (ca0 : w.cell? ⟨g, i * 5, none⟩ = some (.int .i64 a0)) (ca1 : w.cell? ⟨g, i * 5 + 1, none⟩ = some (.int .i64 a1)) (ca2 : w.cell? ⟨g, i * 5 + 2, none⟩ = some (.int .i64 a2))
    (ca3 : w.cell? ⟨g, i * 5 + 3, none⟩ = some (.int .i64 a3)) (ca4 : w.cell? ⟨g, i * 5 + 4, none⟩ = some (.int .i64 a4))
    (cb0 : w.cell? ⟨g, j * 5, none⟩ = some (.int .i64 b0)) (cb1 : w.cell? ⟨g, j * 5 + 1, none⟩ = some (.int .i64 b1)) (cb2 : w.cell? ⟨g, j * 5 + 2, none⟩ = some (.int .i64 b2))
    (cb3 : w.cell? ⟨g, j * 5 + 3, none⟩ = some (.int .i64 b3)) (cb4 : w.cell? ⟨g, j * 5 + 4, none⟩ = some (.int .i64 b4))
    (hf : ∀ o, w.frozen? ⟨g, o, none⟩ = false) :
    Calls Try.prog 115 #[.slice (some ⟨g, 0, none⟩) n cap, .int .i64 i, .int .i64 j] w fun e w' => e = .returned (.tuple #[]) ∧
      w' = ((w.setCells g (i * 5) (edgeCell ((b0, b1), (b2, b3), b4))).setCells g (j * 5) (edgeCell ((a0, a1), (a2, a3), a4))).drew := by
  have hi' : (i : Int) < (n : Int) := by omega
  have hj' : (j : Int) < (n : Int) := by omega
  have hi0 : (0 : Int) ≤ (i : Int) := by omega
  have hj0 : (0 : Int) ≤ (j : Int) := by omega
  obtain ⟨x0, hx0⟩ := cell?_setCell_some (p := ⟨g, i * 5, none⟩) (x := .int .i64 b0) cb0
  obtain ⟨_, y10⟩ := cell?_setCell_some (p := ⟨g, i * 5, none⟩) (x := .int .i64 b0) cb1
  obtain ⟨x1, hx1⟩ := cell?_setCell_some (p := ⟨g, i * 5 + 1, none⟩) (x := .int .i64 b1) y10
  clear y10
  obtain ⟨_, y20⟩ := cell?_setCell_some (p := ⟨g, i * 5, none⟩) (x := .int .i64 b0) cb2
  obtain ⟨_, y21⟩ := cell?_setCell_some (p := ⟨g, i * 5 + 1, none⟩) (x := .int .i64 b1) y20
  obtain ⟨x2, hx2⟩ := cell?_setCell_some (p := ⟨g, i * 5 + 2, none⟩) (x := .int .i64 b2) y21
  clear y20 y21
  obtain ⟨_, y30⟩ := cell?_setCell_some (p := ⟨g, i * 5, none⟩) (x := .int .i64 b0) cb3
  obtain ⟨_, y31⟩ := cell?_setCell_some (p := ⟨g, i * 5 + 1, none⟩) (x := .int .i64 b1) y30
  obtain ⟨_, y32⟩ := cell?_setCell_some (p := ⟨g, i * 5 + 2, none⟩) (x := .int .i64 b2) y31
  obtain ⟨x3, hx3⟩ := cell?_setCell_some (p := ⟨g, i * 5 + 3, none⟩) (x := .int .i64 b3) y32
  clear y30 y31 y32
  obtain ⟨_, y40⟩ := cell?_setCell_some (p := ⟨g, i * 5, none⟩) (x := .int .i64 b0) cb4
  obtain ⟨_, y41⟩ := cell?_setCell_some (p := ⟨g, i * 5 + 1, none⟩) (x := .int .i64 b1) y40
  obtain ⟨_, y42⟩ := cell?_setCell_some (p := ⟨g, i * 5 + 2, none⟩) (x := .int .i64 b2) y41
  obtain ⟨_, y43⟩ := cell?_setCell_some (p := ⟨g, i * 5 + 3, none⟩) (x := .int .i64 b3) y42
  obtain ⟨x4, hx4⟩ := cell?_setCell_some (p := ⟨g, i * 5 + 4, none⟩) (x := .int .i64 b4) y43
  clear y40 y41 y42 y43
  go_enter Try.func115, Try.ntmps115
  go_wp2
  go_region
  go_end0
  exact ⟨rfl, rfl⟩

def swapL (l : List Edge) (i j : Nat) : List Edge := (l.set i (l.getD j ((0, 0), (0, 0), 0))).set j (l.getD i ((0, 0), (0, 0), 0))
theorem swapL_len (l : List Edge) (i j : Nat) : (swapL l i j).length = l.length := by simp [swapL]

/-- A row of edges that the call owns, at block g. -/
def RowE (w : World) (base g cap : Nat) (l : List Edge) : Prop := w.ownsRow base 149 5 (.slice (some ⟨g, 0, none⟩) l.length cap) l.length (edgeCells l)

theorem RowE.rd {w : World} {base g cap : Nat} {l : List Edge} (h : RowE w base g cap l) : Rd w (some ⟨g, 0, none⟩) (edgeCells l) := by
  obtain ⟨A, c, e, _, hr, _⟩ := ownsRow_form h
  injection e with e1; rw [e1]; exact hr

theorem RowE.set {w : World} {base g cap : Nat} {l : List Edge} (h : RowE w base g cap l) {k : Nat} (hk : k < l.length) (x : Edge) : RowE (w.setCells g (k * 5) (edgeCell x)) base g cap (l.set k x) := by
  have := own_setCells h hk (cs := edgeCell x) rfl
  rw [edgeCells, flatMap_set edgeCell 5 (fun _ => rfl) l k x hk] at this
  unfold RowE; rw [List.length_set]; exact this

theorem RowE.drew {w : World} {base g cap : Nat} {l : List Edge} (h : RowE w base g cap l) : RowE w.drew base g cap l := h
theorem grown_drew {a w : World} {row : Option Nat} (h : a.grownBy w row) : a.grownBy w.drew row := ⟨h.os, h.tape, h.output, h.size, h.block⟩
theorem grown_trans {a b c : World} {row : Option Nat} (h1 : a.grownBy b row) (h2 : b.grownBy c row) : a.grownBy c row :=
  ⟨h2.os.trans h1.os, h2.tape.trans h1.tape, h2.output.trans h1.output, Nat.le_trans h1.size h2.size, fun k hk hne => (h2.block k (Nat.lt_of_lt_of_le hk h1.size) hne).trans (h1.block k hk hne)⟩

theorem RowE.frozen {w : World} {base g cap : Nat} {l : List Edge} (h : RowE w base g cap l) (o : Nat) : w.frozen? ⟨g, o, none⟩ = false := by
  rcases h.2 with ⟨h0, _⟩ | ⟨g', cap', cur, hv, hb, hg, _⟩
  · cases h0
  · injection hv with hv1; injection hv1 with hv1; injection hv1 with hv1; subst hv1
    exact frozen_of_row w g o cur _ hg

theorem waitSwap_any (base g cap : Nat) (l : List Edge) (i j : Nat) (x y : Int) (w : World) (h : RowE w base g cap l) (hx : x = i) (hy : y = j) (hi : i < l.length) (hj : j < l.length) :
    Calls Try.prog 115 #[.slice (some ⟨g, 0, none⟩) l.length cap, .int .i64 x, .int .i64 y] w fun e w' => e = .returned (.tuple #[]) ∧ RowE w' base g cap (swapL l i j) ∧ w.grownBy w' (some g) := by
  subst hx hy
  obtain ⟨b, off, e, -, a0, a1, a2, a3, a4⟩ := h.rd.edge (List.getElem?_eq_getElem hi)
  injection e with e; injection e with e1 e2; subst e1 e2
  obtain ⟨b, off, e, -, b0, b1, b2, b3, b4⟩ := h.rd.edge (List.getElem?_eq_getElem hj)
  injection e with e; injection e with e1 e2; subst e1 e2
  simp only [Nat.zero_add] at *
  refine (waitSwap_cells g cap l.length i j _ _ _ _ _ _ _ _ _ _ w hi hj a0 a1 a2 a3 a4 b0 b1 b2 b3 b4 h.frozen).mono ?_
  rintro e w' ⟨rfl, hw'⟩
  have hgi : l.getD i ((0, 0), (0, 0), 0) = l[i] := by simp [List.getD, hi]
  have hgj : l.getD j ((0, 0), (0, 0), 0) = l[j] := by simp [List.getD, hj]
  have e2 : w' = ((w.setCells g (i * 5) (edgeCell l[j])).setCells g (j * 5) (edgeCell l[i])).drew := hw'
  clear hw'
  subst e2
  have h1 := h.set hi l[j]
  have h2 := h1.set (k := j) (by simpa using hj) l[i]
  refine ⟨rfl, ?_, grown_drew (grown_trans (setCells_grown g (edgeCell l[j]) (i * 5) w) (setCells_grown g (edgeCell l[i]) (j * 5) _))⟩
  unfold swapL; rw [hgi, hgj]
  exact h2.drew
end Go.Proofs.Ytkdgibabecpdlaa
