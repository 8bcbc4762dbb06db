/- Contracts and plain laws that the claims of this seat use (BookA), for all arguments that their hypotheses name. -/
import Derived.Test.YtkdgibabecpdlaaRulesW
namespace Go.Proofs.Ytkdgibabecpdlaa
open Go.RowKit
/-- A strip: its list, the list with marks behind it, its mark; and what lies in the list. -/
structure St where
  v : Value
  n : Nat
  long : Value
  m : Nat
  vals : List Nat
def stCell (s : St) : List Value := [s.v, s.long, .int .u16 (s.m : Int)]
def stCells (L : List St) : List Value := L.flatMap stCell
theorem stCells_len (L : List St) : (stCells L).length = L.length * 3 := flatMap_len stCell 3 (fun _ => rfl) L
/-- Strips in memory. -/
structure Sts (w : World) (base S cap : Nat) (L : List St) : Prop where
  row : w.ownsRow base 88 3 (.slice (some ⟨S, 0, none⟩) L.length cap) L.length (stCells L)
  own : ∀ s ∈ L, w.ownsRow base 65 1 s.v s.n (bitVs s.vals)
  apart : L.Pairwise fun s t => s.v.ownBlock = none ∨ s.v.ownBlock ≠ t.v.ownBlock
  lens : ∀ s ∈ L, s.vals.length = s.n
theorem Sts.cells {w : World} {base S cap : Nat} {L : List St} (h : Sts w base S cap L) {i : Nat} (hi : i < L.length) :
    S < w.heap.size ∧ w.cell? ⟨S, i * 3, none⟩ = some L[i].v ∧ w.cell? ⟨S, i * 3 + 1, none⟩ = some L[i].long ∧ w.cell? ⟨S, i * 3 + 2, none⟩ = some (.int .u16 (L[i].m : Int)) := by
  obtain ⟨A, c, e, -, hr, -⟩ := ownsRow_form h.row
  injection e with e1 _ _
  subst e1
  have hx := fun j hj => flatMap_at stCell 3 (fun _ => rfl) L i L[i] (List.getElem?_eq_getElem hi) j hj
  obtain ⟨b, off, hA, hb, hc⟩ := hr.at_ (by intro e0; have := congrArg List.length e0; rw [stCells_len, List.length_nil] at this; omega)
  injection hA with hA
  injection hA with h1 h2
  subst h1 h2
  refine ⟨hb, ?_, ?_, ?_⟩
  · have := hc (i * 3 + 0) _ (hx 0 (by omega)); simpa using this
  · have := hc (i * 3 + 1) _ (hx 1 (by omega)); simpa using this
  · have := hc (i * 3 + 2) _ (hx 2 (by omega)); simpa using this
/-- A list's address, where it is not empty. -/
theorem own_addr {w : World} {base e s n : Nat} {v : Value} {xs : List Value} (h : w.ownsRow base e s v n xs) (hn : 0 < n) :
    ∃ g c cur, v = .slice (some ⟨g, 0, none⟩) n c ∧ base ≤ g ∧ w.heap[g]? = some (.cells cur e (0, 0)) ∧ n ≤ c ∧ c ≤ maxLen ∧ cur.size = c * s ∧ cur.toList.take (n * s) = xs := by
  rcases h.2 with ⟨_, h0⟩ | ⟨g, c, cur, hv, r⟩
  · omega
  · exact ⟨g, c, cur, hv, r⟩
/-- One number of one list is another one. -/
theorem Sts.setVal {w : World} {base S cap : Nat} {L : List St} (h : Sts w base S cap L) {i k g c : Nat} (hi : i < L.length) (hk : k < L[i].n) (hv : L[i].v = .slice (some ⟨g, 0, none⟩) L[i].n c) (x : Nat) :
    Sts (w.setCell ⟨g, k, none⟩ (.int .u16 (x : Int))) base S cap (L.set i { L[i] with vals := L[i].vals.set k x }) ∧ Below base w (w.setCell ⟨g, k, none⟩ (.int .u16 (x : Int))) := by
  have hown := h.own L[i] (List.getElem_mem hi)
  have hu : Upd [g] w (w.setCell ⟨g, k, none⟩ (.int .u16 (x : Int))) := (Upd.refl [g] w).setCell (.inl (by simp)) _
  have hob : L[i].v.ownBlock = some g := by rw [hv]; rfl
  obtain ⟨g', c', cur, hv', hbg, hh, hnc, hcm, hcs, htk⟩ := own_addr hown (by omega)
  rw [hv] at hv'
  injection hv' with h1 h2 h3
  injection h1 with h1; injection h1 with h1
  subst h1 h3
  have hrow : (w.setCell ⟨g, k, none⟩ (.int .u16 (x : Int))).ownsRow base 65 1 L[i].v L[i].n (bitVs (L[i].vals.set k x)) := by
    have hl := h.lens L[i] (List.getElem_mem hi)
    refine ⟨by simp [bitVs, hl], .inr ⟨g, c, cur.setIfInBounds k (.int .u16 (x : Int)), hv, hbg, heap_setCell_same w g k _ _ _ hh, hnc, hcm, by simpa using hcs, ?_⟩⟩
    rw [Array.toList_setIfInBounds, List.take_set, htk]
    simp [bitVs, List.map_set]
  refine ⟨⟨?_, ?_, ?_, ?_⟩, hu.toBelow (by have := own_lt hown g hob; omega) (by simp; exact hbg)⟩
  · have hr := h.row
    have hc : stCells (L.set i { L[i] with vals := L[i].vals.set k x }) = stCells L := by
      unfold stCells
      rw [List.flatMap_def, List.flatMap_def, List.map_set]
      congr 1
      apply List.ext_getElem
      · simp
      · intro j h1 h2
        rw [List.getElem_set]
        split
        · next e => subst e; simp [stCell]
        · rfl
    rw [hc, List.length_set]
    refine hu.own hr (fun g2 hg2 hm => ?_)
    have hg3 : g2 = g := by simpa using hm
    subst hg3
    exact own_apart hown h.row (by decide) g2 hob (by rw [hg2]; simp)
  · intro s hs
    obtain ⟨j, hj, rfl⟩ := List.getElem_of_mem hs
    rw [List.length_set] at hj
    rw [List.getElem_set]
    split
    · exact hrow
    · next hne =>
      refine hu.own (h.own L[j] (List.getElem_mem hj)) (fun g2 hg2 hm => ?_)
      have hg3 : g2 = g := by simpa using hm
      subst hg3
      rcases Nat.lt_or_gt_of_ne hne with hlt | hlt
      · have := (List.pairwise_iff_getElem.1 h.apart) i j hi hj hlt
        rcases this with e | e
        · rw [hob] at e; cases e
        · exact e (hob.trans hg2.symm)
      · have := (List.pairwise_iff_getElem.1 h.apart) j i hj hi hlt
        rcases this with e | e
        · rw [hg2] at e; cases e
        · exact e (hg2.trans hob.symm)
  · rw [List.pairwise_iff_getElem] at *
    have := h.apart
    rw [List.pairwise_iff_getElem] at this
    intro a b ha hb hab
    rw [List.length_set] at ha hb
    have e : ∀ j (hj : j < L.length), ((L.set i { L[i] with vals := L[i].vals.set k x })[j]'(by rw [List.length_set]; exact hj)).v = L[j].v := by
      intro j hj
      rw [List.getElem_set]
      split
      · next e => subst e; rfl
      · rfl
    rw [e a ha, e b hb]
    exact this a b ha hb hab
  · intro s hs
    obtain ⟨j, hj, rfl⟩ := List.getElem_of_mem hs
    rw [List.length_set] at hj
    rw [List.getElem_set]
    split
    · simp [h.lens L[i] (List.getElem_mem hi)]
    · exact h.lens L[j] (List.getElem_mem hj)
end Go.Proofs.Ytkdgibabecpdlaa
