/- Proved: plain laws of coverings: turned round, twice, odd is not 0; for all lines. -/
import Derived.Test.YtkdgibabecpdlaaWindLaw
import Derived.Test.YtkdgibabecpdlaaBoth
namespace Go.Proofs.Ytkdgibabecpdlaa
def dotsL (P : List LineV) : List (List Dot) := P.map (·.2.2)
theorem edgesL_dots (P : List LineV) : edgesL P = (dotsL P).flatMap edgesF := by simp [edgesL, dotsL, List.flatMap_map]
theorem farL_dots (P : List LineV) : farL P = (dotsL P).any (fun l => l.any isFarB) := by simp [farL, dotsL, List.any_map]; rfl
theorem sizeL_dots (P : List LineV) : sizeL P = ((dotsL P).map List.length).sum := by simp [sizeL, dotsL, Function.comp_def]
theorem windL (L : List (List Dot)) (p : Dot) : windE (L.flatMap edgesF) p = (L.map (cyc p)).sum := by
  induction L with
  | nil => simp [windE]
  | cons l L ih => rw [List.flatMap_cons, windE_append, ih, edgesF_cyc]; simp
theorem windL_rev (L : List (List Dot)) (p : Dot) : windE ((L.map List.reverse).flatMap edgesF) p = -windE (L.flatMap edgesF) p := by
  rw [windL, windL]
  induction L with
  | nil => simp
  | cons l L ih => simp only [List.map_cons, List.sum_cons, ih, cyc_rev]; omega
theorem windL_twice (L : List (List Dot)) (p : Dot) : windE ((L.flatMap fun l => [l, l]).flatMap edgesF) p = 2 * windE (L.flatMap edgesF) p := by
  rw [windL, windL]
  induction L with
  | nil => simp
  | cons l L ih => simp only [List.flatMap_cons, List.map_append, List.sum_append, List.map_cons, List.map_nil, List.sum_cons, List.sum_nil, ih]; omega
theorem coverE_congr {A B : List Edge} {e1 e2 : Bool} (w h : Nat) (H : ∀ p, ruledB e1 (windE A p) = ruledB e2 (windE B p)) : coverE A e1 w h = coverE B e2 w h := by
  unfold coverE
  apply List.map_congr_left
  intro q _
  congr 1
  funext k
  exact H _
theorem ruled_neg (e : Bool) (n : Int) : ruledB e (-n) = ruledB e n := by
  cases e
  · simp [ruledB]
  · simp only [ruledB, if_true]
    apply decide_eq_decide.2; omega
theorem cover_rev (L : List (List Dot)) (e : Bool) (w h : Nat) : coverE ((L.map List.reverse).flatMap edgesF) e w h = coverE (L.flatMap edgesF) e w h :=
  coverE_congr w h fun p => by rw [windL_rev, ruled_neg]
theorem cover_twice (L : List (List Dot)) (w h : Nat) : coverE ((L.flatMap fun l => [l, l]).flatMap edgesF) false w h = coverE (L.flatMap edgesF) false w h :=
  coverE_congr w h fun p => by
    rw [windL_twice]
    simp only [ruledB, Bool.false_eq_true, if_false]
    apply decide_eq_decide.2; omega
theorem bitsN_none (m : Nat) : bitsN (fun _ => false) m = 0 := by
  induction m with
  | zero => rfl
  | succ m ih => simp [bitsN, ih]
theorem cover_none (L : List (List Dot)) (w h : Nat) : coverE ((L.flatMap fun l => [l, l]).flatMap edgesF) true w h = List.replicate (w * h) 0 := by
  apply List.ext_getElem
  · simp [coverE]
  · intro q h1 h2
    simp only [coverE, List.getElem_map, List.getElem_range, List.getElem_replicate]
    have : cBit ((L.flatMap fun l => [l, l]).flatMap edgesF) true w q = fun _ => false := by
      funext k
      unfold cBit
      rw [windL_twice]
      simp only [ruledB, if_true]
      rw [decide_eq_false_iff_not]; omega
    rw [this, bitsN_none]
theorem coverE_len (es : List Edge) (e : Bool) (w h : Nat) : (coverE es e w h).length = w * h := by simp [coverE]
theorem coverE_lt (es : List Edge) (e : Bool) (w h : Nat) : ∀ x ∈ coverE es e w h, x < 65536 := by
  intro x hx
  obtain ⟨q, _, rfl⟩ := List.mem_map.1 hx
  exact bitsN_lt _ 16
theorem both_cover (es : List Edge) (w h : Nat) : bothF (coverE es false w h) (coverE es true w h) = coverE es true w h := by
  unfold bothF
  rw [coverE_len, coverE_len, Nat.min_self]
  apply List.ext_getElem
  · rw [bothTo_len, coverE_len]
  · intro q h1 h2
    have hq : q < w * h := by rw [coverE_len] at h2; exact h2
    simp only [bothTo, List.getElem_map, List.getElem_range, hq, if_true]
    have g : ∀ e, (coverE es e w h).getD q 0 = bitsN (cBit es e w q) 16 := fun e => by simp [coverE, List.getD, hq]
    rw [g, g]
    have hr : (coverE es true w h)[q] = bitsN (cBit es true w q) 16 := by simp [coverE]
    rw [hr]
    apply Nat.eq_of_testBit_eq
    intro k
    rw [Nat.testBit_and, bitsN_bit, bitsN_bit]
    by_cases hk : k < 16
    · simp only [hk, decide_true, Bool.true_and]
      unfold cBit
      generalize windE es (cDot w q k) = n
      by_cases hn : n % 2 = 1
      · have : n ≠ 0 := by omega
        simp [ruledB, hn, this]
      · simp [ruledB, hn]
    · simp [hk]
end Go.Proofs.Ytkdgibabecpdlaa
