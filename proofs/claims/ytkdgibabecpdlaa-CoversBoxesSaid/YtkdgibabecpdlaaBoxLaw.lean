/- Proved: the plain law of a box's winding; for boxes that are not far. -/
import Derived.Test.YtkdgibabecpdlaaCutLaw
namespace Go.Proofs.Ytkdgibabecpdlaa
theorem tw_flat (p : Dot) (x y c : Int) : tw p (x, c) (y, c) = 0 := by
  simp [tw, edgeF, windE]
theorem tw_up (p : Dot) (b c d : Int) (h : c < d) : tw p (b, c) (b, d) = if c ≤ p.2 ∧ p.2 < d ∧ p.1 < b then 1 else 0 := by
  have ho : 0 < overN b c b d p.1 p.2 ↔ p.1 < b := by
    have e : overN b c b d p.1 p.2 = (b - p.1) * (d - c) := by unfold overN; grind
    rw [e]
    constructor
    · intro h1
      by_cases h2 : p.1 < b
      · exact h2
      · have : 0 ≤ (p.1 - b) * (d - c) := Int.mul_nonneg (by omega) (by omega)
        have e2 : (b - p.1) * (d - c) = -((p.1 - b) * (d - c)) := by grind
        omega
    · intro h1
      exact Int.mul_pos (by omega) (by omega)
  simp only [tw, edgeF, h, if_true, windE, List.map_cons, List.map_nil, List.sum_cons, List.sum_nil, turnOf, Int.add_zero]
  by_cases h1 : p.1 < b
  · simp [ho, h1, meetsB]
  · simp [ho, h1]
def inB (a b c d : Int) (p : Dot) : Bool := decide (a ≤ p.1) && decide (p.1 < b) && decide (c ≤ p.2) && decide (p.2 < d)
theorem cyc_box (p : Dot) (a b c d : Int) (hab : a ≤ b) (hcd : c ≤ d) : cyc p [(a, c), (b, c), (b, d), (a, d)] = if inB a b c d p then 1 else 0 := by
  show tw p (a, c) (b, c) + (tw p (b, c) (b, d) + (tw p (b, d) (a, d) + (tw p (a, d) (a, c) + 0))) = _
  rw [tw_flat, tw_flat, tw_neg p (a, c) (a, d)]
  by_cases h : c < d
  · rw [tw_up p b c d h, tw_up p a c d h]
    simp only [inB, Bool.and_eq_true, decide_eq_true_eq]
    split <;> split <;> split <;> omega
  · have : c = d := by omega
    subst this
    rw [tw_flat, tw_flat]
    have : inB a b c c p = false := by simp [inB] <;> omega
    rw [this]; simp
theorem windF_box (p : Dot) (a b c d : Int) (hab : a ≤ b) (hcd : c ≤ d) (ha : -1073741824 ≤ a) (hb : b ≤ 1073741824) (hc : -1073741824 ≤ c) (hd : d ≤ 1073741824) :
    windF [(a, c), (b, c), (b, d), (a, d)] p = if inB a b c d p then 1 else 0 := by
  have hn : ([(a, c), (b, c), (b, d), (a, d)] : List Dot).any isFarB = false := by
    have h1 : isFarB (a, c) = false := by rw [near_iff]; simp only; omega
    have h2 : isFarB (b, c) = false := by rw [near_iff]; simp only; omega
    have h3 : isFarB (b, d) = false := by rw [near_iff]; simp only; omega
    have h4 : isFarB (a, d) = false := by rw [near_iff]; simp only; omega
    simp [h1, h2, h3, h4]
  by_cases hp : isFarB p = true
  · have hi : inB a b c d p = false := by
      rcases Bool.eq_false_or_eq_true (inB a b c d p) with h | h
      · exfalso
        simp only [inB, Bool.and_eq_true, decide_eq_true_eq] at h
        have : isFarB p = false := by rw [near_iff]; omega
        rw [this] at hp; cases hp
      · exact h
    rw [hi]; simp [windF, hp]
  · rw [windF_near (by simpa using hp) hn, cyc_box p a b c d hab hcd]
theorem tdiv_two (x : Int) : (0 ≤ x → x.tdiv 2 = x / 2) ∧ (x ≤ 0 → x.tdiv 2 = -((-x) / 2)) := by
  refine ⟨fun h => Int.tdiv_eq_ediv_of_nonneg h, fun h => ?_⟩
  have h1 : (-x).tdiv 2 = (-x) / 2 := Int.tdiv_eq_ediv_of_nonneg (by omega)
  have h2 : (-x).tdiv 2 = -(x.tdiv 2) := Int.neg_tdiv ..
  omega
/-- Half of the lesser, and of the greater one. -/
theorem halves (x y : Int) (hx : -2147483648 ≤ x ∧ x ≤ 2147483647) (hy : -2147483648 ≤ y ∧ y ≤ 2147483647) :
    -1073741824 ≤ (min x y).tdiv 2 ∧ (min x y).tdiv 2 ≤ (max x y).tdiv 2 ∧ (max x y).tdiv 2 ≤ 1073741824 := by
  have h1 := tdiv_two (min x y)
  have h2 := tdiv_two (max x y)
  omega
end Go.Proofs.Ytkdgibabecpdlaa
