/- Proved: the plain law that what is moved by whole pixels covers what is moved so; for all lines that are not far. -/
import Derived.Test.YtkdgibabecpdlaaRulesLaw
import Derived.Test.YtkdgibabecpdlaaCutLaw
namespace Go.Proofs.Ytkdgibabecpdlaa
/-- A dot, x pixels further to the left and y further up. -/
def mv (x y : Nat) (d : Dot) : Dot := (d.1 - 256 * (x : Int), d.2 - 256 * (y : Int))
theorem overN_mv (x y : Nat) (a b p : Dot) : overN (mv x y a).1 (mv x y a).2 (mv x y b).1 (mv x y b).2 (mv x y p).1 (mv x y p).2 = overN a.1 a.2 b.1 b.2 p.1 p.2 := by
  unfold overN mv
  have e1 : b.1 - 256 * (x : Int) - (a.1 - 256 * (x : Int)) = b.1 - a.1 := by omega
  have e2 : p.2 - 256 * (y : Int) - (a.2 - 256 * (y : Int)) = p.2 - a.2 := by omega
  have e3 : p.1 - 256 * (x : Int) - (a.1 - 256 * (x : Int)) = p.1 - a.1 := by omega
  have e4 : b.2 - 256 * (y : Int) - (a.2 - 256 * (y : Int)) = b.2 - a.2 := by omega
  simp only [e1, e2, e3, e4]
theorem meets_mv (x y : Nat) (a b p : Dot) : meetsB (mv x y a).2 (mv x y b).2 (mv x y p).2 = meetsB a.2 b.2 p.2 := by
  unfold meetsB mv
  congr 1 <;> apply decide_eq_decide.2 <;> simp only <;> omega
theorem turnOf_mv (x y : Nat) (a b p : Dot) (t : Int) : turnOf (mv x y p) (mv x y a, mv x y b, t) = turnOf p (a, b, t) := by
  unfold turnOf
  simp only [meets_mv, overN_mv]
theorem tw_mv (x y : Nat) (p a b : Dot) : tw (mv x y p) (mv x y a) (mv x y b) = tw p a b := by
  unfold tw edgeF
  have h1 : (mv x y a).2 < (mv x y b).2 ↔ a.2 < b.2 := by simp only [mv]; omega
  have h2 : (mv x y b).2 < (mv x y a).2 ↔ b.2 < a.2 := by simp only [mv]; omega
  by_cases g1 : a.2 < b.2
  · rw [if_pos (h1.2 g1), if_pos g1]; simp [windE, turnOf_mv]
  · by_cases g2 : b.2 < a.2
    · rw [if_neg (fun h => g1 (h1.1 h)), if_pos (h2.2 g2), if_neg g1, if_pos g2]; simp [windE, turnOf_mv]
    · rw [if_neg (fun h => g1 (h1.1 h)), if_neg (fun h => g2 (h2.1 h)), if_neg g1, if_neg g2]; simp [windE]
theorem chainS_mv (x y : Nat) (p : Dot) : ∀ l : List Dot, chainS (mv x y p) (l.map (mv x y)) = chainS p l
  | [] => rfl
  | [a] => rfl
  | a :: b :: l => by
    have := chainS_mv x y p (b :: l)
    simp only [List.map_cons, chainS, tw_mv] at this ⊢
    rw [this]
theorem cyc_mv (x y : Nat) (p : Dot) (l : List Dot) : cyc (mv x y p) (l.map (mv x y)) = cyc p l := by
  cases l with
  | nil => rfl
  | cons a l =>
    have := chainS_mv x y p (a :: l ++ [a])
    simpa [cyc] using this
theorem windL_mv (x y : Nat) (L : List (List Dot)) (p : Dot) : windE ((L.map (List.map (mv x y))).flatMap edgesF) (mv x y p) = windE (L.flatMap edgesF) p := by
  rw [windL, windL]
  induction L with
  | nil => rfl
  | cons l L ih => simp only [List.map_cons, List.sum_cons, ih, cyc_mv]
/-- Where the moved raster's pixel lies in the greater one. -/
theorem cover_mv (L : List (List Dot)) (e : Bool) (x y i : Nat) (hx : x ≤ 4) (hy : y ≤ 4) (hi : i < (9 - x) * (8 - y)) :
    (coverE ((L.map (List.map (mv x y))).flatMap edgesF) e (9 - x) (8 - y))[i]? = (coverE (L.flatMap edgesF) e 9 8)[(i / (9 - x) + y) * 9 + i % (9 - x) + x]? ∧ (i / (9 - x) + y) * 9 + i % (9 - x) + x < 72 := by
  have hW : 0 < 9 - x := by omega
  have hm : i % (9 - x) < 9 - x := Nat.mod_lt _ hW
  have hd : i / (9 - x) < 8 - y := by rw [Nat.div_lt_iff_lt_mul hW, Nat.mul_comm]; exact hi
  obtain ⟨q, hq⟩ : ∃ q, i / (9 - x) = q := ⟨_, rfl⟩
  obtain ⟨r, hr⟩ : ∃ r, i % (9 - x) = r := ⟨_, rfl⟩
  rw [hq] at hd ⊢
  rw [hr] at hm ⊢
  have hj : (q + y) * 9 + r + x < 72 := by omega
  refine ⟨?_, hj⟩
  have hj2 : (q + y) * 9 + r + x < 9 * 8 := by omega
  simp only [coverE, List.getElem?_map, List.getElem?_range hi, List.getElem?_range hj2, Option.map_some]
  congr 1
  have hf : cBit ((L.map (List.map (mv x y))).flatMap edgesF) e (9 - x) i = cBit (L.flatMap edgesF) e 9 ((q + y) * 9 + r + x) := by
    funext k
    unfold cBit
    have h1 : ((q + y) * 9 + r + x) / 9 = q + y := by omega
    have h2 : ((q + y) * 9 + r + x) % 9 = r + x := by omega
    have hc : cDot (9 - x) i k = mv x y (cDot 9 ((q + y) * 9 + r + x) k) := by
      unfold cDot mv
      rw [hq, hr, h1, h2]
      simp only
      congr 1 <;> omega
    rw [hc, windL_mv]
  rw [hf]
end Go.Proofs.Ytkdgibabecpdlaa
