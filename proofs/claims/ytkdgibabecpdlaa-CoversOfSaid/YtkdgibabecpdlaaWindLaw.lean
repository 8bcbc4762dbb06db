/- Proved: plain laws of windings: turned round, begun elsewhere, cut in two; for every line and point. -/
import Derived.Test.YtkdgibabecpdlaaCov
namespace Go.Proofs.Ytkdgibabecpdlaa

/-- One step's turn about a point. -/
def tw (p a b : Dot) : Int := windE (edgeF a b) p
def chainS (p : Dot) : List Dot → Int
  | [] => 0
  | [_] => 0
  | a :: b :: l => tw p a b + chainS p (b :: l)
theorem turnOf_neg (p a b : Dot) (t : Int) : turnOf p (a, b, -t) = -turnOf p (a, b, t) := by
  unfold turnOf; split <;> simp
theorem tw_neg (p a b : Dot) : tw p b a = -tw p a b := by
  unfold tw edgeF
  by_cases h1 : a.2 < b.2
  · have h2 : ¬ b.2 < a.2 := by omega
    simp [h1, h2, windE, turnOf_neg]
  · by_cases h2 : b.2 < a.2
    · simp [h1, h2, windE, turnOf_neg]
    · simp [h1, h2, windE]
theorem tw_self (p a : Dot) : tw p a a = 0 := by have := tw_neg p a a; omega
theorem chainS_app (p : Dot) (x : Dot) (m : List Dot) : ∀ l : List Dot, chainS p (l ++ x :: m) = chainS p (l ++ [x]) + chainS p (x :: m)
  | [] => by simp [chainS]
  | [a] => by simp [chainS]
  | a :: b :: l => by
    have := chainS_app p x m (b :: l)
    simp only [List.cons_append, chainS] at this ⊢
    omega
theorem chainS_snoc (p : Dot) (x y : Dot) (l : List Dot) : chainS p (l ++ [x, y]) = chainS p (l ++ [x]) + tw p x y := by
  have := chainS_app p x [y] l
  simpa [chainS] using this
theorem chainS_rev (p : Dot) : ∀ l : List Dot, chainS p l.reverse = -chainS p l
  | [] => by simp [chainS]
  | [a] => by simp [chainS]
  | a :: b :: l => by
    have := chainS_rev p (b :: l)
    rw [List.reverse_cons, List.reverse_cons, List.append_assoc, List.singleton_append, chainS_snoc, ← List.reverse_cons, this, tw_neg p a b]
    simp only [chainS]; omega
/-- The closed line's turns. -/
def cyc (p : Dot) : List Dot → Int
  | [] => 0
  | a :: l => chainS p (a :: l ++ [a])
theorem chainS_range (p : Dot) : ∀ l : List Dot, chainS p l = ((List.range (l.length - 1)).map fun k => tw p (l.getD k (0, 0)) (l.getD (k + 1) (0, 0))).sum
  | [] => by simp [chainS]
  | [a] => by simp [chainS]
  | a :: b :: l => by
    have := chainS_range p (b :: l)
    simp only [chainS, this, List.length_cons, Nat.add_sub_cancel]
    rw [List.range_succ_eq_map]
    simp [List.getD, Function.comp_def]
theorem windE_flat (p : Dot) : ∀ (L : List (List Edge)), windE L.flatten p = (L.map fun l => windE l p).sum
  | [] => by simp [windE]
  | a :: L => by
    rw [List.flatten_cons, windE_append, windE_flat p L]; simp
theorem edgesF_cyc (p : Dot) (l : List Dot) : windE (edgesF l) p = cyc p l := by
  have h : windE (edgesF l) p = ((List.range l.length).map fun k => tw p (l.getD k (0, 0)) (l.getD ((k + 1) % l.length) (0, 0))).sum := by
    unfold edgesF edgesTo
    rw [List.flatMap_def, windE_flat, List.map_map]
    rfl
  rw [h]
  cases l with
  | nil => simp [cyc]
  | cons a l =>
    show _ = chainS p (a :: l ++ [a])
    rw [chainS_range]
    congr 1
    have hn : (a :: l ++ [a]).length - 1 = (a :: l).length := by simp
    rw [hn]
    apply List.map_congr_left
    intro k hk
    have hk : k < (a :: l).length := by simpa using hk
    have e1 : (a :: l ++ [a]).getD k (0, 0) = (a :: l).getD k (0, 0) := by
      simp only [List.getD]; rw [List.getElem?_append_left hk]
    have e2 : (a :: l ++ [a]).getD (k + 1) (0, 0) = (a :: l).getD ((k + 1) % (a :: l).length) (0, 0) := by
      by_cases h1 : k + 1 < (a :: l).length
      · rw [Nat.mod_eq_of_lt h1]; simp only [List.getD]; rw [List.getElem?_append_left h1]
      · have h2 : k + 1 = (a :: l).length := by omega
        rw [h2, Nat.mod_self]
        simp [List.getD]
    rw [e1, e2]
theorem cyc_rev (p : Dot) (l : List Dot) : cyc p l.reverse = -cyc p l := by
  cases l with
  | nil => simp [cyc]
  | cons a l =>
    rcases List.eq_nil_or_concat l with rfl | ⟨m, b, rfl⟩
    · simp [cyc, chainS, tw_self]
    · have h1 : (a :: (m ++ [b])).reverse = b :: (m.reverse ++ [a]) := by simp
      rw [List.concat_eq_append, h1]
      show chainS p (b :: (m.reverse ++ [a]) ++ [b]) = -chainS p (a :: (m ++ [b]) ++ [a])
      have h2 : b :: (m.reverse ++ [a]) ++ [b] = (b :: m.reverse) ++ [a, b] := by simp
      have h3 : a :: (m ++ [b]) ++ [a] = (a :: m) ++ [b, a] := by simp
      have h4 : b :: m.reverse ++ [a] = ((a :: m) ++ [b]).reverse := by simp
      rw [h2, h3, chainS_snoc, chainS_snoc, h4, chainS_rev, tw_neg p b a]
      omega
theorem any_reverse' (l : List Dot) : l.reverse.any isFarB = l.any isFarB := by simp
theorem windF_rev (l : List Dot) (p : Dot) : windF l.reverse p = -windF l p := by
  unfold windF
  rw [any_reverse', edgesF_cyc, edgesF_cyc, cyc_rev]
  split <;> simp
/-- Where a line of three parts begins, and a dot twice. -/
theorem cyc_rot (p : Dot) (A B : List Dot) (x : Dot) : cyc p (x :: B ++ (A ++ [x])) = cyc p (A ++ x :: B) := by
  cases A with
  | nil =>
    show chainS p (x :: B ++ [x] ++ [x]) = chainS p (x :: B ++ [x])
    have : x :: B ++ [x] ++ [x] = (x :: B) ++ [x, x] := by simp
    rw [this, chainS_snoc, tw_self]; omega
  | cons h A =>
    show chainS p (x :: B ++ (h :: A ++ [x]) ++ [x]) = chainS p (h :: A ++ x :: B ++ [h])
    have e1 : x :: B ++ (h :: A ++ [x]) ++ [x] = (x :: B ++ h :: A) ++ [x, x] := by simp
    have e2 : (x :: B ++ h :: A) ++ [x] = (x :: B) ++ h :: (A ++ [x]) := by simp
    have e3 : h :: A ++ x :: B ++ [h] = (h :: A) ++ x :: (B ++ [h]) := by simp
    rw [e1, chainS_snoc, tw_self, e2, chainS_app, e3, chainS_app p x (B ++ [h]) (h :: A)]
    simp only [List.cons_append]
    omega
theorem windF_rot (l : List Dot) (p : Dot) (k : Nat) (hk : k < l.length) : windF (l.drop k ++ l.take (k + 1)) p = windF l p := by
  have hl : l = l.take k ++ l[k] :: l.drop (k + 1) := by rw [← List.drop_eq_getElem_cons hk, List.take_append_drop]
  have hd : l.drop k = l[k] :: l.drop (k + 1) := List.drop_eq_getElem_cons hk
  have ht : l.take (k + 1) = l.take k ++ [l[k]] := List.take_succ_eq_append_getElem hk
  have ha : (l.drop k ++ l.take (k + 1)).any isFarB = l.any isFarB := by
    conv => rhs; rw [hl]
    rw [hd, ht]
    simp only [List.any_append, List.any_cons, List.any_nil, Bool.or_false]
    cases isFarB l[k] <;> cases (l.drop (k + 1)).any isFarB <;> cases (l.take k).any isFarB <;> rfl
  unfold windF
  rw [ha, edgesF_cyc, edgesF_cyc, hd, ht, cyc_rot, ← hl]
theorem windF_two (l : List Dot) (p : Dot) (h : l.length ≤ 2) : windF l p = 0 := by
  unfold windF
  rw [edgesF_cyc]
  split
  · rfl
  · match l, h with
    | [], _ => rfl
    | [a], _ => simp [cyc, chainS, tw_self]
    | [a, b], _ => simp [cyc, chainS, tw_neg p a b]; omega
/-- The cut. -/
theorem cyc_cut (p : Dot) (A B C : List Dot) (x y : Dot) : cyc p (A ++ x :: B ++ y :: C) = cyc p (A ++ x :: y :: C) + cyc p (x :: B ++ [y]) := by
  have e2 : cyc p (x :: B ++ [y]) = chainS p (x :: B ++ [y]) + tw p y x := by
    show chainS p (x :: B ++ [y] ++ [x]) = _
    have : x :: B ++ [y] ++ [x] = (x :: B) ++ [y, x] := by simp
    rw [this, chainS_snoc]
  have key : ∀ h, chainS p (A ++ x :: B ++ y :: C ++ [h]) = chainS p (A ++ x :: y :: C ++ [h]) + (chainS p (x :: B ++ [y]) + tw p y x) := by
    intro h
    have e3 : A ++ x :: B ++ y :: C ++ [h] = (A ++ x :: B) ++ y :: (C ++ [h]) := by simp
    have e4 : (A ++ x :: B) ++ [y] = A ++ x :: (B ++ [y]) := by simp
    have e5 : A ++ x :: y :: C ++ [h] = A ++ x :: (y :: (C ++ [h])) := by simp
    rw [e3, chainS_app, e4, chainS_app, e5, chainS_app p x (y :: (C ++ [h])) A]
    have e6 : chainS p (x :: y :: (C ++ [h])) = tw p x y + chainS p (y :: (C ++ [h])) := rfl
    rw [e6, tw_neg p x y]
    simp only [List.cons_append]
    omega
  cases A with
  | nil => rw [e2]; exact key x
  | cons a A => rw [e2]; exact key a
end Go.Proofs.Ytkdgibabecpdlaa
