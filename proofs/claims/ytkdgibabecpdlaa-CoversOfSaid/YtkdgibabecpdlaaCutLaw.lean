/- Proved: the plain law that a line cut in two winds as both parts; for lines and points that are not far. -/
import Derived.Test.YtkdgibabecpdlaaWindLaw
namespace Go.Proofs.Ytkdgibabecpdlaa
theorem cyc_dup (p : Dot) (A C : List Dot) (x : Dot) : cyc p (A ++ x :: x :: C) = cyc p (A ++ x :: C) := by
  have key : ∀ h, chainS p (A ++ x :: x :: C ++ [h]) = chainS p (A ++ x :: C ++ [h]) := by
    intro h
    have e1 : A ++ x :: x :: C ++ [h] = A ++ x :: (x :: (C ++ [h])) := by simp
    have e2 : A ++ x :: C ++ [h] = A ++ x :: (C ++ [h]) := by simp
    have e3 : chainS p (x :: x :: (C ++ [h])) = tw p x x + chainS p (x :: (C ++ [h])) := rfl
    rw [e1, e2, chainS_app, chainS_app p x (C ++ [h]) A, e3, tw_self]; omega
  cases A with
  | nil => exact key x
  | cons a A => exact key a
theorem any_sub {l m : List Dot} (h : l.any isFarB = false) (hs : ∀ d ∈ m, d ∈ l) : m.any isFarB = false := by
  rw [List.any_eq_false] at h ⊢
  exact fun d hd => h d (hs d hd)
theorem windF_near {l : List Dot} {p : Dot} (hp : isFarB p = false) (h : l.any isFarB = false) : windF l p = cyc p l := by
  unfold windF; rw [edgesF_cyc]; simp [hp, h]
theorem windF_cut (l : List Dot) (p : Dot) (i k : Nat) (hik : i ≤ k) (hk : k < l.length) (hp : isFarB p = false) (h : l.any isFarB = false) :
    windF l p = windF (l.take (i + 1) ++ l.drop k) p + windF ((l.drop i).take (k + 1 - i)) p := by
  have h1 : (l.take (i + 1) ++ l.drop k).any isFarB = false := any_sub h (fun d hd => by
    rcases List.mem_append.1 hd with h | h
    · exact List.mem_of_mem_take h
    · exact List.mem_of_mem_drop h)
  have h2 : ((l.drop i).take (k + 1 - i)).any isFarB = false := any_sub h (fun d hd => List.mem_of_mem_drop (List.mem_of_mem_take hd))
  rw [windF_near hp h, windF_near hp h1, windF_near hp h2]
  have hi : i < l.length := by omega
  have eA : l.take (i + 1) = l.take i ++ [l[i]] := List.take_succ_eq_append_getElem hi
  have eC : l.drop k = l[k] :: l.drop (k + 1) := List.drop_eq_getElem_cons hk
  have eI : l.drop i = l[i] :: l.drop (i + 1) := List.drop_eq_getElem_cons hi
  have eL : l = l.take i ++ l.drop i := (List.take_append_drop i l).symm
  by_cases he : i = k
  · subst he
    have e3 : cyc p [l[i]] = 0 := by simp [cyc, chainS, tw_self]
    have e0 : i + 1 - i = 1 := by omega
    rw [e0, eA, eI]
    rw [eI] at eL
    generalize l.take i = A at *
    generalize l.drop (i + 1) = D at *
    generalize l[i] = x at *
    have e1 : (x :: D).take 1 = [x] := by simp
    have e4 : A ++ [x] ++ x :: D = A ++ x :: x :: D := by simp
    rw [e1, e3, e4, cyc_dup, ← eL]; omega
  · obtain ⟨m, hm⟩ : ∃ m, k = i + 1 + m := ⟨k - i - 1, by omega⟩
    have eB : l.drop (i + 1) = (l.drop (i + 1)).take m ++ l.drop k := by
      have := (List.take_append_drop m (l.drop (i + 1))).symm
      rw [List.drop_drop] at this
      rw [hm]; exact this
    have hlen : ((l.drop (i + 1)).take m).length = m := by rw [List.length_take, List.length_drop]; omega
    have e0 : k + 1 - i = (m + 1) + 1 := by omega
    rw [eC] at eB
    rw [e0, eA, eC, eI]
    rw [eI] at eL
    generalize l.take i = A at *
    generalize l.drop (i + 1) = D at *
    generalize l.drop (k + 1) = C at *
    generalize l[i] = x at *
    generalize l[k] = y at *
    generalize D.take m = B at *
    subst eB
    have e1 : (x :: (B ++ y :: C)).take (m + 1 + 1) = x :: B ++ [y] := by
      rw [List.take_succ_cons, List.take_append]
      have : B.take (m + 1) = B := List.take_of_length_le (by omega)
      rw [this, hlen]
      have h3 : m + 1 - m = 1 := by omega
      rw [h3]; simp
    have e4 : A ++ [x] ++ y :: C = A ++ x :: y :: C := by simp
    have e5 : A ++ x :: (B ++ y :: C) = A ++ x :: B ++ y :: C := by simp
    rw [e1, e4, ← cyc_cut, ← e5, ← eL]
end Go.Proofs.Ytkdgibabecpdlaa
