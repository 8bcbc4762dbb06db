/- Proved: what the map of the operators' names holds; for all texts. -/
import Derived.Test.YthhmahmclkmjpaaDoorOpsW
namespace Go.Proofs.YthhmahmclkmjpaaDoor
open Go.RowKit Go.Maps
theorem keyLit_str (t : Bytes) : WideAt.IsKeyLit (.string t) := by
  simp [WideAt.IsKeyLit]
theorem str_ne {a b : Bytes} (h : a ≠ b) : Lit.string a ≠ Lit.string b := fun e => h (by injection e)
theorem fold_map : ∀ (xs : List (Bytes × Nat)) (D : DataW Unit), IsMap D → IsMap (xs.foldl (fun D x => D.put (.string x.1) (cdD (5 + x.2 : Nat) 0)) D)
  | [], D, h => h
  | x :: xs, D, h => fold_map xs _ (h.put _ _)
theorem fold_has (t : Bytes) : ∀ (xs : List (Bytes × Nat)) (D : DataW Unit), IsMap D → Maps.has (xs.foldl (fun D x => D.put (.string x.1) (cdD (5 + x.2 : Nat) 0)) D) (.string t) = (Maps.has D (.string t) || decide (t ∈ xs.map (·.1)))
  | [], D, h => by simp
  | x :: xs, D, h => by
    rw [List.foldl_cons, fold_has t xs _ (h.put _ _)]
    by_cases e : t = x.1
    · subst e; rw [has_put_same h (keyLit_str _)]; simp
    · rw [has_put_other (str_ne e), List.map_cons]; congr 1; exact decide_eq_decide.2 ⟨fun h => List.mem_cons_of_mem _ h, fun h => (List.mem_cons.1 h).resolve_left e⟩
theorem fold_at_no (t : Bytes) (z : DataW Unit) : ∀ (xs : List (Bytes × Nat)) (D : DataW Unit), t ∉ xs.map (·.1) → (xs.foldl (fun D x => D.put (.string x.1) (cdD (5 + x.2 : Nat) 0)) D).atKey (.string t) z = D.atKey (.string t) z
  | [], D, h => rfl
  | x :: xs, D, h => by
    simp only [List.map_cons, List.mem_cons, not_or] at h
    rw [List.foldl_cons, fold_at_no t z xs _ h.2, atKey_put_other (str_ne h.1)]
theorem fold_at (t : Bytes) (z : DataW Unit) : ∀ (l : List Bytes) (k : Nat) (D : DataW Unit), IsMap D → l.Nodup → t ∈ l → ((l.zipIdx k).foldl (fun D x => D.put (.string x.1) (cdD (5 + x.2 : Nat) 0)) D).atKey (.string t) z = cdD (5 + (k + l.idxOf t) : Nat) 0
  | [], k, D, h, hn, ht => by cases ht
  | a :: l, k, D, h, hn, ht => by
    rw [List.zipIdx_cons, List.foldl_cons]
    rw [List.nodup_cons] at hn
    by_cases e : t = a
    · subst e
      rw [fold_at_no t z _ _ (by simpa using hn.1), atKey_put_same h (keyLit_str _)]
      simp
    · have ht' : t ∈ l := by simpa [e] using ht
      rw [fold_at t z l (k + 1) _ (h.put _ _) hn.2 ht']
      have : (a :: l).idxOf t = l.idxOf t + 1 := by rw [List.idxOf_cons, show (a == t) = false from by rw [beq_eq_false_iff_ne]; exact fun h => e h.symm]; rfl
      rw [this]
      congr 2
      omega
theorem opNames_nodup : opNames.Nodup := by decide +kernel
theorem opD0_map : IsMap opD0 := (isMap_empty.put _ _).put _ _
theorem opD0_has (t : Bytes) : Maps.has opD0 (.string t) = (decide (t = trueL) || decide (t = falseL)) := by
  unfold opD0
  by_cases e1 : t = falseL
  · subst e1; rw [has_put_same (isMap_empty.put _ _) (keyLit_str _)]; simp
  · rw [has_put_other (str_ne e1)]
    by_cases e2 : t = trueL
    · subst e2; rw [has_put_same isMap_empty (keyLit_str _)]; simp
    · rw [has_put_other (str_ne e2)]; simp [e1, e2, Maps.has]
theorem zip_fst (l : List Bytes) : l.zipIdx.map (·.1) = l := by simp
theorem opD_has (t : Bytes) : Maps.has (opD opNames) (.string t) = (opF t).isSome := by
  unfold opD opF
  rw [fold_has t _ _ opD0_map, opD0_has, zip_fst]
  by_cases e1 : t = trueL
  · simp [e1]
  · by_cases e2 : t = falseL
    · subst e2; decide
    · by_cases e3 : t ∈ opNames <;> simp [e1, e2, e3]
theorem true_not : trueL ∉ opNames := by decide +kernel
theorem false_not : falseL ∉ opNames := by decide +kernel
theorem opD_at (t : Bytes) {o : Nat} {x : Int} (h : opF t = some (o, x)) (z : DataW Unit) : (opD opNames).atKey (.string t) z = cdD o x := by
  unfold opD
  unfold opF at h
  split at h
  · rename_i e
    subst e
    rw [fold_at_no _ z _ _ (by rw [zip_fst]; exact true_not)]
    injection h with h
    injection h with h1 h2
    subst h1 h2
    unfold opD0
    rw [atKey_put_other (str_ne (by decide)), atKey_put_same isMap_empty (keyLit_str _)]
    rfl
  · split at h
    · rename_i e
      subst e
      rw [fold_at_no _ z _ _ (by rw [zip_fst]; exact false_not)]
      injection h with h
      injection h with h1 h2
      subst h1 h2
      unfold opD0
      rw [atKey_put_same (isMap_empty.put _ _) (keyLit_str _)]
      rfl
    · split at h
      · rename_i e
        rw [fold_at t z opNames 0 opD0 opD0_map opNames_nodup e]
        injection h with h
        injection h with h1 h2
        subst h1 h2
        simp
      · cases h
end Go.Proofs.YthhmahmclkmjpaaDoor
