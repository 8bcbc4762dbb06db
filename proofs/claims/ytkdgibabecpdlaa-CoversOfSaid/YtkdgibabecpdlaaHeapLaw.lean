/- Proved: the plain heap laws: order is kept by sifting, and the least comes first; for all lists of edges. -/
import Derived.Test.YtkdgibabecpdlaaAt
namespace Go.Proofs.Ytkdgibabecpdlaa
open Go.RowKit

theorem swapL_perm {l : List Edge} {i j : Nat} (hi : i < l.length) (hj : j < l.length) : (swapL l i j).Perm l := by
  have h1 : l.getD i ((0, 0), (0, 0), 0) = l[i] := by simp [List.getD, hi]
  have h2 : l.getD j ((0, 0), (0, 0), 0) = l[j] := by simp [List.getD, hj]
  unfold swapL; rw [h1, h2]
  exact List.set_set_perm hi hj

theorem keyAt_swap {l : List Edge} {i j : Nat} (hi : i < l.length) (hj : j < l.length) (k : Nat) : keyAt (swapL l i j) k = if k = j then keyAt l i else if k = i then keyAt l j else keyAt l k := by
  unfold keyAt swapL
  simp only [List.getD, List.getElem?_set, List.length_set]
  by_cases h1 : k = j
  · subst h1; simp [hj]
  · rw [if_neg (fun h => h1 h.symm), if_neg h1]
    by_cases h2 : k = i
    · subst h2; simp [hi]
    · rw [if_neg (fun h => h2 h.symm), if_neg h2]

theorem downF_perm : ∀ (f : Nat) (l : List Edge) (i n : Nat), n ≤ l.length → i < n → (downF f l i n).Perm l
  | 0, l, _, _, _, _ => List.Perm.refl l
  | f + 1, l, i, n, hn, hi => by
    unfold downF
    split
    · exact List.Perm.refl l
    · rename_i h1
      simp only []
      have hj : (if 2 * i + 2 < n ∧ keyAt l (2 * i + 2) < keyAt l (2 * i + 1) then 2 * i + 2 else 2 * i + 1) < n := by split <;> omega
      generalize (if 2 * i + 2 < n ∧ keyAt l (2 * i + 2) < keyAt l (2 * i + 1) then 2 * i + 2 else 2 * i + 1) = j at *
      split
      · exact (downF_perm f _ j n (by rw [swapL_len]; exact hn) hj).trans (swapL_perm (by omega) (by omega))
      · exact List.Perm.refl l

theorem swapL_drop {l : List Edge} {i j n : Nat} (hi : i < n) (hj : j < n) : (swapL l i j).drop n = l.drop n := by
  unfold swapL; rw [List.drop_set, if_pos hj, List.drop_set, if_pos hi]

theorem downF_drop : ∀ (f : Nat) (l : List Edge) (i n : Nat), i < n → (downF f l i n).drop n = l.drop n
  | 0, _, _, _, _ => rfl
  | f + 1, l, i, n, hi => by
    unfold downF
    split
    · rfl
    · rename_i h1
      simp only []
      have hj : (if 2 * i + 2 < n ∧ keyAt l (2 * i + 2) < keyAt l (2 * i + 1) then 2 * i + 2 else 2 * i + 1) < n := by split <;> omega
      generalize (if 2 * i + 2 < n ∧ keyAt l (2 * i + 2) < keyAt l (2 * i + 1) then 2 * i + 2 else 2 * i + 1) = j at *
      split
      · rw [downF_drop f _ j n hj, swapL_drop hi hj]
      · rfl

/-- The nodes from i on are no greater than those under them. -/
def HeapFrom (l : List Edge) (i n : Nat) : Prop := ∀ j, i ≤ j → (2 * j + 1 < n → keyAt l j ≤ keyAt l (2 * j + 1)) ∧ (2 * j + 2 < n → keyAt l j ≤ keyAt l (2 * j + 2))

theorem downF_heap : ∀ (f : Nat) (l : List Edge) (k i0 n : Nat), n ≤ l.length → k < n → n ≤ f + k →
    (∀ j, i0 ≤ j → j ≠ k → (2 * j + 1 < n → keyAt l j ≤ keyAt l (2 * j + 1)) ∧ (2 * j + 2 < n → keyAt l j ≤ keyAt l (2 * j + 2))) →
    (∀ p, i0 ≤ p → (2 * p + 1 = k ∨ 2 * p + 2 = k) → (2 * k + 1 < n → keyAt l p ≤ keyAt l (2 * k + 1)) ∧ (2 * k + 2 < n → keyAt l p ≤ keyAt l (2 * k + 2))) →
    HeapFrom (downF f l k n) i0 n
  | 0, l, k, i0, n, _, hk, hf, _, _ => by omega
  | f + 1, l, k, i0, n, hn, hk, hf, h1, h2 => by
    unfold downF
    split
    · rename_i h
      intro j hj
      by_cases e : j = k
      · subst e; exact ⟨fun h' => by omega, fun h' => by omega⟩
      · exact h1 j hj e
    · rename_i h
      simp only []
      have hj : (if 2 * k + 2 < n ∧ keyAt l (2 * k + 2) < keyAt l (2 * k + 1) then 2 * k + 2 else 2 * k + 1) < n := by split <;> omega
      have hjk : (if 2 * k + 2 < n ∧ keyAt l (2 * k + 2) < keyAt l (2 * k + 1) then 2 * k + 2 else 2 * k + 1) = 2 * k + 1 ∨ (if 2 * k + 2 < n ∧ keyAt l (2 * k + 2) < keyAt l (2 * k + 1) then 2 * k + 2 else 2 * k + 1) = 2 * k + 2 := by split <;> simp
      have hmin : keyAt l (if 2 * k + 2 < n ∧ keyAt l (2 * k + 2) < keyAt l (2 * k + 1) then 2 * k + 2 else 2 * k + 1) ≤ keyAt l (2 * k + 1) ∧ (2 * k + 2 < n → keyAt l (if 2 * k + 2 < n ∧ keyAt l (2 * k + 2) < keyAt l (2 * k + 1) then 2 * k + 2 else 2 * k + 1) ≤ keyAt l (2 * k + 2)) := by
        split
        · rename_i h; exact ⟨by omega, fun _ => Int.le_refl _⟩
        · rename_i h; exact ⟨Int.le_refl _, fun h' => by omega⟩
      generalize (if 2 * k + 2 < n ∧ keyAt l (2 * k + 2) < keyAt l (2 * k + 1) then 2 * k + 2 else 2 * k + 1) = m at *
      have hm0 : k < m := by omega
      split
      · rename_i hlt
        have hs := fun q => keyAt_swap (l := l) (i := k) (j := m) (by omega) (by omega) q
        refine downF_heap f (swapL l k m) m i0 n (by rw [swapL_len]; exact hn) hj (by omega) ?_ ?_
        · intro j hj0 hjm
          by_cases e : j = k
          · subst e
            constructor
            · intro h'
              rw [hs, hs, if_neg (by omega), if_pos rfl]
              split
              · omega
              · rw [if_neg (by omega)]; exact hmin.1
            · intro h'
              rw [hs, hs, if_neg (by omega), if_pos rfl]
              split
              · omega
              · rw [if_neg (by omega)]; exact hmin.2 h'
          · have g := h1 j hj0 e
            constructor
            · intro h'
              rw [hs, hs, if_neg hjm, if_neg e]
              by_cases c1 : 2 * j + 1 = m
              · exfalso; rcases hjk with hh | hh <;> omega
              · rw [if_neg c1]
                by_cases c2 : 2 * j + 1 = k
                · rw [if_pos c2]
                  have g2 := h2 j hj0 (.inl c2)
                  rcases hjk with hh | hh
                  · subst hh; exact g2.1 (by omega)
                  · subst hh; exact g2.2 (by omega)
                · rw [if_neg c2]; exact g.1 h'
            · intro h'
              rw [hs, hs, if_neg hjm, if_neg e]
              by_cases c1 : 2 * j + 2 = m
              · exfalso; rcases hjk with hh | hh <;> omega
              · rw [if_neg c1]
                by_cases c2 : 2 * j + 2 = k
                · rw [if_pos c2]
                  have g2 := h2 j hj0 (.inr c2)
                  rcases hjk with hh | hh
                  · subst hh; exact g2.1 (by omega)
                  · subst hh; exact g2.2 (by omega)
                · rw [if_neg c2]; exact g.2 h'
        · intro p hp0 hpm
          have hpk : p = k := by rcases hjk with hh | hh <;> omega
          subst hpk
          have g := h1 m (by omega) (by omega)
          constructor
          · intro h'
            rw [hs, hs, if_neg (by omega), if_pos rfl, if_neg (by omega), if_neg (by omega)]; exact g.1 h'
          · intro h'
            rw [hs, hs, if_neg (by omega), if_pos rfl, if_neg (by omega), if_neg (by omega)]; exact g.2 h'
      · rename_i hge
        intro j hj0
        by_cases e : j = k
        · subst e; exact ⟨fun h' => by have := hmin.1; omega, fun h' => by have := hmin.2 h'; omega⟩
        · exact h1 j hj0 e

theorem initF_heap : ∀ (k : Nat) (l : List Edge), k ≤ l.length / 2 → HeapFrom l k l.length → HeapFrom (initF l.length k l) 0 l.length ∧ (initF l.length k l).Perm l
  | 0, l, _, h => ⟨h, List.Perm.refl l⟩
  | k + 1, l, hk, h => by
    have hd := downF_heap l.length l k k l.length (Nat.le_refl _) (by omega) (by omega) (fun j hj hne => h j (by omega)) (fun p hp hpk => by omega)
    have hp := downF_perm l.length l k l.length (Nat.le_refl _) (by omega)
    have hlen : (downF l.length l k l.length).length = l.length := downF_len _ _ _ _
    have ih := initF_heap k (downF l.length l k l.length) (by rw [hlen]; omega) (by rw [hlen]; exact hd)
    rw [hlen] at ih
    exact ⟨ih.1, ih.2.trans hp⟩

theorem initF_ok (l : List Edge) : HeapFrom (initF l.length (l.length / 2) l) 0 l.length ∧ (initF l.length (l.length / 2) l).Perm l :=
  initF_heap _ l (Nat.le_refl _) (fun j hj => ⟨fun h => by omega, fun h => by omega⟩)

theorem keyAt_take {l : List Edge} {k n : Nat} (h : k < n) : keyAt (l.take n) k = keyAt l k := by
  unfold keyAt; simp only [List.getD, List.getElem?_take, if_pos h]

theorem popF_ok {l : List Edge} (h : HeapFrom l 0 l.length) (hl : 0 < l.length) : HeapFrom (popF l) 0 (popF l).length ∧ (l.take 1 ++ popF l).Perm l := by
  have hlen := popF_len l
  rcases Nat.eq_or_lt_of_le (Nat.succ_le_of_lt hl) with h1 | h1
  · have hp : popF l = [] := List.eq_nil_of_length_eq_zero (by rw [hlen]; omega)
    rw [hp]
    refine ⟨fun j _ => ⟨fun h => by simp at h, fun h => by simp at h⟩, ?_⟩
    rw [List.append_nil, List.take_of_length_le (by omega)]
  · have hs := fun q => keyAt_swap (l := l) (i := 0) (j := l.length - 1) (by omega) (by omega) q
    have hd := downF_heap (l.length - 1) (swapL l 0 (l.length - 1)) 0 0 (l.length - 1) (by rw [swapL_len]; omega) (by omega) (by omega) (fun j hj hne => by
      constructor
      · intro h'
        rw [hs, hs, if_neg (by omega), if_neg hne, if_neg (by omega), if_neg (by omega)]; exact (h j hj).1 (by omega)
      · intro h'
        rw [hs, hs, if_neg (by omega), if_neg hne, if_neg (by omega), if_neg (by omega)]; exact (h j hj).2 (by omega)) (fun p hp hpk => by omega)
    have hp := downF_perm (l.length - 1) (swapL l 0 (l.length - 1)) 0 (l.length - 1) (by rw [swapL_len]; omega) (by omega)
    have hp2 := swapL_perm (l := l) (i := 0) (j := l.length - 1) (by omega) (by omega)
    have hdr := downF_drop (l.length - 1) (swapL l 0 (l.length - 1)) 0 (l.length - 1) (by omega)
    refine ⟨?_, ?_⟩
    · rw [hlen]
      intro j hj
      have g := hd j hj
      constructor
      · intro h'; unfold popF; rw [keyAt_take (by omega), keyAt_take (by omega)]; exact g.1 h'
      · intro h'; unfold popF; rw [keyAt_take (by omega), keyAt_take (by omega)]; exact g.2 h'
    · have e1 : (swapL l 0 (l.length - 1)).drop (l.length - 1) = l.take 1 := by
        have hi : l.length - 1 < (swapL l 0 (l.length - 1)).length := by rw [swapL_len]; omega
        rw [List.drop_eq_getElem_cons hi, List.drop_of_length_le (by rw [swapL_len]; omega)]
        have e2 : (swapL l 0 (l.length - 1))[l.length - 1] = l[0] := by
          simp [swapL, List.getD, hl]
        rw [e2]
        cases l with
        | nil => simp at hl
        | cons a l => simp
      have e3 : popF l ++ l.take 1 = downF (l.length - 1) (swapL l 0 (l.length - 1)) 0 (l.length - 1) := by
        unfold popF; rw [← e1, ← hdr, List.take_append_drop]
      exact (List.perm_append_comm.trans (by rw [e3])).trans (hp.trans hp2)

theorem heap_min {l : List Edge} (h : HeapFrom l 0 l.length) : ∀ k, k < l.length → keyAt l 0 ≤ keyAt l k := by
  intro k
  induction k using Nat.strongRecOn with
  | _ k ih =>
    intro hk
    rcases Nat.eq_zero_or_pos k with rfl | hp
    · exact Int.le_refl _
    · have hpar := ih ((k - 1) / 2) (by omega) (by omega)
      have g := h ((k - 1) / 2) (by omega)
      rcases Nat.mod_two_eq_zero_or_one (k - 1) with hm | hm
      · have := g.1 (by omega); rw [show 2 * ((k - 1) / 2) + 1 = k by omega] at this; omega
      · have := g.2 (by omega); rw [show 2 * ((k - 1) / 2) + 2 = k by omega] at this; omega

theorem keyAt_get {l : List Edge} {k : Nat} (h : k < l.length) : keyAt l k = l[k].1.2 := by simp [keyAt, List.getD, h]

theorem popAll_ok : ∀ (f : Nat) (y : Int) (ws ms : List Edge), ws.length ≤ f → HeapFrom ws 0 ws.length →
    HeapFrom (popAll f y ws ms).1 0 (popAll f y ws ms).1.length ∧ ((popAll f y ws ms).2 ++ (popAll f y ws ms).1).Perm (ms ++ ws) ∧
    (∀ e ∈ (popAll f y ws ms).1, y < e.1.2) ∧ ∃ p, (popAll f y ws ms).2 = ms ++ p ∧ ∀ e ∈ p, e.1.2 ≤ y
  | 0, y, ws, ms, hf, h => by
    have : ws = [] := List.eq_nil_of_length_eq_zero (by omega)
    subst this
    exact ⟨h, List.Perm.refl _, by simp [popAll], [], by simp [popAll], by simp⟩
  | f + 1, y, ws, ms, hf, h => by
    unfold popAll
    split
    · rename_i hc
      obtain ⟨h1, h2⟩ := popF_ok h hc.1
      obtain ⟨g1, g2, g3, p, g4, g5⟩ := popAll_ok f y (popF ws) (ms ++ ws.take 1) (by rw [popF_len]; omega) h1
      refine ⟨g1, ?_, g3, ws.take 1 ++ p, by rw [g4, List.append_assoc], ?_⟩
      · refine g2.trans ?_
        rw [List.append_assoc]
        exact List.Perm.append_left ms h2
      · intro e he
        rcases List.mem_append.1 he with he | he
        · cases ws with
          | nil => simp at he
          | cons a l =>
            simp at he; subst he
            have := hc.2
            rw [keyAt_get (by simp)] at this
            exact this
        · exact g5 e he
    · rename_i hc
      refine ⟨h, List.Perm.refl _, fun e he => ?_, [], by simp, by simp⟩
      have he' : e ∈ ws := he
      obtain ⟨k, hk, rfl⟩ := List.getElem_of_mem he'
      have hm := heap_min h k hk
      have : ¬ keyAt ws 0 ≤ y := fun h' => hc ⟨by omega, h'⟩
      rw [keyAt_get hk] at hm
      show y < ws[k].1.2
      omega
end Go.Proofs.Ytkdgibabecpdlaa
