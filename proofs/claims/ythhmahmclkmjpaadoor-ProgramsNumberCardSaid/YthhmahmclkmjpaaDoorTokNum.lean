/- Proved: a word's kind told by a cut at its point is the one told by counting; for all words. -/
import Derived.Test.YthhmahmclkmjpaaDoorTokLaw
namespace Go.Proofs.YthhmahmclkmjpaaDoor
theorem span_ahead (p : UInt8 → Bool) : ∀ (l : Bytes) (b : UInt8), b ∈ l.take (spanN p l) → p b = false
  | [], _, h => by simp [spanN_nil] at h
  | c :: t, b, h => by
    rw [spanN_cons] at h
    cases hc : p c
    · rw [hc] at h
      simp only [Bool.false_eq_true, if_false, List.take_succ_cons, List.mem_cons] at h
      rcases h with rfl | h
      · exact hc
      · exact span_ahead p t b h
    · rw [hc] at h; simp at h
theorem span_hit (p : UInt8 → Bool) : ∀ (l : Bytes) (h : spanN p l < l.length), p (l[spanN p l]'h) = true
  | [], h => by simp at h
  | c :: t, h => by
    cases hc : p c
    · have e : spanN p (c :: t) = spanN p t + 1 := by rw [spanN_cons, hc]; rfl
      have h' : spanN p t < t.length := by rw [e] at h; simpa using h
      have := span_hit p t h'
      simp only [e, List.getElem_cons_succ]
      exact this
    · have e : spanN p (c :: t) = 0 := by rw [spanN_cons, hc]; rfl
      simp only [e, List.getElem_cons_zero]
      exact hc
theorem indexByte_span (c : UInt8) : ∀ l : Bytes, Lib.indexByte l c = if spanN (· == c) l < l.length then (spanN (· == c) l : Int) else -1
  | [] => rfl
  | b :: l => by
    have ih := indexByte_span c l
    rw [Lib.indexByte, ih, spanN_cons]
    cases hb : b == c
    · simp only [Bool.false_eq_true, if_false, List.length_cons, Nat.add_lt_add_iff_right]
      by_cases h : spanN (· == c) l < l.length
      · have h0 : ((spanN (· == c) l : Int) == -1) = false := by rw [beq_eq_false_iff_ne]; omega
        simp [h, h0]
      · simp [h]
    · simp
def ahead (u : Bytes) : Bytes := u.take (spanN (· == 46) u)
def behind (u : Bytes) : Bytes := u.drop (spanN (· == 46) u + 1)
def cutN (u : Bytes) : Nat := (ahead u).length + (behind u).length
def numC (u : Bytes) : Option Nat :=
  if cutN u = 0 ∨ (ahead u ++ behind u).all digB = false then none
  else if spanN (· == 46) u < u.length then (if cutN u ≤ 18 then some 1 else none) else (if cutN u ≤ 10 then some 0 else none)
theorem digits_all (l : Bytes) (h : l.all digB = true) : digitsN l = l.length ∧ pointsN l = 0 ∧ numB l = true := by
  rw [List.all_eq_true] at h
  refine ⟨?_, ?_, ?_⟩
  · exact List.countP_eq_length.2 h
  · refine List.countP_eq_zero.2 (fun x hx e => ?_)
    have h1 := h x hx
    have : x = 46 := by simpa using e
    subst this
    exact absurd h1 (by decide)
  · rw [numB, List.all_eq_true]
    intro x hx
    simp [h x hx]
theorem digits_num (l : Bytes) (h : numB l = true) (h0 : pointsN l = 0) : l.all digB = true := by
  rw [List.all_eq_true]
  intro x hx
  have h1 := List.all_eq_true.1 h x hx
  have h2 := List.countP_eq_zero.1 h0 x hx
  simp only [Bool.or_eq_true] at h1
  rcases h1 with h1 | h1
  · exact h1
  · exact absurd h1 h2
theorem numF_cut (u : Bytes) : numF u = numC u := by
  by_cases hm : spanN (· == 46) u < u.length
  · have hhit := span_hit (· == 46) u hm
    have hc : u[spanN (· == 46) u]'hm = 46 := by simpa using hhit
    have hu : u = ahead u ++ 46 :: behind u := by
      unfold ahead behind
      conv => lhs; rw [← List.take_append_drop (spanN (· == 46) u) u, List.drop_eq_getElem_cons hm, hc]
    have hpa : pointsN (ahead u) = 0 := List.countP_eq_zero.2 (fun x hx => by
      have := span_ahead (· == 46) u x hx
      simp [this])
    have hpu : pointsN u = 1 + pointsN (behind u) := by
      conv => lhs; rw [hu]
      simp only [pointsN, List.countP_append, List.countP_cons] at hpa ⊢
      rw [hpa]; simp; omega
    have hdu : digitsN u = digitsN (ahead u) + digitsN (behind u) := by
      conv => lhs; rw [hu]
      simp only [digitsN, List.countP_append, List.countP_cons]
      have : digB 46 = false := by decide
      simp [this]
    have hnu : numB u = (numB (ahead u) && numB (behind u)) := by
      conv => lhs; rw [hu]
      simp [numB, List.all_append, List.all_cons]
    unfold numF numC cutN
    rw [if_pos hm]
    by_cases hall : (ahead u ++ behind u).all digB = true
    · rw [List.all_append, Bool.and_eq_true] at hall
      obtain ⟨a1, a2, a3⟩ := digits_all _ hall.1
      obtain ⟨b1, b2, b3⟩ := digits_all _ hall.2
      have hal2 : (ahead u ++ behind u).all digB = true := by rw [List.all_append, hall.1, hall.2]; rfl
      rw [hnu, hdu, hpu, a1, a3, b1, b2, b3, hal2]
      by_cases hz : (ahead u).length + (behind u).length = 0
      · rw [if_neg (by omega), if_pos (.inl hz)]
      · rw [if_pos ⟨rfl, by omega, by omega⟩, if_neg (show ¬ (1 + 0 = 0) by omega), if_neg (show ¬ ((ahead u).length + (behind u).length = 0 ∨ true = false) from fun h => h.elim hz (by simp))]
    · rw [if_pos (Or.inr (by simpa using hall)), if_neg]
      rintro ⟨h1, h2, h3⟩
      rw [hnu, Bool.and_eq_true] at h1
      have hb0 : pointsN (behind u) = 0 := by omega
      exact hall (by rw [List.all_append, digits_num _ h1.1 hpa, digits_num _ h1.2 hb0]; rfl)
  · have hle := spanN_le (· == 46) u
    have hse : spanN (· == 46) u = u.length := by omega
    have ha : ahead u = u := by unfold ahead; rw [hse, List.take_length]
    have hb : behind u = [] := by unfold behind; rw [hse]; exact List.drop_eq_nil_of_le (by omega)
    have hp : pointsN u = 0 := List.countP_eq_zero.2 (fun x hx => by
      have := span_ahead (· == 46) u x (by unfold ahead at ha; rw [ha]; exact hx)
      simp [this])
    unfold numF numC cutN
    rw [if_neg hm, ha, hb, List.append_nil, List.length_nil, Nat.add_zero, hp]
    by_cases hall : u.all digB = true
    · obtain ⟨a1, a2, a3⟩ := digits_all _ hall
      rw [a1, a3, hall]
      by_cases hz : u.length = 0
      · rw [if_neg (by omega), if_pos (.inl hz)]
      · rw [if_pos ⟨rfl, by omega, by omega⟩, if_pos rfl, if_neg (show ¬ (u.length = 0 ∨ true = false) from fun h => h.elim hz (by simp))]
    · rw [if_pos (Or.inr (by simpa using hall)), if_neg]
      rintro ⟨h1, _, _⟩
      exact hall (digits_num _ h1 hp)
end Go.Proofs.YthhmahmclkmjpaaDoor
