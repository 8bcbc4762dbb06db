/- Proved: plain laws of tokens: moved on, after a remark, one by one, spread with white bytes; for all texts. -/
import Derived.Test.YthhmahmclkmjpaaDoorTokNum
namespace Go.Proofs.YthhmahmclkmjpaaDoor
theorem spanN_append_stop {p : UInt8 → Bool} : ∀ {l r : Bytes}, (∀ x ∈ l, p x = false) → (r = [] ∨ ∃ c t, r = c :: t ∧ p c = true) → spanN p (l ++ r) = l.length
  | [], r, _, hr => by
    rcases hr with rfl | ⟨c, t, rfl, hc⟩
    · rfl
    · rw [List.nil_append, spanN_cons, hc]; rfl
  | a :: l, r, h, hr => by
    rw [List.cons_append, spanN_cons, h a (List.mem_cons_self ..)]
    rw [spanN_append_stop (fun x hx => h x (List.mem_cons_of_mem _ hx)) hr]; simp
theorem spanN_take {p : UInt8 → Bool} : ∀ (l : Bytes) (m : Nat), spanN p l ≤ m → spanN p (l.take m) = spanN p l
  | [], m, _ => by simp
  | a :: l, 0, h => by
    rw [spanN_cons] at h ⊢
    cases hp : p a
    · rw [hp] at h; simp at h
    · rfl
  | a :: l, m + 1, h => by
    rw [List.take_succ_cons, spanN_cons, spanN_cons]
    rw [spanN_cons] at h
    cases hp : p a
    · rw [hp] at h
      simp only [Bool.false_eq_true, if_false] at h ⊢
      rw [spanN_take l m (by omega)]
    · rfl
def shift (d : Nat) (t : Tok) : Tok := ⟨t.k, t.t, t.pos + d⟩
theorem lexS_shift (d : Nat) : ∀ (n : Nat) (l : Bytes) (pos : Nat), l.length ≤ n → lexS l (pos + d) = ((lexS l pos).1.map (shift d), (lexS l pos).2.1 + d, (lexS l pos).2.2) := by
  intro n
  induction n with
  | zero => intro l pos hl; obtain rfl := List.eq_nil_of_length_eq_zero (Nat.le_zero.1 hl); rfl
  | succ n ih =>
    intro l pos hl
    cases l with
    | nil => rfl
    | cons c t =>
      cases hx : lex1 (c :: t) with
      | bad => rw [lexS_bad hx, lexS_bad hx]; rfl
      | skip m =>
        obtain ⟨h1, h2⟩ := lex1_skip hx
        rw [lexS_skip hx (by simp), lexS_skip hx (by simp), show pos + d + m = pos + m + d by omega, ih _ _ (by simp only [List.length_drop]; omega)]
      | tok k m =>
        obtain ⟨h1, h2⟩ := lex1_tok hx
        rw [lexS_tok hx, lexS_tok hx, show pos + d + m = pos + m + d by omega, ih _ _ (by simp only [List.length_drop]; omega)]
        rfl
theorem lexS_le : ∀ (n : Nat) (l : Bytes) (pos : Nat), l.length ≤ n → (lexS l pos).2.1 ≤ pos + l.length := by
  intro n
  induction n with
  | zero => intro l pos hl; obtain rfl := List.eq_nil_of_length_eq_zero (Nat.le_zero.1 hl); exact Nat.le_refl _
  | succ n ih =>
    intro l pos hl
    cases l with
    | nil => exact Nat.le_refl _
    | cons c t =>
      cases hx : lex1 (c :: t) with
      | bad => rw [lexS_bad hx]; simp
      | skip m =>
        obtain ⟨h1, h2⟩ := lex1_skip hx
        rw [lexS_skip hx (by simp)]
        have := ih ((c :: t).drop m) (pos + m) (by simp only [List.length_drop]; omega)
        simp only [List.length_drop] at this
        omega
      | tok k m =>
        obtain ⟨h1, h2⟩ := lex1_tok hx
        rw [lexS_tok hx]
        have := ih ((c :: t).drop m) (pos + m) (by simp only [List.length_drop]; omega)
        simp only [List.length_drop] at this
        simp only
        omega
/-- A remark ahead of a text. -/
theorem lexS_remark (R T : Bytes) (hR : ∀ x ∈ R, eolB x = false) : lexS (37 :: (R ++ 10 :: T)) 0 = ((lexS T 0).1.map (shift (R.length + 2)), (lexS T 0).2.1 + (R.length + 2), (lexS T 0).2.2) := by
  have h37 : eolB 37 = false := by decide
  have h1 : spanN eolB (37 :: (R ++ 10 :: T)) = R.length + 1 := by
    rw [spanN_cons, h37]
    have := spanN_append_stop (p := eolB) (l := R) (r := 10 :: T) hR (.inr ⟨10, T, rfl, by decide⟩)
    rw [this]; rfl
  have hx : lex1 (37 :: (R ++ 10 :: T)) = .skip (R.length + 1) := by
    simp only [lex1, if_true]; rw [h1]
  have hd : (37 :: (R ++ 10 :: T)).drop (R.length + 1) = 10 :: T := by
    rw [List.drop_succ_cons, List.drop_left]
  have hy : lex1 (10 :: T) = .skip 1 := by simp only [lex1]; rw [if_neg (by decide), if_pos (by decide)]
  rw [lexS_skip hx (by simp), hd, lexS_skip hy (by simp), List.drop_succ_cons, List.drop_zero, show 0 + (R.length + 1) + 1 = 0 + (R.length + 2) by omega]
  exact lexS_shift _ _ T 0 (Nat.le_refl _)
theorem lex1_take {l : Bytes} {n m : Nat} (h : lex1 l = .skip n) (h0 : l ≠ []) (hnm : n ≤ m) : lex1 (l.take m) = .skip n ∧ l.take m ≠ [] := by
  cases l with
  | nil => exact absurd rfl h0
  | cons c t =>
    obtain ⟨h1, h2⟩ := lex1_skip h
    obtain ⟨m', rfl⟩ : ∃ m', m = m' + 1 := ⟨m - 1, by omega⟩
    refine ⟨?_, by simp⟩
    have hsp := spanN_take (p := eolB) (c :: t) (m' + 1)
    rw [List.take_succ_cons] at hsp ⊢
    simp only [lex1] at h ⊢
    by_cases h37 : c = 37
    · rw [if_pos h37] at h ⊢
      injection h with h
      rw [hsp (by omega), h]
    · rw [if_neg h37] at h ⊢
      by_cases hw : whtB c = true
      · rw [if_pos hw] at h ⊢; exact h
      · rw [if_neg hw] at h
        split at h
        · cases h
        · split at h
          · cases h
          · split at h <;> cases h
/-- The first token stands where it says, and ahead of it there is none. -/
theorem lexS_first : ∀ (n : Nat) (l : Bytes) (pos : Nat) (t : Tok) (ts : List Tok) (q : Nat) (b : Bool), l.length ≤ n → lexS l pos = (t :: ts, q, b) →
    ∃ g, t.pos = pos + g ∧ g + t.t.length ≤ l.length ∧ 1 ≤ t.t.length ∧ (∀ p, (lexS (l.take g) p).1 = [] ∧ (lexS (l.take g) p).2.2 = true) ∧ t.t = (l.drop g).take t.t.length ∧ lexS (l.drop (g + t.t.length)) (pos + (g + t.t.length)) = (ts, q, b) := by
  intro n
  induction n with
  | zero => intro l pos t ts q b hl h; obtain rfl := List.eq_nil_of_length_eq_zero (Nat.le_zero.1 hl); simp [lexS_nil] at h
  | succ n ih =>
    intro l pos t ts q b hl h
    cases l with
    | nil => simp [lexS_nil] at h
    | cons c r =>
      cases hx : lex1 (c :: r) with
      | bad => rw [lexS_bad hx] at h; simp at h
      | skip m =>
        obtain ⟨h1, h2⟩ := lex1_skip hx
        rw [lexS_skip hx (by simp)] at h
        obtain ⟨g, e1, e2, e3, e4, e5, e6⟩ := ih _ _ _ _ _ _ (by simp only [List.length_drop]; omega) h
        simp only [List.length_drop] at e2
        refine ⟨m + g, by omega, by omega, e3, ?_, ?_, ?_⟩
        · intro p
          obtain ⟨f1, f2⟩ := lex1_take (m := m + g) hx (by simp) (by omega)
          rw [lexS_skip f1 f2, List.drop_take, show m + g - m = g by omega]
          exact e4 _
        · rw [List.drop_drop] at e5; exact e5
        · rw [List.drop_drop] at e6
          rw [show m + g + t.t.length = m + (g + t.t.length) by omega, show pos + (m + (g + t.t.length)) = pos + m + (g + t.t.length) by omega]
          exact e6
      | tok k m =>
        obtain ⟨h1, h2⟩ := lex1_tok hx
        rw [lexS_tok hx] at h
        injection h with ha hb
        injection ha with ha1 ha2
        subst ha1
        have hlen : ((c :: r).take m).length = m := by rw [List.length_take]; omega
        refine ⟨0, rfl, ?_, ?_, ?_, ?_, ?_⟩
        · simp only; rw [hlen]; omega
        · simp only; rw [hlen]; omega
        · intro p; simp [lexS_nil]
        · simp only; rw [hlen, List.drop_zero]
        · simp only; rw [hlen, Nat.zero_add]
          rw [← ha2, ← hb]
/-- A token that stands alone. -/
def Good (t : Tok) : Prop := (t.k = 4 ∧ t.t = [125]) ∨ (t.k = 3 ∧ t.t = [123]) ∨ (t.t ≠ [] ∧ (∀ x ∈ t.t, stopB x = false) ∧ kindF t.t = some t.k)
theorem lex1_good {l : Bytes} {k n pos : Nat} (h : lex1 l = .tok k n) : Good ⟨k, l.take n, pos⟩ := by
  cases l with
  | nil => cases h
  | cons c t =>
    have hb := lex1_tok h
    simp only [lex1] at h
    split at h
    · cases h
    · split at h
      · cases h
      · split at h
        · rename_i h3
          injection h with e1 e2; subst e1 e2 h3
          exact .inl ⟨rfl, rfl⟩
        · split at h
          · rename_i h4
            injection h with e1 e2; subst e1 e2 h4
            exact .inr (.inl ⟨rfl, rfl⟩)
          · split at h
            · rename_i k' hk
              injection h with e1 e2; subst e1 e2
              refine .inr (.inr ⟨?_, fun x hx => span_ahead stopB _ _ hx, hk⟩)
              intro e
              have := congrArg List.length e
              simp only [List.length_take, List.length_nil] at this
              omega
            · cases h
theorem good_lex {t : Tok} (h : Good t) {r : Bytes} (hr : r = [] ∨ ∃ c s, r = c :: s ∧ stopB c = true) : lex1 (t.t ++ r) = .tok t.k t.t.length := by
  rcases h with ⟨h1, h2⟩ | ⟨h1, h2⟩ | ⟨h1, h2, h3⟩
  · rw [h1, h2]; simp only [List.cons_append, List.nil_append, lex1, if_true]; rw [if_neg (by decide), if_neg (by decide)]; rfl
  · rw [h1, h2]; simp only [List.cons_append, List.nil_append, lex1, if_true]; rw [if_neg (by decide), if_neg (by decide), if_neg (by decide)]; rfl
  · have hs := spanN_append_stop (p := stopB) h2 hr
    cases hw : t.t with
    | nil => exact absurd hw h1
    | cons c u =>
      rw [hw] at hs h2 h3
      have hc := h2 c (List.mem_cons_self ..)
      have c1 : c ≠ 37 := fun e => by rw [e] at hc; revert hc; decide
      have c2 : whtB c = false := by
        cases hh : whtB c
        · rfl
        · rw [stopB, hh] at hc; cases hc
      have c3 : c ≠ 125 := fun e => by rw [e] at hc; revert hc; decide
      have c4 : c ≠ 123 := fun e => by rw [e] at hc; revert hc; decide
      rw [List.cons_append] at hs ⊢
      simp only [lex1]
      rw [if_neg c1, if_neg (by rw [c2]; decide), if_neg c3, if_neg c4, hs]
      have ht : (c :: (u ++ r)).take (c :: u).length = c :: u := by rw [← List.cons_append, List.take_left]
      rw [ht, h3]
theorem lexS_good : ∀ (n : Nat) (l : Bytes) (pos : Nat), l.length ≤ n → (∀ t ∈ (lexS l pos).1, Good t) ∧ ((lexS l pos).1.map (fun t => t.t.length + 1)).sum ≤ 2 * l.length := by
  intro n
  induction n with
  | zero => intro l pos hl; obtain rfl := List.eq_nil_of_length_eq_zero (Nat.le_zero.1 hl); exact ⟨fun t ht => by simp [lexS_nil] at ht, by simp [lexS_nil]⟩
  | succ n ih =>
    intro l pos hl
    cases l with
    | nil => exact ⟨fun t ht => by simp [lexS_nil] at ht, by simp [lexS_nil]⟩
    | cons c r =>
      cases hx : lex1 (c :: r) with
      | bad => rw [lexS_bad hx]; exact ⟨fun t ht => by simp at ht, by simp⟩
      | skip m =>
        obtain ⟨h1, h2⟩ := lex1_skip hx
        rw [lexS_skip hx (by simp)]
        obtain ⟨a1, a2⟩ := ih ((c :: r).drop m) (pos + m) (by simp only [List.length_drop]; omega)
        refine ⟨a1, ?_⟩
        simp only [List.length_drop] at a2; omega
      | tok k m =>
        obtain ⟨h1, h2⟩ := lex1_tok hx
        rw [lexS_tok hx]
        obtain ⟨a1, a2⟩ := ih ((c :: r).drop m) (pos + m) (by simp only [List.length_drop]; omega)
        refine ⟨fun t ht => ?_, ?_⟩
        · rcases List.mem_cons.1 ht with rfl | ht
          · exact lex1_good hx
          · exact a1 t ht
        · simp only [List.map_cons, List.sum_cons, List.length_drop, List.length_take] at a2 ⊢
          omega
/-- Tokens, a white byte ahead of each. -/
def spread (w : UInt8) (ts : List Tok) : Bytes := ts.flatMap fun t => w :: t.t
theorem spread_len (w : UInt8) (ts : List Tok) : (spread w ts).length = (ts.map (fun t => t.t.length + 1)).sum := by
  induction ts with
  | nil => rfl
  | cons t ts ih => simp only [spread, List.flatMap_cons, List.length_append, List.length_cons, List.map_cons, List.sum_cons] at ih ⊢; rw [ih]
theorem lexS_spread (w : UInt8) (hw : whtB w = true) : ∀ (ts : List Tok) (pos : Nat), (∀ t ∈ ts, Good t) → (lexS (spread w ts) pos).1.map (fun t => (t.k, t.t)) = ts.map (fun t => (t.k, t.t)) ∧ (lexS (spread w ts) pos).2.2 = true
  | [], _, _ => ⟨rfl, rfl⟩
  | t :: ts, pos, h => by
    have e : spread w (t :: ts) = w :: (t.t ++ spread w ts) := by simp [spread]
    have hw37 : w ≠ 37 := fun e => by rw [e] at hw; revert hw; decide
    have hx : lex1 (w :: (t.t ++ spread w ts)) = .skip 1 := by simp only [lex1]; rw [if_neg hw37, if_pos hw]
    have hr : spread w ts = [] ∨ ∃ c s, spread w ts = c :: s ∧ stopB c = true := by
      cases ts with
      | nil => exact .inl rfl
      | cons u us => exact .inr ⟨w, u.t ++ spread w us, by simp [spread], by simp [stopB, hw]⟩
    have hy := good_lex (h t (List.mem_cons_self ..)) hr
    have ih := lexS_spread w hw ts (pos + 1 + t.t.length) (fun u hu => h u (List.mem_cons_of_mem _ hu))
    rw [e, lexS_skip hx (by simp), List.drop_succ_cons, List.drop_zero, lexS_tok hy, List.drop_left, List.take_left]
    exact ⟨by rw [List.map_cons, ih.1, List.map_cons], ih.2⟩
end Go.Proofs.YthhmahmclkmjpaaDoor
