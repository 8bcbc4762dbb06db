/- Proved: the plain law of where jumps go; for all lists of a million tokens at most. -/
import Derived.Test.YthhmahmclkmjpaaDoorStepLaw
namespace Go.Proofs.YthhmahmclkmjpaaDoor
open Go
/-! Where jumps go. -/
structure Gr (s s' : PS) : Prop where
  pre : ∀ j, j < s.out.length → s'.out[j]? = s.out[j]?
  len : s.out.length ≤ s'.out.length
  jmp : ∀ j c, s.out.length ≤ j → s'.out[j]? = some c → (c.1 = 3 ∨ c.1 = 4) → (j : Int) < c.2 ∧ c.2 ≤ (s'.out.length : Int)
def Flat (L : List KT) (k : Nat) (s s' : PS) : Prop := (∀ i, s.at_ ≤ i → i < s'.at_ → isK L i 3 = false) →
  s'.out.length + k + s.at_ = s.out.length + s'.at_ ∧ ∀ j c, s.out.length ≤ j → s'.out[j]? = some c → c.1 ≠ 3 ∧ c.1 ≠ 4
theorem Gr.refl (s : PS) : Gr s s := ⟨fun _ _ => rfl, Nat.le_refl _, fun j c hj hc => by
  have := (List.getElem?_eq_some_iff.1 hc).1; omega⟩
theorem Gr.trans {a b c : PS} (h : Gr a b) (k : Gr b c) : Gr a c :=
  ⟨fun j hj => (k.pre j (Nat.lt_of_lt_of_le hj h.len)).trans (h.pre j hj), Nat.le_trans h.len k.len, fun j x hj hx ho => by
    by_cases hjb : j < b.out.length
    · rw [k.pre j hjb] at hx
      have := h.jmp j x hj hx ho
      have := k.len
      omega
    · exact k.jmp j x (by omega) hx ho⟩
theorem Gr.push (s : PS) (i : Nat) (c : Cd) (hc : c.1 ≠ 3 ∧ c.1 ≠ 4) : Gr s ⟨i, s.out ++ [c]⟩ :=
  ⟨fun j hj => List.getElem?_append_left hj, by simp, fun j x hj hx ho => by
    simp only at hx
    rw [List.getElem?_append_right hj] at hx
    have hlt := (List.getElem?_eq_some_iff.1 hx).1
    have hj0 : j - s.out.length = 0 := by simp at hlt; omega
    rw [hj0] at hx
    injection hx with hx
    subst hx
    omega⟩
theorem w32_id {n : Nat} (h : n ≤ 1000000000) : w32 n = n := by unfold w32; rw [IntKind.wrap_i32]; omega
theorem setN_at {out : List Cd} {u : Nat} {x : Int} {c : Cd} (h : out[u]? = some c) : (setN out u x)[u]? = some (c.1, x) := by
  unfold setN; rw [h]; simp [(List.getElem?_eq_some_iff.1 h).1]
theorem setN_other {out : List Cd} {u j : Nat} {x : Int} (h : j ≠ u) : (setN out u x)[j]? = out[j]? := by
  unfold setN; split
  · rw [List.getElem?_set_ne (Ne.symm h)]
  · rfl
theorem opF_op {t : Bytes} {c : Cd} (h : opF t = some c) : c.1 ≠ 3 ∧ c.1 ≠ 4 := by
  unfold opF at h
  split at h
  · injection h with h; subst h; decide
  · split at h
    · injection h with h; subst h; decide
    · split at h
      · injection h with h; subst h; constructor <;> simp <;> omega
      · cases h
section
variable {L : List KT} {items : Nat → PS → PR} (hL : L.length ≤ 1000000) (hf : ∀ d s s', items d s = .ok s' → Fwd L 1 s s')
  (hi : ∀ d s s', s.out.length ≤ s.at_ → items d s = .ok s' → Gr s s')
include hL hf hi
omit hL hf in
theorem blockF_gr {deep : Nat} {s s' : PS} (h0 : s.out.length ≤ s.at_ + 1) (hb : blockF L items deep s = .ok s') : Gr s s' := by
  unfold blockF at hb
  split at hb
  · split at hb
    · have := hi _ ⟨s.at_ + 1, s.out⟩ _ (by simp only; omega) hb
      exact ⟨this.pre, this.len, this.jmp⟩
    · cases hb
  · cases hb
theorem choiceF_gr {deep : Nat} {s s' : PS} (h0 : s.out.length ≤ s.at_) (hb : choiceF L items deep s = .ok s') : Gr s s' := by
  unfold choiceF at hb
  split at hb
  · cases hb
  · rename_i s1 h1
    have f1 := blockF_fwd hf h1
    have g1 := blockF_gr hi (by simp; omega) h1
    have hu1 : s1.out[s.out.length]? = some (4, 0) := by rw [g1.pre _ (by simp)]; simp
    have hlen1 := g1.len
    unfold Fwd at f1
    simp only [List.length_append, List.length_singleton] at f1 hlen1
    split at hb
    · rename_i hn
      have hlt := isName_lt hn
      injection hb with hb
      subst hb
      refine ⟨fun j hj => ?_, ?_, fun j c hj hc ho => ?_⟩
      · rw [setN_other (by omega), g1.pre j (by simp; omega)]
        exact List.getElem?_append_left hj
      · rw [setN_len]; omega
      · simp only at hc
        rw [setN_len]
        by_cases hju : j = s.out.length
        · subst hju
          rw [setN_at hu1] at hc
          injection hc with hc
          subst hc
          rw [w32_id (by omega)]
          simp only
          omega
        · rw [setN_other hju] at hc
          exact g1.jmp j c (by simp; omega) hc ho
    · split at hb
      · split at hb
        · cases hb
        · rename_i s2 h2
          have f2 := blockF_fwd hf h2
          have g2 := blockF_gr hi (by simp only [setN_len, List.length_append, List.length_singleton]; omega) h2
          have hlen2 := g2.len
          unfold Fwd at f2
          simp only [setN_len, List.length_append, List.length_singleton] at f2 hlen2
          split at hb
          · rename_i hn
            have hlt := isName_lt hn
            injection hb with hb
            subst hb
            have ha : (setN (s1.out ++ [(3, 0)]) s.out.length (w32 (s1.out.length + 1)))[s1.out.length]? = some (3, 0) := by
              rw [setN_other (by omega)]; simp
            have hu2 : s2.out[s1.out.length]? = some (3, 0) := by
              rw [g2.pre _ (by simp only [setN_len, List.length_append, List.length_singleton]; omega)]; exact ha
            have hu3 : s2.out[s.out.length]? = some (4, ((s1.out.length + 1 : Nat) : Int)) := by
              rw [g2.pre _ (by simp only [setN_len, List.length_append, List.length_singleton]; omega)]
              simp only
              rw [setN_at (c := (4, 0)) (by rw [List.getElem?_append_left (by omega)]; exact hu1), w32_id (by omega)]
            have hlow : ∀ j, j < s1.out.length → j ≠ s.out.length → s2.out[j]? = s1.out[j]? := fun j hj hne => by
              rw [g2.pre _ (by simp only [setN_len, List.length_append, List.length_singleton]; omega)]
              simp only
              rw [setN_other hne, List.getElem?_append_left hj]
            refine ⟨fun j hj => ?_, ?_, fun j c hj hc ho => ?_⟩
            · rw [setN_other (by omega), hlow j (by omega) (by omega), g1.pre j (by simp; omega)]
              exact List.getElem?_append_left hj
            · rw [setN_len]; omega
            · simp only at hc
              rw [setN_len]
              by_cases hj1 : j = s1.out.length
              · subst hj1
                rw [setN_at hu2] at hc
                injection hc with hc
                subst hc
                rw [w32_id (by omega)]
                simp only
                omega
              · rw [setN_other hj1] at hc
                by_cases hju : j = s.out.length
                · subst hju
                  rw [hu3] at hc
                  injection hc with hc
                  subst hc
                  simp only
                  omega
                · by_cases hjl : j < s1.out.length
                  · rw [hlow j hjl hju] at hc
                    have := g1.jmp j c (by simp; omega) hc ho
                    omega
                  · exact g2.jmp j c (by simp only [setN_len, List.length_append, List.length_singleton]; omega) hc ho
          · cases hb
      · cases hb
theorem itemF_gr {deep : Nat} {s s' : PS} (h0 : s.out.length ≤ s.at_) (hb : itemF L items deep s = .ok s') : Gr s s' ∧ Flat L 0 s s' := by
  have hfw := itemF_fwd hf hb
  unfold itemF at hb
  split at hb
  · cases hb
  · rename_i t ht
    split at hb
    · rename_i h3
      refine ⟨choiceF_gr hL hf hi h0 hb, fun hall => ?_⟩
      have := hall s.at_ (Nat.le_refl _) (by unfold Fwd at hfw; omega)
      unfold isK at this
      rw [ht] at this
      simp [h3] at this
    · split at hb
      · split at hb
        · injection hb with hb
          subst hb
          rename_i n _
          refine ⟨Gr.push s _ (t.1, n) (by simp only; omega), fun _ => ⟨by simp; omega, fun j c hj hc => ?_⟩⟩
          simp only at hc
          rw [List.getElem?_append_right hj] at hc
          have hlt := (List.getElem?_eq_some_iff.1 hc).1
          have hj0 : j - s.out.length = 0 := by simp at hlt; omega
          rw [hj0] at hc
          injection hc with hc
          subst hc
          simp only; omega
        · cases hb
      · split at hb
        · split at hb
          · injection hb with hb
            subst hb
            rename_i c ho _
            refine ⟨Gr.push s _ c (opF_op ho), fun _ => ⟨by simp; omega, fun j c' hj hc => ?_⟩⟩
            simp only at hc
            rw [List.getElem?_append_right hj] at hc
            have hlt := (List.getElem?_eq_some_iff.1 hc).1
            have hj0 : j - s.out.length = 0 := by simp at hlt; omega
            rw [hj0] at hc
            injection hc with hc
            subst hc
            exact opF_op ho
          · cases hb
        · cases hb
end
theorem itemsF_gr {L : List KT} (hL : L.length ≤ 1000000) : ∀ (f d : Nat) (s s' : PS), s.out.length ≤ s.at_ → itemsF L f d s = .ok s' → Gr s s' ∧ Flat L 1 s s'
  | 0, _, _, _, _, h => by cases h
  | f + 1, d, s, s', h0, h => by
    unfold itemsF at h
    split at h
    · injection h with h
      subst h
      exact ⟨⟨fun _ _ => rfl, Nat.le_refl _, fun j c hj hc => by
        have := (List.getElem?_eq_some_iff.1 hc).1; simp only at this; omega⟩, fun _ => ⟨by simp only; omega, fun j c hj hc => by
        have := (List.getElem?_eq_some_iff.1 hc).1; simp only at this; omega⟩⟩
    · split at h
      · cases h
      · rename_i s1 h1
        have f1 := itemF_fwd (itemsF_fwd f) h1
        obtain ⟨g1, l1⟩ := itemF_gr hL (itemsF_fwd f) (fun d s s' h0 h => (itemsF_gr hL f d s s' h0 h).1) h0 h1
        have f2 := itemsF_fwd f _ _ _ h
        unfold Fwd at f1 f2
        obtain ⟨g2, l2⟩ := itemsF_gr hL f d s1 s' (by omega) h
        refine ⟨g1.trans g2, fun hall => ?_⟩
        obtain ⟨a1, b1⟩ := l1 (fun i h1 h2 => hall i h1 (by omega))
        obtain ⟨a2, b2⟩ := l2 (fun i h1 h2 => hall i (by omega) h2)
        refine ⟨by omega, fun j c hj hc => ?_⟩
        by_cases hjb : j < s1.out.length
        · rw [g2.pre j hjb] at hc
          exact b1 j c hj hc
        · exact b2 j c (by omega) hc
/-- Whatever program it is: where it is none, and where its jumps go. -/
theorem fail_at {L : List KT} : ∀ (f d : Nat) (s : PS) (e i : Nat), s.at_ ≤ L.length → itemsF L f d s = .fail e i → e ≠ 0 ∧ i ≤ L.length
  | 0, _, s, e, i, h0, h => by injection h with h1 h2; subst h1 h2; exact ⟨by decide, h0⟩
  | f + 1, d, s, e, i, h0, h => by
    have hblock : ∀ deep (s : PS) (e i : Nat), s.at_ ≤ L.length → blockF L (itemsF L f) deep s = .fail e i → e ≠ 0 ∧ i ≤ L.length := fun deep s e i h0 h => by
      unfold blockF at h
      split at h
      · rename_i hk
        have := isK_lt hk
        split at h
        · exact fail_at f deep ⟨s.at_ + 1, s.out⟩ e i (by simp only; omega) h
        · injection h with h1 h2; subst h1 h2; exact ⟨by decide, h0⟩
      · injection h with h1 h2; subst h1 h2; exact ⟨by decide, h0⟩
    have hchoice : ∀ deep (s : PS) (e i : Nat), s.at_ ≤ L.length → choiceF L (itemsF L f) deep s = .fail e i → e ≠ 0 ∧ i ≤ L.length := fun deep s e i h0 h => by
      unfold choiceF at h
      split at h
      · rename_i e' i' h1
        injection h with h2 h3; subst h2 h3
        exact hblock deep ⟨s.at_, s.out ++ [(4, 0)]⟩ _ _ h0 h1
      · rename_i s1 h1
        have f1 := blockF_fwd (itemsF_fwd f) h1
        unfold Fwd at f1
        split at h
        · cases h
        · split at h
          · split at h
            · rename_i e' i' h2
              injection h with h3 h4; subst h3 h4
              exact hblock deep ⟨s1.at_, setN (s1.out ++ [(3, 0)]) s.out.length (w32 (s1.out.length + 1))⟩ _ _ f1.2.1 h2
            · rename_i s2 h2
              have f2 := blockF_fwd (itemsF_fwd f) h2
              unfold Fwd at f2
              split at h
              · cases h
              · injection h with h1 h2; subst h1 h2; exact ⟨by decide, f2.2.1⟩
          · injection h with h1 h2; subst h1 h2; exact ⟨by decide, f1.2.1⟩
    unfold itemsF at h
    split at h
    · cases h
    · split at h
      · rename_i e' i' h1
        injection h with h2 h3; subst h2 h3
        unfold itemF at h1
        split at h1
        · injection h1 with h1 h2; subst h1 h2; exact ⟨by decide, h0⟩
        · split at h1
          · exact hchoice _ _ _ _ h0 h1
          · split at h1
            · split at h1
              · cases h1
              · injection h1 with h1 h2; subst h1 h2; exact ⟨by decide, h0⟩
            · split at h1
              · split at h1
                · cases h1
                · injection h1 with h1 h2; subst h1 h2; exact ⟨by decide, h0⟩
              · injection h1 with h1 h2; subst h1 h2; exact ⟨by decide, h0⟩
      · rename_i s1 h1
        have f1 := itemF_fwd (itemsF_fwd f) h1
        unfold Fwd at f1
        exact fail_at f d s1 e i f1.2.1 h
/-- How many tokens open a block. -/
def bracesN (L : List KT) : Nat := L.countP (fun t => t.1 == 3)
def jumpB (c : Cd) : Bool := c.1 == 3 || c.1 == 4
theorem isK_drop {L : List KT} (h : bracesN (L.drop 1) = 0) : ∀ i, 1 ≤ i → isK L i 3 = false := fun i hi => by
  unfold isK
  split
  · rename_i t ht
    have := List.countP_eq_zero.1 h t (by
      have : (L.drop 1)[i - 1]? = some t := by rw [List.getElem?_drop, show 1 + (i - 1) = i by omega]; exact ht
      exact List.mem_of_getElem? this)
    simpa using this
  · rfl
theorem forward_bad {L : List KT} (he : (progF L).2.2 ≠ 0) : (progF L).1 = [] ∧ (progF L).2.1 ≤ L.length := by
  unfold progF at he ⊢
  have hb : ∀ e i, blockF L (itemsF L (L.length + 1)) 1 ⟨0, []⟩ = .fail e i → i ≤ L.length := fun e i h => by
    unfold blockF at h
    split at h
    · rename_i hk
      have := isK_lt hk
      split at h
      · exact (fail_at _ _ ⟨0 + 1, []⟩ e i (by simp only at this ⊢; omega) h).2
      · injection h with h1 h2; subst h2; simp
    · injection h with h1 h2; subst h2; simp
  split
  · rename_i e i h; exact ⟨rfl, hb e i h⟩
  · rename_i s h
    have f1 := blockF_fwd (itemsF_fwd _) h
    unfold Fwd at f1
    rw [h] at he
    simp only at he
    split
    · split
      · rename_i h1 h2; rw [if_pos h1, if_pos h2] at he; exact absurd rfl he
      · exact ⟨rfl, f1.2.1⟩
    · exact ⟨rfl, f1.2.1⟩
theorem forward_ok {L : List KT} (hL : L.length ≤ 1000000) (he : (progF L).2.2 = 0) : (progF L).2.1 = L.length ∧ (progF L).1.length ≤ 1024 ∧ 1 ≤ bracesN L ∧
    (bracesN L = 1 → (progF L).1.length + 2 = L.length) ∧
    (∀ (j : Nat) c, (progF L).1[j]? = some c → jumpB c = true → (j : Int) < c.2 ∧ c.2 ≤ ((progF L).1.length : Int) ∧ bracesN L ≠ 1) := by
  unfold progF at he ⊢
  split
  · rename_i e i h
    exfalso
    rw [h] at he
    simp only at he
    subst he
    unfold blockF at h
    split at h
    · rename_i hk
      have := isK_lt hk
      split at h
      · exact (fail_at _ _ ⟨0 + 1, []⟩ 0 i (by simp only at this ⊢; omega) h).1 rfl
      · injection h with h1 h2; cases h1
    · injection h with h1 h2; cases h1
  · rename_i s h
    rw [h] at he
    simp only at he
    by_cases h1 : s.at_ = L.length
    · rw [if_pos h1] at he ⊢
      by_cases h2 : s.out.length ≤ 1024
      · rw [if_pos h2] at he ⊢
        unfold blockF at h
        split at h
        · rename_i hk
          rw [if_pos (by decide)] at h
          have hlt := isK_lt hk
          obtain ⟨g, fl⟩ := itemsF_gr hL _ _ ⟨0 + 1, []⟩ s (by simp) h
          have hhead : ∃ t r, L = t :: r ∧ (t.1 == 3) = true := by
            cases L with
            | nil => simp at hlt
            | cons t r => exact ⟨t, r, rfl, by unfold isK at hk; simpa using hk⟩
          obtain ⟨t, r, hLr, ht⟩ := hhead
          have hbr : bracesN L = bracesN (L.drop 1) + 1 := by
            rw [hLr]; unfold bracesN; rw [List.countP_cons, if_pos ht]; rfl
          refine ⟨h1, h2, by omega, fun hb1 => ?_, fun j c hj hc => ?_⟩
          · have := (fl (fun i hi _ => isK_drop (by omega) i hi)).1
            simp only [List.length_nil] at this
            simp only
            omega
          · have hc' : c.1 = 3 ∨ c.1 = 4 := by simpa [jumpB] using hc
            have := g.jmp j c (Nat.zero_le _) hj hc'
            refine ⟨this.1, this.2, fun hb1 => ?_⟩
            have := (fl (fun i hi _ => isK_drop (by omega) i hi)).2 j c (Nat.zero_le _) hj
            omega
        · cases h
      · rw [if_neg h2] at he; cases he
    · rw [if_neg h1] at he; cases he
end Go.Proofs.YthhmahmclkmjpaaDoor
