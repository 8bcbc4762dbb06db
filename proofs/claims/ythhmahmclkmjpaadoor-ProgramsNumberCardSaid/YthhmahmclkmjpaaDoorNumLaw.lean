/- Proved: the plain law of a token that is the word it says; for numbers' words. -/
import Derived.Test.YthhmahmclkmjpaaDoorStepLaw
import Derived.Test.YthhmahmclkmjpaaDoorTokNum
namespace Go.Proofs.YthhmahmclkmjpaaDoor
open Go
/-! A token that is the word it says; the number of a word. -/
def oneB (k : Nat) (t : Bytes) : Bool := match tokRes t with
  | ([x], _, 0) => x.k == k && x.t == t
  | _ => false
theorem numB_stop {c : UInt8} (h : (digB c || c == 46) = true) : stopB c = false := by
  have := forall_u8 (fun c => !(digB c || c == 46) || !stopB c) (by decide +kernel) c
  rw [h] at this
  simpa using this
theorem sign_stop {c : UInt8} (h : (c == 43 || c == 45) = true) : stopB c = false := by
  have := forall_u8 (fun c => !(c == 43 || c == 45) || !stopB c) (by decide +kernel) c
  rw [h] at this
  simpa using this
theorem let_not_num {c : UInt8} (h : letB c = true) : digB c = false ∧ (c == 46) = false := by
  have := forall_u8 (fun c => !letB c || (!digB c && !(c == 46))) (by decide +kernel) c
  rw [h] at this
  simpa using this
/-- A number's word: it is no word of letters; behind its sign stand digits, and one point at most. -/
theorem kind_num {t : Bytes} {k : Nat} (h : kindF t = some k) (hk : k ≤ 1) : numF (unsign t) = some k := by
  unfold kindF at h
  split at h
  · split at h
    · cases h
    · injection h with h; omega
  · exact h
theorem numF_parts {u : Bytes} {k : Nat} (h : numF u = some k) : numB u = true ∧ pointsN u = k ∧ 1 ≤ digitsN u ∧ k ≤ 1 ∧ digitsN u ≤ 18 := by
  unfold numF at h
  split at h
  · rename_i hc
    split at h
    · split at h
      · injection h with h; exact ⟨hc.1, by omega, hc.2.2, by omega, by omega⟩
      · cases h
    · split at h
      · injection h with h; exact ⟨hc.1, by omega, hc.2.2, by omega, by omega⟩
      · cases h
  · cases h
theorem num_nostop {t : Bytes} {k : Nat} (h : kindF t = some k) (hk : k ≤ 1) : ∀ x ∈ t, stopB x = false := by
  have hn := (numF_parts (kind_num h hk)).1
  unfold numB at hn
  rw [List.all_eq_true] at hn
  intro x hx
  cases t with
  | nil => cases hx
  | cons c s =>
    rw [show unsign (c :: s) = if c == 43 || c == 45 then s else c :: s from rfl] at hn
    split at hn
    · rename_i hc
      rcases List.mem_cons.1 hx with rfl | hx
      · exact sign_stop hc
      · exact numB_stop (hn x hx)
    · exact numB_stop (hn x hx)
theorem num_len {t : Bytes} {k : Nat} (h : kindF t = some k) (hk : k ≤ 1) : t.length ≤ 20 ∧ t ≠ [] := by
  obtain ⟨hn, hp, hd, _, hd2⟩ := numF_parts (kind_num h hk)
  have hl : ∀ u : Bytes, numB u = true → u.length = digitsN u + pointsN u := by
    intro u
    induction u with
    | nil => intro _; rfl
    | cons c s ih =>
      intro hn
      unfold numB at hn
      rw [List.all_cons, Bool.and_eq_true] at hn
      have := ih hn.2
      unfold digitsN pointsN at *
      rw [List.countP_cons, List.countP_cons, List.length_cons, this]
      have hx := forall_u8 (fun c => !(digB c || c == 46) || (digB c && !(c == 46)) || (!digB c && c == 46)) (by decide +kernel) c
      rw [hn.1] at hx
      cases h1 : digB c <;> cases h2 : (c == 46) <;> simp [h1, h2] at hx ⊢ <;> omega
  have := hl _ hn
  cases t with
  | nil => rw [show unsign [] = [] from rfl] at hd; simp [digitsN] at hd
  | cons c s =>
    refine ⟨?_, by simp⟩
    have hul : (c :: s).length ≤ (unsign (c :: s)).length + 1 := by rw [show unsign (c :: s) = if c == 43 || c == 45 then s else c :: s from rfl]; split <;> simp
    omega
theorem one_of_kind {t : Bytes} {k : Nat} (h : kindF t = some k) (hk : k ≤ 1) : oneB k t = true := by
  have hl := num_len h hk
  have hg : Good ⟨k, t, 0⟩ := .inr (.inr ⟨hl.2, num_nostop h hk, h⟩)
  have hx := good_lex hg (r := []) (.inl rfl)
  simp only [List.append_nil] at hx
  have hs := lexS_tok hx 0
  rw [List.take_length, List.drop_length, lexS_nil] at hs
  unfold oneB tokRes
  rw [if_neg (by omega), hs]
  simp
theorem kind_of_one {t : Bytes} {k : Nat} (h : oneB k t = true) (hk : k ≤ 1) : kindF t = some k := by
  unfold oneB at h
  split at h
  · rename_i x p hr
    unfold tokRes at hr
    split at hr
    · injection hr with h1 _; cases h1
    · split at hr
      · injection hr with h1 _
        have hg := (lexS_good t.length t 0 (Nat.le_refl _)).1 x (by rw [h1]; simp)
        simp only [Bool.and_eq_true, beq_iff_eq] at h
        obtain ⟨hk1, ht1⟩ := h
        rcases hg with ⟨h3, _⟩ | ⟨h3, _⟩ | ⟨_, _, h3⟩
        · omega
        · omega
        · rw [ht1, hk1] at h3; exact h3
      · injection hr with h1 _; cases h1
  · cases h
theorem one_iff {t : Bytes} {k : Nat} (hk : k ≤ 1) : oneB k t = decide (kindF t = some k) := by
  rw [Bool.eq_iff_iff, decide_eq_true_iff]
  exact ⟨fun h => kind_of_one h hk, fun h => one_of_kind h hk⟩
end Go.Proofs.YthhmahmclkmjpaaDoor
