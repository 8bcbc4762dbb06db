/- Proved: what a text's tokens are, in plain words (lexS, tokRes), and first laws of it; for all texts. -/
import Derived.Lib.IndexAny
import Derived.Lib.IndexMore
import Derived.Lib.SlTrimSet
import Derived.Lib.IndexLaws
namespace Go.Proofs.YthhmahmclkmjpaaDoor
abbrev Bytes := List UInt8
theorem forall_u8 (p : UInt8 → Bool) (h : (List.range 256).all (fun n => p (UInt8.ofNat n)) = true) (c : UInt8) : p c = true := by
  have h1 := List.all_eq_true.1 h c.toNat (List.mem_range.2 c.toNat_lt)
  simpa using h1
def eolB (c : UInt8) : Bool := c == 10 || c == 13
def whtB (c : UInt8) : Bool := c == 0 || c == 9 || c == 10 || c == 12 || c == 13 || c == 32
def stopB (c : UInt8) : Bool := whtB c || c == 37 || c == 123 || c == 125
def letB (c : UInt8) : Bool := (decide (97 ≤ c.toNat) && decide (c.toNat ≤ 122)) || (decide (65 ≤ c.toNat) && decide (c.toNat ≤ 90))
def digB (c : UInt8) : Bool := decide (48 ≤ c.toNat) && decide (c.toNat ≤ 57)
def whiteL : Bytes := [0, 9, 10, 12, 13, 32]
def stopL : Bytes := [0, 9, 10, 12, 13, 32, 37, 123, 125]
def letterL : Bytes := [97, 98, 99, 100, 101, 102, 103, 104, 105, 106, 107, 108, 109, 110, 111, 112, 113, 114, 115, 116, 117, 118, 119, 120, 121, 122, 65, 66, 67, 68, 69, 70, 71, 72, 73, 74, 75, 76, 77, 78, 79, 80, 81, 82, 83, 84, 85, 86, 87, 88, 89, 90]
def digitL : Bytes := [48, 49, 50, 51, 52, 53, 54, 55, 56, 57]
theorem eol_has (c : UInt8) : [10, 13].contains c = eolB c := by simpa using forall_u8 (fun c => [10, 13].contains c == eolB c) (by decide +kernel) c
theorem white_has (c : UInt8) : whiteL.contains c = whtB c := by simpa using forall_u8 (fun c => whiteL.contains c == whtB c) (by decide +kernel) c
theorem stop_has (c : UInt8) : stopL.contains c = stopB c := by simpa using forall_u8 (fun c => stopL.contains c == stopB c) (by decide +kernel) c
theorem letter_has (c : UInt8) : letterL.contains c = letB c := by simpa using forall_u8 (fun c => letterL.contains c == letB c) (by decide +kernel) c
theorem digit_has (c : UInt8) : digitL.contains c = digB c := by simpa using forall_u8 (fun c => digitL.contains c == digB c) (by decide +kernel) c
/-- How many bytes stand ahead of the first one of a kind. -/
def spanN (p : UInt8 → Bool) (l : Bytes) : Nat := (l.takeWhile (fun b => !p b)).length
theorem spanN_le (p : UInt8 → Bool) (l : Bytes) : spanN p l ≤ l.length := (List.takeWhile_prefix _).length_le
theorem spanN_nil (p : UInt8 → Bool) : spanN p [] = 0 := rfl
theorem spanN_cons (p : UInt8 → Bool) (c : UInt8) (t : Bytes) : spanN p (c :: t) = if p c then 0 else spanN p t + 1 := by
  unfold spanN; rw [List.takeWhile_cons]; cases p c <;> simp
theorem indexAny_span (cs : Bytes) (p : UInt8 → Bool) (hp : ∀ c, cs.contains c = p c) : ∀ l : Bytes, Lib.indexAny l cs = if spanN p l < l.length then (spanN p l : Int) else -1
  | [] => rfl
  | b :: l => by
    have ih := indexAny_span cs p hp l
    rw [Lib.indexAny, hp, ih, spanN_cons]
    cases p b
    · simp only [Bool.false_eq_true, if_false, List.length_cons, Nat.add_lt_add_iff_right]
      by_cases h : spanN p l < l.length
      · have h0 : ((spanN p l : Int) == -1) = false := by rw [beq_eq_false_iff_ne]; omega
        simp [h, h0]
      · simp [h]
    · simp
/-- A sign ahead of a number is taken off. -/
def unsign : Bytes → Bytes
  | [] => []
  | c :: t => if c == 43 || c == 45 then t else c :: t
def digitsN (l : Bytes) : Nat := l.countP digB
def pointsN (l : Bytes) : Nat := l.countP (· == 46)
def numB (l : Bytes) : Bool := l.all (fun c => digB c || c == 46)
/-- A number's kind: 0 whole, 1 broken. -/
def numF (u : Bytes) : Option Nat :=
  if numB u = true ∧ pointsN u ≤ 1 ∧ 1 ≤ digitsN u then
    if pointsN u = 0 then (if digitsN u ≤ 10 then some 0 else none) else (if digitsN u ≤ 18 then some 1 else none)
  else none
/-- A word's kind. -/
def kindF (w : Bytes) : Option Nat := if w.all letB then (if w = [] then none else some 2) else numF (unsign w)
theorem dropWhile_nil {p : UInt8 → Bool} : ∀ {l : Bytes}, l.dropWhile p = [] ↔ ∀ x ∈ l, p x = true
  | [] => by simp
  | a :: l => by
    rw [List.dropWhile_cons]
    by_cases h : p a = true
    · rw [if_pos h, dropWhile_nil]; simp [h]
    · rw [if_neg h]; simp [h]
theorem trimS_nil (l cs : Bytes) : Lib.trimS l cs = [] ↔ l.all cs.contains = true := by
  unfold Lib.trimS Lib.trimLeftS Lib.trimRightS
  rw [List.all_eq_true]
  constructor
  · intro h
    rw [dropWhile_nil] at h
    by_cases hd : l.reverse.dropWhile (cs.contains ·) = []
    · rw [dropWhile_nil] at hd
      intro x hx
      exact hd x (List.mem_reverse.2 hx)
    · exfalso
      have h1 := List.head_dropWhile_not (p := (cs.contains ·)) (l := l.reverse) hd
      have h2 := h _ (List.mem_reverse.2 (List.head_mem hd))
      rw [h2] at h1; cases h1
  · intro h
    have hd : l.reverse.dropWhile (cs.contains ·) = [] := by
      rw [dropWhile_nil]
      intro x hx
      exact h x (List.mem_reverse.1 hx)
    rw [hd]; rfl
theorem all_has (cs : Bytes) (p : UInt8 → Bool) (hp : ∀ c, cs.contains c = p c) (l : Bytes) : l.all cs.contains = l.all p := by
  congr 1; funext c; exact hp c
/-- A token. -/
structure Tok where
  k : Nat
  t : Bytes
  pos : Nat
deriving DecidableEq
inductive Lx
  | skip (n : Nat)
  | tok (k n : Nat)
  | bad
/-- What stands first in a text. -/
def lex1 : Bytes → Lx
  | [] => .skip 0
  | c :: t =>
    if c = 37 then .skip (spanN eolB (c :: t))
    else if whtB c = true then .skip 1
    else if c = 125 then .tok 4 1
    else if c = 123 then .tok 3 1
    else match kindF ((c :: t).take (spanN stopB (c :: t))) with
      | some k => .tok k (spanN stopB (c :: t))
      | none => .bad
def lexR : Nat → Bytes → Nat → List Tok × Nat × Bool
  | 0, _, pos => ([], pos, true)
  | _ + 1, [], pos => ([], pos, true)
  | f + 1, c :: t, pos => match lex1 (c :: t) with
    | .skip n => lexR f ((c :: t).drop n) (pos + n)
    | .tok k n => (⟨k, (c :: t).take n, pos⟩ :: (lexR f ((c :: t).drop n) (pos + n)).1, (lexR f ((c :: t).drop n) (pos + n)).2)
    | .bad => ([], pos, false)
def lexS (l : Bytes) (pos : Nat) : List Tok × Nat × Bool := lexR l.length l pos
theorem stop_37 : stopB 37 = true := by decide
theorem span_stop_pos {c : UInt8} {t : Bytes} (h1 : c ≠ 37) (h2 : whtB c = false) (h3 : c ≠ 125) (h4 : c ≠ 123) : 1 ≤ spanN stopB (c :: t) := by
  have : stopB c = false := by simp [stopB, h1, h2, h3, h4]
  rw [spanN_cons, this]; simp
theorem lex1_skip {c : UInt8} {t : Bytes} {n : Nat} (h : lex1 (c :: t) = .skip n) : 1 ≤ n ∧ n ≤ (c :: t).length := by
  simp only [lex1] at h
  split at h
  · rename_i h0
    injection h with h; subst h0 h
    refine ⟨?_, spanN_le _ _⟩
    rw [spanN_cons, if_neg (by decide)]; omega
  · split at h
    · injection h with h; subst h; simp
    · split at h
      · cases h
      · split at h
        · cases h
        · split at h <;> cases h
theorem lex1_tok {c : UInt8} {t : Bytes} {k n : Nat} (h : lex1 (c :: t) = .tok k n) : 1 ≤ n ∧ n ≤ (c :: t).length := by
  simp only [lex1] at h
  split at h
  · cases h
  · rename_i h1
    split at h
    · cases h
    · rename_i h2
      split at h
      · injection h with _ h; subst h; simp
      · rename_i h3
        split at h
        · injection h with _ h; subst h; simp
        · rename_i h4
          split at h
          · injection h with _ h; subst h
            exact ⟨span_stop_pos h1 (by simpa using h2) h3 h4, spanN_le _ _⟩
          · cases h
theorem lexR_fuel : ∀ (f : Nat) (l : Bytes) (pos : Nat), l.length ≤ f → lexR f l pos = lexR l.length l pos := by
  intro f
  induction f using Nat.strongRecOn with
  | _ f ih =>
    intro l pos hl
    cases l with
    | nil => cases f <;> rfl
    | cons c t =>
      cases f with
      | zero => simp at hl
      | succ f =>
        simp only [List.length_cons] at hl ⊢
        simp only [lexR]
        cases hx : lex1 (c :: t) with
        | bad => rfl
        | skip n =>
          obtain ⟨h1, h2⟩ := lex1_skip hx
          simp only [List.length_cons] at h2
          have hd : ((c :: t).drop n).length ≤ t.length := by simp only [List.length_drop, List.length_cons]; omega
          simp only
          rw [ih f (by omega) _ _ (by omega)]
          by_cases hft : t.length = f
          · subst hft; rw [ih t.length (by omega) _ _ hd]
          · rw [ih t.length (by omega) _ _ hd]
        | tok k n =>
          obtain ⟨h1, h2⟩ := lex1_tok hx
          simp only [List.length_cons] at h2
          have hd : ((c :: t).drop n).length ≤ t.length := by simp only [List.length_drop, List.length_cons]; omega
          simp only
          rw [ih f (by omega) _ _ (by omega)]
          rw [ih t.length (by omega) _ _ hd]
theorem lexS_nil (pos : Nat) : lexS [] pos = ([], pos, true) := rfl
theorem lexS_skip {l : Bytes} {n : Nat} (h : lex1 l = .skip n) (h0 : l ≠ []) (pos : Nat) : lexS l pos = lexS (l.drop n) (pos + n) := by
  cases l with
  | nil => exact absurd rfl h0
  | cons c t =>
    obtain ⟨h1, h2⟩ := lex1_skip h
    unfold lexS
    simp only [List.length_cons, lexR, h]
    rw [lexR_fuel t.length _ _ (by simp only [List.length_drop, List.length_cons]; omega)]
theorem lexS_tok {l : Bytes} {k n : Nat} (h : lex1 l = .tok k n) (pos : Nat) : lexS l pos = (⟨k, l.take n, pos⟩ :: (lexS (l.drop n) (pos + n)).1, (lexS (l.drop n) (pos + n)).2) := by
  cases l with
  | nil => cases h
  | cons c t =>
    obtain ⟨h1, h2⟩ := lex1_tok h
    unfold lexS
    simp only [List.length_cons, lexR, h]
    rw [lexR_fuel t.length _ _ (by simp only [List.length_drop, List.length_cons]; omega)]
theorem lexS_bad {l : Bytes} (h : lex1 l = .bad) (pos : Nat) : lexS l pos = ([], pos, false) := by
  cases l with
  | nil => cases h
  | cons c t => unfold lexS; simp only [List.length_cons, lexR, h]
/-- The chapter's answer. -/
def tokRes (l : Bytes) : List Tok × Nat × Nat :=
  if 4096 < l.length then ([], 0, 3) else if (lexS l 0).2.2 = true then ((lexS l 0).1, (lexS l 0).2.1, 0) else ([], (lexS l 0).2.1, 13)
theorem lexS_end : ∀ (n : Nat) (l : Bytes) (pos : Nat), l.length ≤ n → (lexS l pos).2.2 = true → (lexS l pos).2.1 = pos + l.length := by
  intro n
  induction n with
  | zero => intro l pos hl _; obtain rfl := List.eq_nil_of_length_eq_zero (Nat.le_zero.1 hl); rfl
  | succ n ih =>
    intro l pos hl h
    cases hx : lex1 l with
    | bad => rw [lexS_bad hx] at h; cases h
    | skip m =>
      cases l with
      | nil => rfl
      | cons c t =>
        obtain ⟨h1, h2⟩ := lex1_skip hx
        rw [lexS_skip hx (by simp)] at h ⊢
        rw [ih _ _ (by simp only [List.length_drop]; omega) h]
        simp only [List.length_drop]; omega
    | tok k m =>
      cases l with
      | nil => cases hx
      | cons c t =>
        obtain ⟨h1, h2⟩ := lex1_tok hx
        rw [lexS_tok hx] at h ⊢
        rw [ih _ _ (by simp only [List.length_drop]; omega) h]
        simp only [List.length_drop]; omega
end Go.Proofs.YthhmahmclkmjpaaDoor
