/- Proved: what a program's steps are, in plain words (progF), and how far they go; for all lists of tokens. -/
import Derived.Test.YthhmahmclkmjpaaDoorTokLaw2
namespace Go.Proofs.YthhmahmclkmjpaaDoor
open Go
/-! The steps of a program, in plain words. A token is its kind and its text; a step is its operator and its number. -/
abbrev KT := Nat × Bytes
abbrev Cd := Nat × Int
/-- The digits of a text, as a number. -/
def decN (l : Bytes) : Nat := l.foldl (fun n c => if digB c then 10 * n + (c.toNat - 48) else n) 0
/-- How many digits stand behind a word's point. -/
def behindN (l : Bytes) : Nat := (l.dropWhile (· != 46)).length - 1
/-- The number of a word of a kind (0: whole, 1: broken). -/
def numV (k : Nat) (t : Bytes) : Int :=
  let n : Int := if t.head? = some 45 then -(decN t : Int) else decN t
  if k = 1 then (2 * (n * 65536) + 10 ^ behindN t) / (2 * 10 ^ behindN t) else n
def numR (k : Nat) (t : Bytes) : Option Int :=
  if k ≤ 1 ∧ kindF t = some k ∧ -2147483648 ≤ numV k t ∧ numV k t ≤ 2147483647 then some (numV k t) else none
/-- The operators' names, as bytes. -/
def opNames : List Bytes := [[97, 98, 115], [97, 100, 100], [97, 110, 100], [97, 116, 97, 110], [98, 105, 116, 115, 104, 105, 102, 116], [99, 101, 105, 108, 105, 110, 103], [99, 111, 112, 121], [99, 111, 115], [99, 118, 105], [99, 118, 114], [100, 105, 118], [100, 117, 112], [101, 113], [101, 120, 99, 104], [101, 120, 112], [102, 108, 111, 111, 114], [103, 101], [103, 116], [105, 100, 105, 118], [105, 110, 100, 101, 120], [108, 101], [108, 110], [108, 111, 103], [108, 116], [109, 111, 100], [109, 117, 108], [110, 101], [110, 101, 103], [110, 111, 116], [111, 114], [112, 111, 112], [114, 111, 108, 108], [114, 111, 117, 110, 100], [115, 105, 110], [115, 113, 114, 116], [115, 117, 98], [116, 114, 117, 110, 99, 97, 116, 101], [120, 111, 114]]
def trueL : Bytes := [116, 114, 117, 101]
def falseL : Bytes := [102, 97, 108, 115, 101]
def ifL : Bytes := [105, 102]
def ifelseL : Bytes := [105, 102, 101, 108, 115, 101]
def opF (t : Bytes) : Option Cd := if t = trueL then some (2, 1) else if t = falseL then some (2, 0) else if t ∈ opNames then some (5 + opNames.idxOf t, 0) else none
/-- Where the reader stands, and the steps so far. -/
structure PS where
  at_ : Nat
  out : List Cd
inductive PR where
  | ok (s : PS)
  | fail (e at_ : Nat)
def isK (L : List KT) (i k : Nat) : Bool := match L[i]? with | some t => t.1 == k | none => false
def isName (L : List KT) (i : Nat) (n : Bytes) : Bool := match L[i]? with | some t => t.1 == 2 && t.2 == n | none => false
def w32 (n : Nat) : Int := IntKind.i32.wrap n
/-- A step's number is another one. -/
def setN (out : List Cd) (u : Nat) (x : Int) : List Cd := match out[u]? with | some c => out.set u (c.1, x) | none => out
theorem setN_len (out : List Cd) (u : Nat) (x : Int) : (setN out u x).length = out.length := by unfold setN; split <;> simp
def blockF (L : List KT) (items : Nat → PS → PR) (deep : Nat) (s : PS) : PR :=
  if isK L s.at_ 3 then (if deep ≤ 16 then items deep ⟨s.at_ + 1, s.out⟩ else .fail 14 s.at_) else .fail 13 s.at_
def choiceF (L : List KT) (items : Nat → PS → PR) (deep : Nat) (s : PS) : PR :=
  match blockF L items deep ⟨s.at_, s.out ++ [(4, 0)]⟩ with
  | .fail e i => .fail e i
  | .ok s1 =>
    if isName L s1.at_ ifL then .ok ⟨s1.at_ + 1, setN s1.out s.out.length (w32 s1.out.length)⟩
    else if isK L s1.at_ 3 then
      match blockF L items deep ⟨s1.at_, setN (s1.out ++ [(3, 0)]) s.out.length (w32 (s1.out.length + 1))⟩ with
      | .fail e i => .fail e i
      | .ok s2 => if isName L s2.at_ ifelseL then .ok ⟨s2.at_ + 1, setN s2.out s1.out.length (w32 s2.out.length)⟩ else .fail 13 s2.at_
    else .fail 13 s1.at_
def itemF (L : List KT) (items : Nat → PS → PR) (deep : Nat) (s : PS) : PR :=
  match L[s.at_]? with
  | none => .fail 13 s.at_
  | some t =>
    if t.1 = 3 then choiceF L items (deep + 1) s
    else if t.1 ≤ 1 then (match numR t.1 t.2 with | some n => .ok ⟨s.at_ + 1, s.out ++ [(t.1, n)]⟩ | none => .fail 13 s.at_)
    else match opF t.2 with
      | some c => if t.1 = 2 then .ok ⟨s.at_ + 1, s.out ++ [c]⟩ else .fail 13 s.at_
      | none => .fail 13 s.at_
/-- The items of a block up to its end, and that end. -/
def itemsF (L : List KT) : Nat → Nat → PS → PR
  | 0, _, s => .fail 13 s.at_
  | f + 1, deep, s =>
    if isK L s.at_ 4 then .ok ⟨s.at_ + 1, s.out⟩
    else match itemF L (itemsF L f) deep s with
      | .fail e i => .fail e i
      | .ok s' => itemsF L f deep s'
/-- The chapter's answer: steps, place, error. -/
def progF (L : List KT) : List Cd × Nat × Nat :=
  match blockF L (itemsF L (L.length + 1)) 1 ⟨0, []⟩ with
  | .fail e i => ([], i, e)
  | .ok s => if s.at_ = L.length then (if s.out.length ≤ 1024 then (s.out, s.at_, 0) else ([], s.at_, 3)) else ([], s.at_, 13)
/-! How far it goes. -/
theorem isK_lt {L : List KT} {i k : Nat} (h : isK L i k = true) : i < L.length := by
  unfold isK at h
  split at h
  · rename_i t ht; exact (List.getElem?_eq_some_iff.1 ht).1
  · cases h
theorem isName_lt {L : List KT} {i : Nat} {n : Bytes} (h : isName L i n = true) : i < L.length := by
  unfold isName at h
  split at h
  · rename_i t ht; exact (List.getElem?_eq_some_iff.1 ht).1
  · cases h
/-- What a step forward has: it goes on, within the tokens; steps are added, fewer than tokens by d at least. -/
def Fwd (L : List KT) (d : Nat) (s s' : PS) : Prop := s.at_ + 1 ≤ s'.at_ ∧ s'.at_ ≤ L.length ∧ s.out.length ≤ s'.out.length ∧ s'.out.length + s.at_ + d ≤ s'.at_ + s.out.length
theorem blockF_fwd {L : List KT} {items : Nat → PS → PR} (h : ∀ d s s', items d s = .ok s' → Fwd L 1 s s') {deep : Nat} {s s' : PS} (hb : blockF L items deep s = .ok s') : Fwd L 2 s s' := by
  unfold blockF at hb
  split at hb
  · split at hb
    · have := h _ _ _ hb
      unfold Fwd at *
      simp only at this
      omega
    · cases hb
  · cases hb
theorem choiceF_fwd {L : List KT} {items : Nat → PS → PR} (h : ∀ d s s', items d s = .ok s' → Fwd L 1 s s') {deep : Nat} {s s' : PS} (hb : choiceF L items deep s = .ok s') : Fwd L 2 s s' := by
  unfold choiceF at hb
  split at hb
  · cases hb
  · rename_i s1 h1
    have f1 := blockF_fwd h h1
    split at hb
    · rename_i hn
      have := isName_lt hn
      injection hb with hb
      subst hb
      unfold Fwd at *
      simp only [List.length_append, List.length_singleton, setN_len] at *
      omega
    · split at hb
      · split at hb
        · cases hb
        · rename_i s2 h2
          have f2 := blockF_fwd h h2
          split at hb
          · rename_i hn
            have := isName_lt hn
            injection hb with hb
            subst hb
            unfold Fwd at *
            simp only [List.length_append, List.length_singleton, setN_len] at *
            omega
          · cases hb
      · cases hb
theorem itemF_fwd {L : List KT} {items : Nat → PS → PR} (h : ∀ d s s', items d s = .ok s' → Fwd L 1 s s') {deep : Nat} {s s' : PS} (hb : itemF L items deep s = .ok s') : Fwd L 0 s s' := by
  unfold itemF at hb
  split at hb
  · cases hb
  · rename_i t ht
    have hlt := (List.getElem?_eq_some_iff.1 ht).1
    split at hb
    · have := choiceF_fwd h hb
      unfold Fwd at *; omega
    · split at hb
      · split at hb
        · injection hb with hb
          subst hb
          unfold Fwd; simp only [List.length_append, List.length_singleton]; omega
        · cases hb
      · split at hb
        · split at hb
          · injection hb with hb
            subst hb
            unfold Fwd; simp only [List.length_append, List.length_singleton]; omega
          · cases hb
        · cases hb
theorem itemsF_fwd {L : List KT} : ∀ (f d : Nat) (s s' : PS), itemsF L f d s = .ok s' → Fwd L 1 s s'
  | 0, _, _, _, h => by cases h
  | f + 1, d, s, s', h => by
    unfold itemsF at h
    split at h
    · rename_i hk
      have := isK_lt hk
      injection h with h
      subst h
      unfold Fwd; simp only; omega
    · split at h
      · cases h
      · rename_i s1 h1
        have f1 := itemF_fwd (itemsF_fwd f) h1
        have f2 := itemsF_fwd f _ _ _ h
        unfold Fwd at *; omega
end Go.Proofs.YthhmahmclkmjpaaDoor
