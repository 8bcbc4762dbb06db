/- Proved: the plain laws of signs and noughts of a number's word; for all words of digits. -/
import Derived.Test.YthhmahmclkmjpaaDoorNumLaw2
namespace Go.Proofs.YthhmahmclkmjpaaDoor
open Go
/-! The numbers of words that are made of digits. -/
def valD (D : Bytes) : Nat := D.foldl dstep 0
structure Dg (D : Bytes) (n : Nat) : Prop where
  all : ∀ x ∈ D, digB x = true
  pos : 1 ≤ D.length
  le : D.length ≤ 10
  val : valD D = n
theorem dig_let {c : UInt8} (h : digB c = true) : letB c = false ∧ (c == 43 || c == 45) = false ∧ (c == 46) = false := by
  have := forall_u8 (fun c => !digB c || (!letB c && !(c == 43 || c == 45) && !(c == 46))) (by decide +kernel) c
  rw [h] at this
  simp at this
  simp [this]
theorem Dg.cons {D : Bytes} {n : Nat} (h : Dg D n) : ∃ c s, D = c :: s ∧ digB c = true := by
  cases D with
  | nil => have := h.pos; simp at this
  | cons c s => exact ⟨c, s, rfl, h.all c (by simp)⟩
theorem count_dig {D : Bytes} (h : ∀ x ∈ D, digB x = true) : digitsN D = D.length ∧ pointsN D = 0 ∧ numB D = true := digits_all D (List.all_eq_true.2 h)
/-- A word's sign and digits and the end behind its point. -/
theorem kind_word {D E : Bytes} {n : Nat} (h : Dg D n) (hE : E = [] ∨ ∃ e, E = 46 :: e ∧ (∀ x ∈ e, digB x = true) ∧ e.length ≤ 2) (sg : Bytes) (hs : sg = [] ∨ sg = [43] ∨ sg = [45]) :
    kindF (sg ++ D ++ E) = some (if E = [] then 0 else 1) := by
  obtain ⟨c, s, rfl, hc⟩ := h.cons
  have hun : unsign (sg ++ (c :: s) ++ E) = (c :: s) ++ E := by
    rcases hs with rfl | rfl | rfl
    · show (if (c == 43 || c == 45) = true then s ++ E else c :: (s ++ E)) = _
      rw [(dig_let hc).2.1]; rfl
    · rfl
    · rfl
  have hlet : (sg ++ (c :: s) ++ E).all letB = false := by
    rcases hs with rfl | rfl | rfl
    · simp [(dig_let hc).1]
    · rw [show ([43] ++ (c :: s) ++ E) = 43 :: ((c :: s) ++ E) from rfl, List.all_cons, show letB 43 = false by decide, Bool.false_and]
    · rw [show ([45] ++ (c :: s) ++ E) = 45 :: ((c :: s) ++ E) from rfl, List.all_cons, show letB 45 = false by decide, Bool.false_and]
  obtain ⟨d1, d2, d3⟩ := count_dig h.all
  have hle := h.le
  have hpos := h.pos
  unfold kindF
  rw [hlet, hun]
  simp only [Bool.false_eq_true, if_false]
  unfold numF
  rcases hE with rfl | ⟨e, rfl, he, hel⟩
  · rw [List.append_nil, if_pos ⟨d3, by omega, by omega⟩, if_pos d2, if_pos (by omega), if_pos rfl]
  · obtain ⟨e1, e2, e3⟩ := count_dig he
    have b1 : numB ((c :: s) ++ 46 :: e) = true := by
      unfold numB at d3 e3 ⊢
      rw [List.all_append, d3, List.all_cons, e3]; rfl
    have b2 : pointsN ((c :: s) ++ 46 :: e) = 1 := by
      unfold pointsN at d2 e2 ⊢
      rw [List.countP_append, d2, List.countP_cons, e2]; rfl
    have b3 : digitsN ((c :: s) ++ 46 :: e) = (c :: s).length + e.length := by
      unfold digitsN at d1 e1 ⊢
      rw [List.countP_append, d1, List.countP_cons, e1]; rfl
    rw [if_pos ⟨b1, by omega, by omega⟩, if_neg (by omega), if_pos (by omega), if_neg (by simp)]
theorem dec_word {D E : Bytes} {n : Nat} (h : Dg D n) (sg : Bytes) (hs : sg = [] ∨ sg = [43] ∨ sg = [45]) : decN (sg ++ D ++ E) = E.foldl dstep n := by
  rw [decN_eq, List.foldl_append, List.foldl_append]
  have : sg.foldl dstep 0 = 0 := by rcases hs with rfl | rfl | rfl <;> decide
  rw [this]
  show E.foldl dstep (valD D) = _
  rw [h.val]
theorem behind_word {D : Bytes} {n : Nat} (h : Dg D n) (e sg : Bytes) (hs : sg = [] ∨ sg = [43] ∨ sg = [45]) : behindN (sg ++ D ++ 46 :: e) = e.length := by
  unfold behindN
  have hd : (sg ++ D ++ 46 :: e).dropWhile (· != 46) = 46 :: e := by
    rw [List.dropWhile_append_of_pos]
    · rfl
    · intro x hx
      rcases List.mem_append.1 hx with hx | hx
      · rcases hs with rfl | rfl | rfl <;> simp at hx <;> subst hx <;> decide
      · have := (dig_let (h.all x hx)).2.2
        simpa using this
  rw [hd]; simp
theorem head_word {D E : Bytes} {n : Nat} (h : Dg D n) (sg : Bytes) (hs : sg = [] ∨ sg = [43] ∨ sg = [45]) : ((sg ++ D ++ E).head? = some 45) ↔ sg = [45] := by
  obtain ⟨c, s, rfl, hc⟩ := h.cons
  rcases hs with rfl | rfl | rfl
  · have := (dig_let hc).2.1
    simp at this ⊢
    exact this.2
  · simp
  · simp
/-- What a word of digits tells. -/
def sgnX (sg : Bytes) (x : Int) : Int := if sg = [45] then -x else x
theorem val_whole {D : Bytes} {n : Nat} (h : Dg D n) (sg : Bytes) (hs : sg = [] ∨ sg = [43] ∨ sg = [45]) : numV 0 (sg ++ D ++ []) = sgnX sg n := by
  unfold numV sgnX
  rw [dec_word h sg hs]
  simp only [head_word h sg hs, List.foldl_nil]
  simp
theorem val_half {D : Bytes} {n : Nat} (h : Dg D n) (sg : Bytes) (hs : sg = [] ∨ sg = [43] ∨ sg = [45]) : numV 1 (sg ++ D ++ [46, 53]) = sgnX sg ((2 * n + 1) * 32768) := by
  unfold numV sgnX
  rw [dec_word h sg hs, behind_word h [53] sg hs]
  simp only [head_word h sg hs]
  have : [46, 53].foldl dstep n = 10 * n + 5 := by simp [dstep, show digB 46 = false by decide, show digB 53 = true by decide]
  rw [this]
  simp only [List.length_singleton, Nat.pow_one, if_true]
  split <;> omega
theorem val_half0 {D : Bytes} {n : Nat} (h : Dg D n) : numV 1 ([] ++ D ++ [46, 53, 48]) = (2 * n + 1) * 32768 := by
  unfold numV
  rw [dec_word h [] (.inl rfl), behind_word h [53, 48] [] (.inl rfl)]
  simp only [head_word h [] (.inl rfl)]
  have : [46, 53, 48].foldl dstep n = 100 * n + 50 := by simp [dstep, show digB 46 = false by decide, show digB 53 = true by decide, show digB 48 = true by decide]; omega
  rw [this]
  have h2 : ([53, 48] : Bytes).length = 2 := rfl
  rw [h2]
  simp
  omega
def numE (k : Nat) (t : Bytes) : Int × Int := match numR k t with | some n => (n, 0) | none => (0, 13)
def fitE (x : Int) : Int × Int := if -2147483648 ≤ x ∧ x ≤ 2147483647 then (x, 0) else (0, 13)
theorem numE_of {k : Nat} {t : Bytes} (hk : k ≤ 1) (h : kindF t = some k) : numE k t = fitE (numV k t) := by
  unfold numE numR fitE
  by_cases hr : -2147483648 ≤ numV k t ∧ numV k t ≤ 2147483647
  · rw [if_pos ⟨hk, h, hr⟩, if_pos hr]
  · rw [if_neg (fun e => hr e.2.2), if_neg hr]
/-- The four words of a statement: all told alike, but for the minus. -/
theorem sign_whole {D D' : Bytes} {n : Nat} (h : Dg D n) (h' : Dg D' n) : numE 0 D = fitE n ∧ numE 0 D' = fitE n ∧ numE 0 (45 :: D) = fitE (-n) ∧ numE 0 (43 :: D) = fitE n := by
  have f : ∀ (sg D : Bytes), Dg D n → (sg = [] ∨ sg = [43] ∨ sg = [45]) → numE 0 (sg ++ D ++ []) = fitE (sgnX sg n) := fun sg D h hs => by
    rw [numE_of (by omega) (by rw [kind_word h (.inl rfl) sg hs]; rfl), val_whole h sg hs]
  refine ⟨?_, ?_, ?_, ?_⟩
  · have := f [] D h (.inl rfl); simpa [sgnX] using this
  · have := f [] D' h' (.inl rfl); simpa [sgnX] using this
  · have := f [45] D h (.inr (.inr rfl)); simpa [sgnX] using this
  · have := f [43] D h (.inr (.inl rfl)); simpa [sgnX] using this
theorem sign_half {D D' : Bytes} {n : Nat} (h : Dg D n) (h' : Dg D' n) : numE 1 (D ++ [46, 53]) = fitE ((2 * n + 1) * 32768) ∧ numE 1 (D' ++ [46, 53, 48]) = fitE ((2 * n + 1) * 32768) ∧ numE 1 (45 :: (D ++ [46, 53])) = fitE (-((2 * n + 1) * 32768)) ∧ numE 1 (43 :: (D ++ [46, 53])) = fitE ((2 * n + 1) * 32768) := by
  have f : ∀ (sg D : Bytes), Dg D n → (sg = [] ∨ sg = [43] ∨ sg = [45]) → numE 1 (sg ++ D ++ [46, 53]) = fitE (sgnX sg ((2 * n + 1) * 32768)) := fun sg D h hs => by
    rw [numE_of (by omega) (by rw [kind_word h (.inr ⟨[53], rfl, by decide, by decide⟩) sg hs]; rfl), val_half h sg hs]
  refine ⟨?_, ?_, ?_, ?_⟩
  · have := f [] D h (.inl rfl); simpa [sgnX] using this
  · have hk := kind_word h' (.inr ⟨[53, 48], rfl, by decide, by decide⟩) [] (.inl rfl)
    rw [show D' ++ [46, 53, 48] = [] ++ D' ++ [46, 53, 48] from rfl, numE_of (by omega) (by rw [hk]; rfl), val_half0 h']
  · have := f [45] D h (.inr (.inr rfl)); simpa [sgnX] using this
  · have := f [43] D h (.inr (.inl rfl)); simpa [sgnX] using this
theorem fit_neg {x : Int} (h0 : 0 ≤ x) (h : (fitE x).2 = 0) : (fitE (-x)).2 = 0 ∧ (fitE (-x)).1 = -(fitE x).1 ∧ (fitE x).1 = x ∧ x ≤ 2147483647 := by
  unfold fitE at *
  split at h
  · rename_i hx
    rw [if_pos (by omega), if_pos hx]
    exact ⟨rfl, rfl, rfl, hx.2⟩
  · cases h
/-- Digits, one by one, from the last. -/
def digC (d : Nat) : UInt8 := UInt8.ofNat (48 + d)
theorem digC_dig {d : Nat} (h : d < 10) : digB (digC d) = true ∧ (digC d).toNat - 48 = d := by
  have : ∀ d : Fin 10, digB (digC d.1) = true ∧ (digC d.1).toNat - 48 = d.1 := by decide +kernel
  exact this ⟨d, h⟩
theorem fold_all : ∀ (S : Bytes) (a : Nat), (∀ x ∈ S, digB x = true) → S.foldl dstep a = a * 10 ^ S.length + valD S
  | [], a, _ => by simp [valD]
  | c :: s, a, h => by
    have h1 := fold_all s (dstep a c) (fun x hx => h x (by simp [hx]))
    have h2 := fold_all s (dstep 0 c) (fun x hx => h x (by simp [hx]))
    have hc := h c (by simp)
    have d1 : dstep a c = 10 * a + (c.toNat - 48) := by unfold dstep; rw [if_pos hc]
    have d0 : dstep 0 c = c.toNat - 48 := by unfold dstep; rw [if_pos hc]; omega
    have hv : valD (c :: s) = (c.toNat - 48) * 10 ^ s.length + valD s := by
      rw [← d0, ← h2]; rfl
    rw [List.foldl_cons, h1, hv, d1, List.length_cons, Nat.pow_succ, Nat.add_mul, Nat.mul_comm 10 a, Nat.mul_assoc, Nat.mul_comm 10 (10 ^ s.length)]
    omega
theorem val_cons {d : Nat} (hd : d < 10) {S : Bytes} (h : ∀ x ∈ S, digB x = true) : valD (digC d :: S) = d * 10 ^ S.length + valD S := by
  have d0 : dstep 0 (digC d) = d := by unfold dstep; rw [if_pos (digC_dig hd).1, (digC_dig hd).2]; omega
  have e : valD (digC d :: S) = S.foldl dstep (dstep 0 (digC d)) := rfl
  rw [e, fold_all S _ h, d0]
/-- How far the digits of a number have come. -/
structure Dgs (n m : Nat) (S : Bytes) : Prop where
  all : ∀ x ∈ S, digB x = true
  val : n = m * 10 ^ S.length + valD S
  le : S.length ≤ 10
theorem Dgs.step {n m : Nat} {S : Bytes} (h : Dgs n m S) (hn : n < 4294967296) (hm : 0 < m ∨ S = []) : Dgs n (m / 10) (digC (m % 10) :: S) := by
  have hlt := Nat.mod_lt m (show 10 > 0 by omega)
  refine ⟨fun x hx => ?_, ?_, ?_⟩
  · rcases List.mem_cons.1 hx with rfl | hx
    · exact (digC_dig hlt).1
    · exact h.all x hx
  · rw [val_cons hlt h.all, List.length_cons, Nat.pow_succ, h.val]
    have := Nat.div_add_mod m 10
    generalize 10 ^ S.length = P at *
    have e : m * P = m / 10 * (P * 10) + m % 10 * P := by
      have e2 : m * P = (10 * (m / 10) + m % 10) * P := by rw [this]
      rw [e2, Nat.add_mul, Nat.mul_comm P 10, ← Nat.mul_assoc, Nat.mul_comm (m / 10) 10]
    omega
  · rcases hm with hm | rfl
    · rw [List.length_cons]
      rcases Nat.lt_or_ge S.length 10 with h10 | h10
      · omega
      · exfalso
        have h1 : 10 ^ 10 ≤ 10 ^ S.length := Nat.pow_le_pow_right (by omega) h10
        have h2 : 1 * 10 ^ S.length ≤ m * 10 ^ S.length := Nat.mul_le_mul_right _ hm
        have := h.val
        omega
    · simp
theorem Dgs.done {n : Nat} {S : Bytes} (h : Dgs n 0 S) (h0 : S ≠ []) : Dg S n := by
  refine ⟨h.all, ?_, h.le, ?_⟩
  · cases S with
    | nil => exact absurd rfl h0
    | cons _ _ => simp
  · have := h.val; omega
theorem Dg.nought {D : Bytes} {n : Nat} (h : Dg D n) (h10 : D.length < 10) : Dg (48 :: D) n := by
  refine ⟨fun x hx => ?_, by simp, by simp; omega, ?_⟩
  · rcases List.mem_cons.1 hx with rfl | hx
    · decide
    · exact h.all x hx
  · have := h.val
    unfold valD at *
    rw [List.foldl_cons]
    exact this
end Go.Proofs.YthhmahmclkmjpaaDoor
