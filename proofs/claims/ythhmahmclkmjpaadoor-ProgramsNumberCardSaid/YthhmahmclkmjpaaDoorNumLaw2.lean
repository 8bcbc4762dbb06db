/- Proved: the plain laws of the digits of a number's word; for numbers' words. -/
import Derived.Test.YthhmahmclkmjpaaDoorNumLaw
import Derived.Lib.SlTrimSet
import Derived.Lib.Strings
namespace Go.Proofs.YthhmahmclkmjpaaDoor
open Go
/-! The digits of a number's word. -/
def digL (t : Bytes) : Bytes := Lib.trimLeftS (ahead t) [43, 45] ++ behind t
def dstep (n : Nat) (c : UInt8) : Nat := if digB c then 10 * n + (c.toNat - 48) else n
theorem decN_eq (l : Bytes) : decN l = l.foldl dstep 0 := rfl
theorem ahead_cons {c : UInt8} {t : Bytes} (h : c ≠ 46) : ahead (c :: t) = c :: ahead t ∧ behind (c :: t) = behind t := by
  have : (c == 46) = false := by simp [h]
  unfold ahead behind
  rw [spanN_cons, this]
  simp
theorem ahead_point (t : Bytes) : ahead (46 :: t) = [] ∧ behind (46 :: t) = t := by
  unfold ahead behind
  rw [spanN_cons]
  simp
theorem sign_ne {c : UInt8} (h : (c == 43 || c == 45) = true) : c ≠ 46 ∧ digB c = false := by
  have := forall_u8 (fun c => !(c == 43 || c == 45) || (!(c == 46) && !digB c)) (by decide +kernel) c
  rw [h] at this
  simpa using this
theorem num_nosign {c : UInt8} (h : (digB c || c == 46) = true) : [43, 45].contains c = false := by
  have := forall_u8 (fun c => !(digB c || c == 46) || !([43, 45].contains c)) (by decide +kernel) c
  rw [h] at this
  simpa using this
theorem sign_has {c : UInt8} (h : (c == 43 || c == 45) = true) : [43, 45].contains c = true := by
  have := forall_u8 (fun c => !(c == 43 || c == 45) || ([43, 45].contains c)) (by decide +kernel) c
  rw [h] at this
  simpa using this
theorem trim_num {l : Bytes} (h : ∀ x ∈ l, (digB x || x == 46) = true) : Lib.trimLeftS l [43, 45] = l := by
  unfold Lib.trimLeftS
  cases l with
  | nil => rfl
  | cons c s => rw [List.dropWhile_cons, num_nosign (h c (by simp))]; rfl
theorem ahead_sub (u : Bytes) : ∀ x ∈ ahead u, x ∈ u := fun _ h => List.mem_of_mem_take h
theorem digL_eq {t : Bytes} {k : Nat} (h : kindF t = some k) (hk : k ≤ 1) : digL t = ahead (unsign t) ++ behind (unsign t) := by
  have hn := (numF_parts (kind_num h hk)).1
  unfold numB at hn
  rw [List.all_eq_true] at hn
  cases t with
  | nil => rfl
  | cons c s =>
    rw [show unsign (c :: s) = if c == 43 || c == 45 then s else c :: s from rfl] at hn ⊢
    unfold digL
    by_cases hc : (c == 43 || c == 45) = true
    · rw [if_pos hc] at hn ⊢
      rw [(ahead_cons (sign_ne hc).1).1, (ahead_cons (sign_ne hc).1).2]
      congr 1
      unfold Lib.trimLeftS
      rw [List.dropWhile_cons, sign_has hc, if_pos rfl]
      exact trim_num (fun x hx => hn x (ahead_sub _ x hx))
    · rw [if_neg hc] at hn ⊢
      rw [trim_num (fun x hx => hn x (ahead_sub _ x hx))]
theorem digL_all {t : Bytes} {k : Nat} (h : kindF t = some k) (hk : k ≤ 1) : (∀ x ∈ digL t, digB x = true) ∧ (digL t).length ≤ 18 ∧ (k = 0 → (digL t).length ≤ 10) := by
  have hn := kind_num h hk
  rw [digL_eq h hk]
  rw [numF_cut] at hn
  unfold numC at hn
  split at hn
  · cases hn
  · rename_i hc
    have h1 : ¬ cutN (unsign t) = 0 := fun e => hc (.inl e)
    have h2 : (ahead (unsign t) ++ behind (unsign t)).all digB = true := by
      cases hh : (ahead (unsign t) ++ behind (unsign t)).all digB
      · exact absurd (.inr hh) hc
      · rfl
    rw [List.all_eq_true] at h2
    refine ⟨h2, ?_⟩
    rw [List.length_append]
    change (cutN (unsign t)) ≤ 18 ∧ (k = 0 → cutN (unsign t) ≤ 10)
    split at hn
    · split at hn
      · injection hn with hn; omega
      · cases hn
    · split at hn
      · omega
      · cases hn
theorem foldl_skip {c : UInt8} (h : digB c = false) (n : Nat) (l : Bytes) : (c :: l).foldl dstep n = l.foldl dstep n := by
  rw [List.foldl_cons]
  unfold dstep
  rw [h]; rfl
theorem fold_cut : ∀ (u : Bytes) (n : Nat), u.foldl dstep n = (ahead u ++ behind u).foldl dstep n
  | [], n => rfl
  | c :: s, n => by
    by_cases hc : c = 46
    · subst hc
      rw [(ahead_point s).1, (ahead_point s).2, foldl_skip (by decide)]
      rfl
    · rw [(ahead_cons hc).1, (ahead_cons hc).2, List.foldl_cons, List.cons_append, List.foldl_cons]
      exact fold_cut s _
theorem decN_digL {t : Bytes} {k : Nat} (h : kindF t = some k) (hk : k ≤ 1) : decN t = (digL t).foldl dstep 0 := by
  rw [digL_eq h hk, ← fold_cut, decN_eq]
  cases t with
  | nil => rfl
  | cons c s =>
    rw [show unsign (c :: s) = if c == 43 || c == 45 then s else c :: s from rfl]
    split
    · rename_i hc; exact foldl_skip (sign_ne hc).2 _ _
    · rfl
theorem behindN_eq (t : Bytes) : behindN t = (behind t).length := by
  unfold behindN
  have : ∀ t : Bytes, (t.dropWhile (· != 46)).length - 1 = (behind t).length := by
    intro t
    induction t with
    | nil => rfl
    | cons c s ih =>
      rw [List.dropWhile_cons]
      by_cases hc : c = 46
      · subst hc
        rw [(ahead_point s).2]
        simp
      · rw [(ahead_cons hc).2, ← ih]
        simp [hc]
  exact this t
theorem fold_bound : ∀ (l : Bytes) (n : Nat), l.foldl dstep n + 1 ≤ (n + 1) * 10 ^ l.length
  | [], n => by simp
  | c :: s, n => by
    rw [List.foldl_cons, List.length_cons, Nat.pow_succ]
    have h := fold_bound s (dstep n c)
    have hd : dstep n c + 1 ≤ (n + 1) * 10 := by
      unfold dstep
      split
      · rename_i hc
        have : c.toNat - 48 ≤ 9 := by unfold digB at hc; simp at hc; omega
        omega
      · omega
    calc _ ≤ (dstep n c + 1) * 10 ^ s.length := h
      _ ≤ ((n + 1) * 10) * 10 ^ s.length := Nat.mul_le_mul_right _ hd
      _ = (n + 1) * (10 ^ s.length * 10) := by rw [Nat.mul_assoc, Nat.mul_comm 10]
theorem behind_len (t : Bytes) : (behind t).length ≤ (digL t).length := by unfold digL; simp
theorem prefix_minus (t : Bytes) : Lib.hasPrefix t [45] = decide (t.head? = some 45) := by
  unfold Lib.hasPrefix
  cases t with
  | nil => rfl
  | cons c s =>
    rw [Bool.eq_iff_iff, decide_eq_true_iff]
    simp [List.isPrefixOf]
    exact eq_comm
end Go.Proofs.YthhmahmclkmjpaaDoor
