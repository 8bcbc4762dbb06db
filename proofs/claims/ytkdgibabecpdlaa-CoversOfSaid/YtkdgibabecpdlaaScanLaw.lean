/- Proved: what a scan has done row by row adds up to the windings of the points; for edges that are not far. -/
import Derived.Test.YtkdgibabecpdlaaScan2
namespace Go.Proofs.Ytkdgibabecpdlaa

theorem windE_perm {a b : List Edge} (h : a.Perm b) (p : Dot) : windE a p = windE b p := by
  unfold windE
  induction h with
  | nil => rfl
  | cons x _ ih => simp [ih]
  | swap x y l => simp; omega
  | trans _ _ h1 h2 => exact h1.trans h2
theorem windE_cons (e : Edge) (l : List Edge) (p : Dot) : windE (e :: l) p = turnOf p e + windE l p := by simp [windE]
theorem windE_zero {l : List Edge} {p : Dot} (h : ∀ e ∈ l, meetE p.2 e = false) : windE l p = 0 := by
  induction l with
  | nil => rfl
  | cons a l ih =>
    rw [windE_cons, ih (fun e he => h e (List.mem_cons_of_mem _ he))]
    have := h a List.mem_cons_self
    unfold meetE at this
    simp [turnOf, this]
theorem windE_filter (l : List Edge) (x y : Int) : windE (l.filter (meetE y)) (x, y) = windE l (x, y) := by
  induction l with
  | nil => rfl
  | cons a l ih =>
    rw [List.filter_cons, windE_cons]
    split
    · rw [windE_cons, ih]
    · rename_i h
      have h' : meetE y a = false := by simpa using h
      unfold meetE at h'
      rw [ih]; simp [turnOf, h']

/-- What a scan has done with all its edges once it has been at height y. -/
structure ScanOk (all ws ms : List Edge) (y : Int) : Prop where
  perm : ∃ ds, (ws ++ ms ++ ds).Perm all ∧ ∀ e ∈ ds, e.2.1.2 ≤ y
  heap : HeapFrom ws 0 ws.length
  low : ∀ e ∈ ms, e.1.2 ≤ y

theorem ScanOk.step {all ws ms : List Edge} {y y' : Int} (h : ScanOk all ws ms y) (hy : y ≤ y') :
    ScanOk all (popAll ws.length y' ws ms).1 ((popAll ws.length y' ws ms).2.filter (meetE y')) y' ∧
      ∀ x, windE all (x, y') = windE ((popAll ws.length y' ws ms).2.filter (meetE y')) (x, y') := by
  obtain ⟨h1, h2, h3, p, h4, h5⟩ := popAll_ok ws.length y' ws ms (Nat.le_refl _) h.heap
  replace h2 := (List.perm_append_comm.trans h2).trans List.perm_append_comm
  obtain ⟨ds, hp, hd⟩ := h.perm
  generalize (popAll ws.length y' ws ms).1 = a at *
  generalize (popAll ws.length y' ws ms).2 = b at *
  have hlow : ∀ e ∈ b, e.1.2 ≤ y' := fun e he => by
    rw [h4] at he
    rcases List.mem_append.1 he with he | he
    · have := h.low e he; omega
    · exact h5 e he
  refine ⟨⟨⟨b.filter (fun e => !meetE y' e) ++ ds, ?_, fun e he => ?_⟩, h1, fun e he => hlow e (List.mem_filter.1 he).1⟩, fun x => ?_⟩
  · refine List.Perm.trans ?_ hp
    have hf := List.filter_append_perm (meetE y') b
    have e1 : a ++ b.filter (meetE y') ++ (b.filter (fun e => !meetE y' e) ++ ds) = a ++ (b.filter (meetE y') ++ b.filter (fun e => !meetE y' e)) ++ ds := by simp
    rw [e1]
    exact List.Perm.append_right ds ((List.Perm.append_left a hf).trans h2)
  · rcases List.mem_append.1 he with he | he
    · have h6 := List.mem_filter.1 he
      have h7 := hlow e h6.1
      have h8 := h6.2
      simp only [meetE, meetsB, Bool.not_and, Bool.or_eq_true, Bool.not_eq_true', decide_eq_false_iff_not] at h8
      omega
    · have := hd e he; omega
  · rw [← windE_perm hp, windE_append, windE_append, windE_filter]
    have ha : windE a (x, y') = 0 := windE_zero (fun e he => by
      have := h3 e he
      simp only [meetE, meetsB, Bool.and_eq_false_iff, decide_eq_false_iff_not]; left; omega)
    have hd' : windE ds (x, y') = 0 := windE_zero (fun e he => by
      have := hd e he
      simp only [meetE, meetsB, Bool.and_eq_false_iff, decide_eq_false_iff_not]; right; omega)
    have hab := windE_perm h2 (x, y')
    rw [windE_append, windE_append, ha] at hab
    omega

theorem sum_take_set : ∀ (l : List Int) (k i : Nat) (v : Int), k < l.length → ((l.set k v).take (i + 1)).sum = (l.take (i + 1)).sum + if k ≤ i then v - l.getD k 0 else 0
  | [], _, _, _, h => by simp at h
  | a :: l, 0, i, v, _ => by simp; omega
  | a :: l, k + 1, 0, v, _ => by simp
  | a :: l, k + 1, i + 1, v, h => by
    have := sum_take_set l k i v (by simpa using h)
    simp only [List.set_cons_succ, List.take_succ_cons, List.sum_cons, List.getD_cons_succ] at this ⊢
    rw [this]
    by_cases hk : k ≤ i
    · rw [if_pos hk, if_pos (by omega)]; omega
    · rw [if_neg hk, if_neg (by omega)]; omega

theorem manyE_iff {e : Edge} (he : NearE e) {y : Int} {last i : Nat} (hi : i < last) : i < manyE y last e ↔ 0 < overN e.1.1 e.1.2 e.2.1.1 e.2.1.2 (64 * i + 32) y := by
  have hD : 0 < e.2.1.2 - e.1.2 := by have := he.2.2.1; omega
  have e1 : overN e.1.1 e.1.2 e.2.1.1 e.2.1.2 (64 * i + 32) y = overN e.1.1 e.1.2 e.2.1.1 e.2.1.2 32 y - (i : Int) * (64 * (e.2.1.2 - e.1.2)) := by
    unfold overN
    have : (64 * (i : Int) + 32 - e.1.1) * (e.2.1.2 - e.1.2) = (32 - e.1.1) * (e.2.1.2 - e.1.2) + (i : Int) * (64 * (e.2.1.2 - e.1.2)) := by
      rw [show 64 * (i : Int) + 32 - e.1.1 = (32 - e.1.1) + 64 * i by omega, Int.add_mul, Int.mul_comm 64 (i : Int), Int.mul_assoc]
    rw [this]; omega
  rw [e1]
  unfold manyE
  generalize overN e.1.1 e.1.2 e.2.1.1 e.2.1.2 32 y = n
  generalize e.2.1.2 - e.1.2 = D at *
  have h0 : 0 ≤ (i : Int) * (64 * D) := Int.mul_nonneg (by omega) (by omega)
  split
  · constructor
    · intro h; omega
    · intro h; omega
  · rename_i hn
    have h1 : ((i : Int) + 1) ≤ (n + 64 * D - 1) / (64 * D) ↔ ((i : Int) + 1) * (64 * D) ≤ n + 64 * D - 1 := Int.le_ediv_iff_mul_le (by omega)
    rw [Int.add_mul] at h1
    have h2 : 0 ≤ (n + 64 * D - 1) / (64 * D) := Int.ediv_nonneg (by omega) (by omega)
    generalize (n + 64 * D - 1) / (64 * D) = q at *
    generalize (i : Int) * (64 * D) = z at *
    rw [Nat.lt_min]
    omega

theorem tsAdd_sum {e : Edge} (he : NearE e) {y : Int} (hm : meetE y e = true) {ts : List Int} {last i : Nat} (hl : ts.length = last + 1) (hi : i < last) :
    ((tsAdd y last ts e).take (i + 1)).sum = (ts.take (i + 1)).sum + turnOf (64 * i + 32, y) e := by
  unfold tsAdd
  simp only
  have hle := manyE_le y last e
  rw [sum_take_set _ _ _ _ (by rw [List.length_set]; omega), sum_take_set _ _ _ _ (by omega), if_pos (Nat.zero_le _)]
  have hiff := manyE_iff he (y := y) hi
  unfold meetE at hm
  unfold turnOf
  simp only
  rw [hm, Bool.true_and]
  by_cases h : manyE y last e ≤ i
  · rw [if_pos h]
    have : ¬ 0 < overN e.1.1 e.1.2 e.2.1.1 e.2.1.2 (64 * i + 32) y := fun h' => by have := hiff.2 h'; omega
    rw [decide_eq_false this, if_neg (by decide)]; omega
  · rw [if_neg h]
    have := hiff.1 (by omega)
    rw [decide_eq_true this, if_pos rfl]; omega

theorem tsF_sum {y : Int} {last i : Nat} (hi : i < last) : ∀ (es : List Edge), (∀ e ∈ es, NearE e ∧ meetE y e = true) → ∀ (ts : List Int), ts.length = last + 1 →
    ((tsF y last es ts).take (i + 1)).sum = (ts.take (i + 1)).sum + windE es (64 * i + 32, y)
  | [], _, ts, _ => by simp [tsF, windE]
  | e :: es, h, ts, hl => by
    have := tsF_sum hi es (fun a ha => h a (List.mem_cons_of_mem _ ha)) (tsAdd y last ts e) (by rw [tsAdd_len]; exact hl)
    rw [tsF, List.foldl_cons]
    refine this.trans ?_
    obtain ⟨h1, h2⟩ := h e List.mem_cons_self
    rw [tsAdd_sum h1 h2 hl hi, windE_cons]; omega
theorem tsF_wind {y : Int} {n i : Nat} (hi : i + 1 < n) {es : List Edge} (h : ∀ e ∈ es, NearE e ∧ meetE y e = true) :
    ((tsF y (n - 1) es (List.replicate n 0)).take (i + 1)).sum = windE es (64 * i + 32, y) := by
  rw [tsF_sum (by omega) es h _ (by rw [List.length_replicate]; omega), List.take_replicate, List.sum_replicate_int]
  omega
end Go.Proofs.Ytkdgibabecpdlaa
