/- Proved: plain laws of numbers as digits to the base 65536, and of a word gone through byte by byte; for all lists of digits. -/
import Derived.Test.YthhmahmclkmjpaaDoorGen
import Derived.Test.YthhmahmclkmjpaaDoorNumLaw2
namespace Go.Proofs.YthhmahmclkmjpaaDoor
section
open Go
/-! Numbers as_ digits to the base 65536, the lowest first. -/
def vD : List Nat → Nat
  | [] => 0
  | d :: l => d + 65536 * vD l
def Dgt (l : List Nat) : Prop := ∀ d ∈ l, d < 65536
theorem Dgt.cons {d : Nat} {l : List Nat} (h : Dgt (d :: l)) : d < 65536 ∧ Dgt l := ⟨h d (by simp), fun x hx => h x (by simp [hx])⟩
theorem Dgt.mk {d : Nat} {l : List Nat} (h1 : d < 65536) (h2 : Dgt l) : Dgt (d :: l) := fun x hx => by
  rcases List.mem_cons.1 hx with rfl | h
  · exact h1
  · exact h2 x h
theorem Dgt.at_ {l : List Nat} (h : Dgt l) {i : Nat} (hi : i < l.length) : l[i] < 65536 := h _ (List.getElem_mem hi)
theorem Dgt.drop {l : List Nat} (h : Dgt l) (n : Nat) : Dgt (l.drop n) := fun d hd => h d (List.mem_of_mem_drop hd)
theorem vD_lt : ∀ {l : List Nat}, Dgt l → vD l < 65536 ^ l.length
  | [], _ => by simp [vD]
  | d :: l, h => by
    have h1 := h.cons
    have h2 := vD_lt h1.2
    rw [List.length_cons, Nat.pow_succ, vD]
    omega
theorem vD_app : ∀ (a b : List Nat), vD (a ++ b) = vD a + 65536 ^ a.length * vD b
  | [], b => by simp [vD]
  | x :: a, b => by
    rw [List.cons_append, vD, vD_app a b, vD, List.length_cons, Nat.pow_succ]
    rw [Nat.mul_add, Nat.add_assoc, Nat.mul_comm (65536 ^ a.length) 65536, Nat.mul_assoc]
theorem vD_rep : ∀ n, vD (List.replicate n 0) = 0
  | 0 => rfl
  | n + 1 => by rw [List.replicate_succ, vD, vD_rep n]
theorem vD_split (l : List Nat) (i : Nat) (hi : i < l.length) : vD l = vD (l.take i) + 65536 ^ i * (l[i] + 65536 * vD (l.drop (i + 1))) := by
  conv => lhs; rw [← List.take_append_drop i l, vD_app, List.drop_eq_getElem_cons hi, vD]
  rw [List.length_take, Nat.min_eq_left (by omega)]
theorem vD_inj : ∀ {a b : List Nat}, Dgt a → Dgt b → a.length = b.length → vD a = vD b → a = b
  | [], [], _, _, _, _ => rfl
  | x :: a, y :: b, ha, hb, hl, h => by
    have h1 := ha.cons; have h2 := hb.cons
    simp only [vD] at h
    rw [show x = y by omega, vD_inj h1.2 h2.2 (by simpa using hl) (by omega)]
/-- Plus, digit by digit. -/
def plusL : List Nat → List Nat → Nat → List Nat
  | a :: as_, b :: bs_, k => (k + a + b) % 65536 :: plusL as_ bs_ ((k + a + b) / 65536)
  | _, _, _ => []
theorem plusL_len : ∀ (as_ bs_ : List Nat) (k : Nat), as_.length = bs_.length → (plusL as_ bs_ k).length = as_.length
  | [], [], _, _ => rfl
  | a :: as_, b :: bs_, k, h => by simp only [plusL, List.length_cons]; rw [plusL_len as_ bs_ _ (by simpa using h)]
theorem plusL_dgt : ∀ (as_ bs_ : List Nat) (k : Nat), Dgt (plusL as_ bs_ k)
  | [], _, _ => fun _ h => by simp [plusL] at h
  | _ :: _, [], _ => fun _ h => by simp [plusL] at h
  | a :: as_, b :: bs_, k => Dgt.mk (Nat.mod_lt _ (by decide)) (plusL_dgt as_ bs_ _)
theorem plusL_v : ∀ (as_ bs_ : List Nat) (k : Nat), as_.length = bs_.length → ∃ c, vD (plusL as_ bs_ k) + c * 65536 ^ as_.length = vD as_ + vD bs_ + k
  | [], [], k, _ => ⟨k, by simp [plusL, vD]⟩
  | a :: as_, b :: bs_, k, h => by
    obtain ⟨c, hc⟩ := plusL_v as_ bs_ ((k + a + b) / 65536) (by simpa using h)
    refine ⟨c, ?_⟩
    simp only [plusL, vD, List.length_cons, Nat.pow_succ]
    have e : c * (65536 ^ as_.length * 65536) = 65536 * (c * 65536 ^ as_.length) := by rw [Nat.mul_comm (65536 ^ as_.length), ← Nat.mul_assoc, Nat.mul_comm c, Nat.mul_assoc]
    rw [e]
    omega
theorem plusL_sum {as_ bs_ : List Nat} (h : as_.length = bs_.length) (hs : vD as_ + vD bs_ < 65536 ^ as_.length) : vD (plusL as_ bs_ 0) = vD as_ + vD bs_ := by
  obtain ⟨c, hc⟩ := plusL_v as_ bs_ 0 h
  have hp : 0 < 65536 ^ as_.length := Nat.pow_pos (by decide)
  cases c with
  | zero => omega
  | succ c =>
    exfalso
    rw [Nat.add_mul] at hc
    generalize c * 65536 ^ as_.length = z at hc
    omega
/-- Less, digit by digit. -/
def lessL : List Nat → List Nat → Nat → List Nat
  | a :: as_, b :: bs_, c => if b + c ≤ a then (a - c - b) :: lessL as_ bs_ 0 else (a + 65536 - c - b) :: lessL as_ bs_ 1
  | _, _, _ => []
theorem lessL_len : ∀ (as_ bs_ : List Nat) (k : Nat), as_.length = bs_.length → (lessL as_ bs_ k).length = as_.length
  | [], [], _, _ => rfl
  | a :: as_, b :: bs_, k, h => by
    simp only [lessL]
    split <;> simp only [List.length_cons] <;> rw [lessL_len as_ bs_ _ (by simpa using h)]
theorem lessL_v : ∀ (as_ bs_ : List Nat) (c : Nat), as_.length = bs_.length → Dgt as_ → Dgt bs_ → c ≤ 1 → vD bs_ + c ≤ vD as_ → vD (lessL as_ bs_ c) + vD bs_ + c = vD as_ ∧ Dgt (lessL as_ bs_ c)
  | [], [], c, _, _, _, hc, h => by simp [lessL, vD] at h ⊢; exact ⟨h, fun _ h => by simp at h⟩
  | a :: as_, b :: bs_, c, hl, ha, hb, hc, h => by
    have h1 := ha.cons; have h2 := hb.cons
    simp only [vD] at h
    simp only [lessL]
    split
    · obtain ⟨g1, g2⟩ := lessL_v as_ bs_ 0 (by simpa using hl) h1.2 h2.2 (by omega) (by omega)
      refine ⟨?_, Dgt.mk (by omega) g2⟩
      simp only [vD]
      omega
    · obtain ⟨g1, g2⟩ := lessL_v as_ bs_ 1 (by simpa using hl) h1.2 h2.2 (by omega) (by omega)
      refine ⟨?_, Dgt.mk (by omega) g2⟩
      simp only [vD]
      omega
theorem less_next {a b c : Nat} {as_ bs_ : List Nat} (ha : a < 65536) (hb : b < 65536) (hc : c ≤ 1) (h : vD (b :: bs_) + c ≤ vD (a :: as_)) (hn : ¬ b + c ≤ a) : vD bs_ + 1 ≤ vD as_ := by
  simp only [vD] at h; omega
theorem less_next0 {a b c : Nat} {as_ bs_ : List Nat} (hb : b < 65536) (ha : a < 65536) (h : vD (b :: bs_) + c ≤ vD (a :: as_)) (hn : b + c ≤ a) : vD bs_ ≤ vD as_ := by
  simp only [vD] at h; omega
structure Dg12 (l : List Nat) : Prop where
  len : l.length = 12
  dgt : Dgt l
/-- Which is greater. -/
def cmpV (x y : Nat) : Int := if x < y then -1 else if y < x then 1 else 0
theorem cmp_lt {a b : List Nat} {i : Nat} (ha : Dgt a) (hi : i < a.length) (hi' : i < b.length) (hd : a.drop (i + 1) = b.drop (i + 1)) (h : a[i] < b[i]) : vD a < vD b := by
  rw [vD_split a i hi, vD_split b i hi', hd]
  have h1 := vD_lt (l := a.take i) (fun d hd => ha d (List.mem_of_mem_take hd))
  rw [List.length_take, Nat.min_eq_left (by omega)] at h1
  have h2 : 65536 ^ i * (a[i] + 1) ≤ 65536 ^ i * b[i] := Nat.mul_le_mul_left _ h
  rw [Nat.mul_add, Nat.mul_add]
  rw [Nat.mul_add] at h2
  omega
theorem cmp_drop {a b : List Nat} {i : Nat} (hi : i < a.length) (hi' : i < b.length) (hd : a.drop (i + 1) = b.drop (i + 1)) (h : a[i] = b[i]) : a.drop i = b.drop i := by
  rw [List.drop_eq_getElem_cons hi, List.drop_eq_getElem_cons hi', hd, h]
/-- One line of a product: so many times another number, added from a place on. -/
def madL : List Nat → List Nat → Nat → Nat → List Nat
  | o :: os_, b :: bs_, x, k => (k + o + x * b) % 65536 :: madL os_ bs_ x ((k + o + x * b) / 65536)
  | _, _, _, _ => []
theorem madL_len : ∀ (os_ bs_ : List Nat) (x k : Nat), os_.length ≤ bs_.length → (madL os_ bs_ x k).length = os_.length
  | [], [], _, _, _ => rfl
  | [], _ :: _, _, _, _ => rfl
  | a :: as_, b :: bs_, x, k, h => by simp only [madL, List.length_cons]; rw [madL_len as_ bs_ _ _ (by simpa using h)]
theorem madL_dgt : ∀ (as_ bs_ : List Nat) (x k : Nat), Dgt (madL as_ bs_ x k)
  | [], _, _, _ => fun _ h => by simp [madL] at h
  | _ :: _, [], _, _ => fun _ h => by simp [madL] at h
  | a :: as_, b :: bs_, x, k => Dgt.mk (Nat.mod_lt _ (by decide)) (madL_dgt as_ bs_ _ _)
theorem madL_v : ∀ (as_ bs_ : List Nat) (x k : Nat), as_.length ≤ bs_.length → ∃ c, vD (madL as_ bs_ x k) + c * 65536 ^ as_.length = vD as_ + x * vD (bs_.take as_.length) + k
  | [], bs_, x, k, _ => ⟨k, by cases bs_ <;> simp [madL, vD]⟩
  | a :: as_, b :: bs_, x, k, h => by
    obtain ⟨c, hc⟩ := madL_v as_ bs_ x ((k + a + x * b) / 65536) (by simpa using h)
    refine ⟨c, ?_⟩
    simp only [madL, vD, List.length_cons, Nat.pow_succ, List.take_succ_cons]
    have e : c * (65536 ^ as_.length * 65536) = 65536 * (c * 65536 ^ as_.length) := by rw [Nat.mul_comm (65536 ^ as_.length), ← Nat.mul_assoc, Nat.mul_comm c, Nat.mul_assoc]
    have e2 : x * (b + 65536 * vD (bs_.take as_.length)) = x * b + 65536 * (x * vD (bs_.take as_.length)) := by rw [Nat.mul_add, ← Nat.mul_assoc, Nat.mul_comm x 65536, Nat.mul_assoc]
    rw [e, e2]
    generalize x * vD (bs_.take as_.length) = z at *
    generalize x * b = y at *
    omega
end
section
open Go
/-- How far one line of a product has been laid. -/
structure MadS (O0 b O : List Nat) (x i j K : Nat) : Prop where
  le : i + j ≤ 12
  k : K ≤ 65535
  len : O.length = 12
  rest : O.drop (i + j) = O0.drop (i + j)
  eq : O.take (i + j) ++ madL (O.drop (i + j)) (b.drop j) x K = O0.take i ++ madL (O0.drop i) b x 0
theorem MadS.start {O0 b : List Nat} {x i : Nat} (h : O0.length = 12) (hi : i ≤ 12) : MadS O0 b O0 x i 0 0 :=
  ⟨by omega, by omega, h, rfl, by simp⟩
theorem MadS.step {O0 b O : List Nat} {x i j K : Nat} (h : MadS O0 b O x i j K) (hO : Dgt O0) (hO0 : O0.length = 12) (hb : Dgt b) (hbl : b.length = 12) (hx : x < 65536) (hs : i + j < 12) :
    ∃ o y p v : Nat, O[i + j]? = some o ∧ b[j]? = some y ∧ o < 65536 ∧ y < 65536 ∧ p = x * y ∧ p ≤ 4294836225 ∧ v = K + o + p ∧ v ≤ 4294967295 ∧ MadS O0 b (O.set (i + j) (v % 65536)) x i (j + 1) (v / 65536) := by
  have h1 : i + j < O.length := by rw [h.len]; exact hs
  have h2 : j < b.length := by omega
  have h3 : i + j < O0.length := by rw [hO0]; exact hs
  have e := h.eq
  have r := h.rest
  rw [List.drop_eq_getElem_cons h1, List.drop_eq_getElem_cons h2] at e
  rw [List.drop_eq_getElem_cons h1, List.drop_eq_getElem_cons h3] at r
  injection r with r1 r2
  have o1 := hO.at_ h3
  rw [← r1] at o1
  have y1 := hb.at_ h2
  have hp : x * b[j] ≤ 65535 * 65535 := Nat.mul_le_mul (by omega) (by omega)
  have hk := h.k
  refine ⟨O[i + j], b[j], x * b[j], K + O[i + j] + x * b[j], List.getElem?_eq_getElem h1, List.getElem?_eq_getElem h2, o1, y1, rfl, hp, rfl, by omega, by omega, by omega, by simp [h.len], ?_, ?_⟩
  · rw [← Nat.add_assoc, List.drop_set_of_lt (by omega), r2]
  · rw [← Nat.add_assoc, List.drop_set_of_lt (by omega), List.take_add_one, List.getElem?_set_self h1, List.take_set_of_le (Nat.le_refl _), List.append_assoc, ← e]
    rfl
theorem take_vD {a : List Nat} {i : Nat} (h : i < a.length) : vD (a.take (i + 1)) = vD (a.take i) + 65536 ^ i * a[i] := by
  rw [List.take_add_one, List.getElem?_eq_getElem h, Option.toList_some, vD_app, List.length_take, Nat.min_eq_left (by omega)]
  simp [vD]
theorem take_le (a : List Nat) (i : Nat) : vD (a.take i) ≤ vD a := by
  conv => rhs; rw [← List.take_append_drop i a, vD_app]
  omega
/-- One line more. -/
theorem MadS.done {O0 b O a : List Nat} {i j K : Nat} (ha : a.length = 12) (hi : i < 12) (h : MadS O0 b O a[i] i j K) (hij : i + j = 12) (hO : Dgt O0) (hO0 : O0.length = 12) (hbl : b.length = 12) (hv : vD O0 = vD (a.take i) * vD b) (hlt : vD a * vD b < 65536 ^ 12) :
    O.length = 12 ∧ Dgt O ∧ vD O = vD (a.take (i + 1)) * vD b := by
  have e := h.eq
  rw [hij, List.take_of_length_le (by rw [h.len]; omega), List.drop_eq_nil_of_le (by rw [h.len]; omega)] at e
  simp only [madL, List.append_nil] at e
  have hl : (O0.drop i).length = 12 - i := by rw [List.length_drop, hO0]
  obtain ⟨c, hc⟩ := madL_v (O0.drop i) b a[i] 0 (by rw [hl, hbl]; omega)
  rw [hl] at hc
  refine ⟨h.len, ?_, ?_⟩
  · rw [e]
    intro d hd
    rcases List.mem_append.1 hd with h1 | h1
    · exact hO d (List.mem_of_mem_take h1)
    · exact madL_dgt _ _ _ _ d h1
  · have hO' : vD O = vD (O0.take i) + 65536 ^ i * vD (madL (O0.drop i) b a[i] 0) := by
      rw [e, vD_app, List.length_take, hO0, Nat.min_eq_left (by omega)]
    have hs : vD O0 = vD (O0.take i) + 65536 ^ i * vD (O0.drop i) := by
      conv => lhs; rw [← List.take_append_drop i O0, vD_app, List.length_take, hO0, Nat.min_eq_left (by omega : i ≤ 12)]
    have hb : vD b = vD (b.take (12 - i)) + 65536 ^ (12 - i) * vD (b.drop (12 - i)) := by
      conv => lhs; rw [← List.take_append_drop (12 - i) b, vD_app, List.length_take, hbl, Nat.min_eq_left (by omega : 12 - i ≤ 12)]
    have hp : 65536 ^ i * 65536 ^ (12 - i) = 65536 ^ 12 := by rw [← Nat.pow_add]; congr 1; omega
    have ht := take_vD (a := a) (i := i) (by omega)
    have hle := Nat.mul_le_mul_right (vD b) (take_le a (i + 1))
    rw [ht, Nat.add_mul] at hle ⊢
    rw [← hv] at hle ⊢
    -- everything in terms of P = 65536^i, R = 65536^(12-i)
    generalize hP : 65536 ^ i = P at *
    generalize hR : 65536 ^ (12 - i) = R at *
    generalize hZ : (65536 : Nat) ^ 12 = Z at *
    have e1 : P * vD (madL (O0.drop i) b a[i] 0) + c * Z = P * vD (O0.drop i) + P * a[i] * vD (b.take (12 - i)) := by
      have := congrArg (P * ·) hc
      simp only [Nat.mul_add, Nat.add_zero] at this
      rw [← hp, Nat.mul_assoc P, ← this]
      congr 1
      rw [← Nat.mul_assoc, Nat.mul_comm c P, Nat.mul_assoc]
    have e2 : P * a[i] * vD b = P * a[i] * vD (b.take (12 - i)) + Z * (a[i] * vD (b.drop (12 - i))) := by
      conv => lhs; rw [hb, Nat.mul_add]
      congr 1
      rw [← hp]
      simp only [Nat.mul_assoc, Nat.mul_left_comm]
    rw [e2] at hle ⊢
    generalize P * a[i] * vD (b.take (12 - i)) = A at *
    have hz : a[i] * vD (b.drop (12 - i)) = 0 := by
      rcases Nat.eq_zero_or_pos (a[i] * vD (b.drop (12 - i))) with h0 | h0
      · exact h0
      · exfalso
        have := Nat.mul_le_mul_left Z h0
        omega
    have hc0 : c = 0 := by
      rcases Nat.eq_zero_or_pos c with h0 | h0
      · exact h0
      · exfalso
        have := Nat.mul_le_mul_right Z h0
        rw [hz] at hle
        omega
    simp only [hz, hc0, Nat.mul_zero, Nat.zero_mul, Nat.add_zero] at e1 hle ⊢
    generalize P * vD (madL (O0.drop i) b a[i] 0) = B at *
    generalize P * vD (O0.drop i) = C at *
    omega
end
section
open Go
/-- One bit of a number, out of its digits. -/
theorem bit_of {a : List Nat} {i : Nat} (ha : Dgt a) (h : i / 16 < a.length) : a[i / 16] / 2 ^ (i % 16) % 2 = vD a / 2 ^ i % 2 := by
  have hs := vD_split a (i / 16) h
  have hlt := vD_lt (l := a.take (i / 16)) (fun d hd => ha d (List.mem_of_mem_take hd))
  rw [List.length_take, Nat.min_eq_left (by omega)] at hlt
  have hp : 2 ^ i = 65536 ^ (i / 16) * 2 ^ (i % 16) := by
    rw [show (65536 : Nat) = 2 ^ 16 from rfl, ← Nat.pow_mul, ← Nat.pow_add]; congr 1; omega
  rw [hp, ← Nat.div_div_eq_div_mul, hs]
  have hpos : 0 < 65536 ^ (i / 16) := Nat.pow_pos (by decide)
  rw [Nat.add_mul_div_left _ _ hpos, Nat.div_eq_of_lt hlt, Nat.zero_add]
  generalize a[i / 16] = x
  generalize vD (a.drop (i / 16 + 1)) = y
  have hr : i % 16 < 16 := Nat.mod_lt _ (by decide)
  generalize i % 16 = r at *
  have hq : (65536 : Nat) = 2 ^ r * (2 * 2 ^ (15 - r)) := by
    rw [show (65536 : Nat) = 2 ^ 16 from rfl, Nat.mul_left_comm, ← Nat.pow_add, ← Nat.pow_succ']
    congr 1; omega
  rw [hq, Nat.mul_assoc, Nat.add_mul_div_left _ _ (Nat.pow_pos (by decide)), Nat.mul_assoc, Nat.add_mul_mod_self_left]
/-- The first digit of a doubled number is even. -/
theorem dbl_head {a : List Nat} {x : Nat} {r : List Nat} (h : plusL a a 0 = x :: r) : x % 2 = 0 ∧ x ≤ 65534 := by
  cases a with
  | nil => cases h
  | cons d l =>
    simp only [plusL] at h
    injection h with h1 h2
    omega
/-- How far a division has come: n bits are still to come. -/
structure DivS (a d Q R : List Nat) (n : Nat) : Prop where
  q : Dg12 Q
  r : Dg12 R
  eq : vD Q * vD d + vD R = vD a / 2 ^ n
  lt : vD R < vD d
theorem div_step (q r A D n : Nat) (h : q * D + r = A / 2 ^ (n + 1)) (hr : r < D) :
    (D ≤ 2 * r + A / 2 ^ n % 2 → (2 * q + 1) * D + (2 * r + A / 2 ^ n % 2 - D) = A / 2 ^ n ∧ 2 * r + A / 2 ^ n % 2 - D < D) ∧
    (¬ D ≤ 2 * r + A / 2 ^ n % 2 → (2 * q) * D + (2 * r + A / 2 ^ n % 2) = A / 2 ^ n) := by
  have e : A / 2 ^ (n + 1) = A / 2 ^ n / 2 := by rw [Nat.pow_succ, Nat.div_div_eq_div_mul]
  rw [e] at h
  generalize A / 2 ^ n = X at *
  have h2 : (2 * q) * D = 2 * (q * D) := Nat.mul_assoc _ _ _
  have h3 : (2 * q + 1) * D = 2 * (q * D) + D := by rw [Nat.add_mul, h2, Nat.one_mul]
  generalize q * D = Y at *
  constructor
  · intro hd
    rw [h3]
    omega
  · intro hd
    rw [h2]
    omega
end
section
open Go
/-! A number's word gone through byte by byte: what stands behind its point. -/
def stepD (s : Bool × Nat) (c : UInt8) : Bool × Nat := (s.1 || c == 46, if digB c && (s.1 || c == 46) then 10 * s.2 else s.2)
def dnS (l : Bytes) : Bool × Nat := l.foldl stepD (false, 1)
theorem dnS_snoc (l : Bytes) (c : UInt8) : dnS (l ++ [c]) = stepD (dnS l) c := by simp [dnS]
theorem decN_snoc (l : Bytes) (c : UInt8) : decN (l ++ [c]) = dstep (decN l) c := by simp [decN_eq]
theorem dig46 : digB 46 = false := by decide
theorem stepD_true : ∀ (l : Bytes) (d : Nat), (∀ x ∈ l, digB x = true) → l.foldl stepD (true, d) = (true, d * 10 ^ l.length)
  | [], d, _ => by simp
  | c :: l, d, h => by
    rw [List.foldl_cons, show stepD (true, d) c = (true, 10 * d) by simp [stepD, h c (by simp)], stepD_true l _ (fun x hx => h x (by simp [hx])), List.length_cons, Nat.pow_succ]
    congr 1
    rw [Nat.mul_comm 10 d, Nat.mul_assoc, Nat.mul_comm 10]
theorem dn_end : ∀ (u : Bytes), (∀ x ∈ behind u, digB x = true) → (dnS u).2 = 10 ^ (behind u).length
  | [], _ => rfl
  | c :: t, h => by
    by_cases hc : c = 46
    · subst hc
      have e := ahead_point t
      rw [e.2] at h ⊢
      unfold dnS
      rw [List.foldl_cons, show stepD (false, 1) 46 = (true, 1) by simp [stepD, dig46], stepD_true t 1 h, Nat.one_mul]
    · have e := ahead_cons (t := t) hc
      rw [e.2] at h ⊢
      have := dn_end t h
      unfold dnS at this ⊢
      rw [List.foldl_cons, show stepD (false, 1) c = (false, 1) by simp [stepD, hc]]
      exact this
theorem dn_number {t : Bytes} {k : Nat} (h : kindF t = some k) (hk : k ≤ 1) : (dnS t).2 = 10 ^ behindN t := by
  rw [behindN_eq]
  exact dn_end t (fun x hx => (digL_all h hk).1 x (by unfold digL; exact List.mem_append_right _ hx))
theorem dec_bound : ∀ (l : Bytes) (n : Nat), l.foldl dstep n + 1 ≤ (n + 1) * 10 ^ digitsN l
  | [], n => by simp [digitsN]
  | c :: l, n => by
    rw [List.foldl_cons]
    have h := dec_bound l (dstep n c)
    refine Nat.le_trans h ?_
    unfold digitsN at *
    rw [List.countP_cons]
    by_cases hc : digB c = true
    · rw [if_pos hc, Nat.pow_succ, Nat.mul_comm (10 ^ _) 10, ← Nat.mul_assoc]
      refine Nat.mul_le_mul_right _ ?_
      unfold dstep; rw [if_pos hc]
      have h2 := hc
      unfold digB at h2
      simp only [Bool.and_eq_true, decide_eq_true_eq] at h2
      have h3 : c.toNat ≤ 57 := by simpa [UInt8.le_iff_toNat_le] using h2.2
      omega
    · rw [if_neg hc, Nat.add_zero]
      unfold dstep; rw [if_neg hc]; exact Nat.le_refl _
theorem dn_bound : ∀ (l : Bytes) (s : Bool × Nat), (l.foldl stepD s).2 ≤ s.2 * 10 ^ digitsN l
  | [], s => by simp [digitsN]
  | c :: l, s => by
    rw [List.foldl_cons]
    refine Nat.le_trans (dn_bound l (stepD s c)) ?_
    unfold digitsN
    rw [List.countP_cons]
    by_cases hc : digB c = true
    · rw [if_pos hc, Nat.pow_succ, Nat.mul_comm (10 ^ _) 10, ← Nat.mul_assoc]
      refine Nat.mul_le_mul_right _ ?_
      simp only [stepD]
      split <;> omega
    · rw [if_neg hc, Nat.add_zero]
      have : (stepD s c).2 = s.2 := by simp [stepD, hc]
      rw [this]; exact Nat.le_refl _
theorem dn_pos : ∀ (l : Bytes) (s : Bool × Nat), 1 ≤ s.2 → 1 ≤ (l.foldl stepD s).2
  | [], _, h => h
  | c :: l, s, h => by
    rw [List.foldl_cons]
    refine dn_pos l _ ?_
    simp only [stepD]; split <;> omega
theorem digits_unsign (t : Bytes) : digitsN t = digitsN (unsign t) := by
  cases t with
  | nil => rfl
  | cons c l =>
    show digitsN (c :: l) = digitsN (if c == 43 || c == 45 then l else c :: l)
    split
    · rename_i h
      have := (sign_ne h).2
      simp [digitsN, List.countP_cons, this]
    · rfl
theorem digits_18 {t : Bytes} {k : Nat} (h : kindF t = some k) (hk : k ≤ 1) : digitsN t ≤ 18 := by
  rw [digits_unsign]
  exact (numF_parts (kind_num h hk)).2.2.2.2
theorem digits_take {t : Bytes} {i : Nat} (hi : i < t.length) : digitsN (t.take i) + (if digB t[i] then 1 else 0) ≤ digitsN t := by
  have h : digitsN (t.take (i + 1)) ≤ digitsN t := by
    conv => rhs; rw [← List.take_append_drop (i + 1) t]
    unfold digitsN; rw [List.countP_append]; omega
  rw [List.take_add_one, List.getElem?_eq_getElem hi] at h
  unfold digitsN at *
  rw [List.countP_append] at h
  simpa [List.countP_cons] using h
theorem pow_17 {n : Nat} (h : n + 1 ≤ 18) : 10 ^ n ≤ 100000000000000000 := Nat.le_trans (Nat.pow_le_pow_right (by omega) (by omega : n ≤ 17)) (by decide)
end
end Go.Proofs.YthhmahmclkmjpaaDoor
