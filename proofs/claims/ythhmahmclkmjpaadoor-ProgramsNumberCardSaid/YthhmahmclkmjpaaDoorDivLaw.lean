/- Proved: the plain law of dividing two words by one, digit by digit; for numbers within their words. -/
import Derived.Laws.Bits64
import Derived.Laws.Bits64b
import Derived.Lib.BitFns
import Derived.Lib.ItoaNum
import Derived.Test.YthhmahmclkmjpaaDoorProg
namespace Go.Proofs.YthhmahmclkmjpaaDoor
open Go
/-! A number of two words by one: the plain laws of math/bits.Div64. -/
/-- What an estimate of a digit keeps. -/
structure Est (U v y1 y0 Y q r : Nat) : Prop where
  sum : q * y1 + r = U
  ge : (U * 4294967296 + v) / Y ≤ q
  le : q ≤ 4294967297
  rl : r < 4294967296
structure DivB (U v y1 y0 Y : Nat) : Prop where
  hY : Y = y1 * 4294967296 + y0
  l1 : 2147483648 ≤ y1
  u1 : y1 < 4294967296
  u0 : y0 < 4294967296
  hU : U < Y
  hv : v < 4294967296
theorem DivB.q_lt {U v y1 y0 Y : Nat} (h : DivB U v y1 y0 Y) : (U * 4294967296 + v) / Y < 4294967296 := by
  have h1 := h.hU; have h2 := h.hv
  rw [Nat.div_lt_iff_lt_mul (by omega)]
  have : (U + 1) * 4294967296 ≤ Y * 4294967296 := Nat.mul_le_mul_right _ h1
  rw [Nat.mul_comm 4294967296 Y]
  omega
theorem DivB.start {U v y1 y0 Y : Nat} (h : DivB U v y1 y0 Y) : Est U v y1 y0 Y (U / y1) (U % y1) := by
  have hy := h.hY; have l1 := h.l1; have u1 := h.u1; have u0 := h.u0; have hU := h.hU; have hv := h.hv
  refine ⟨by rw [Nat.mul_comm]; exact Nat.div_add_mod U y1, ?_, ?_, Nat.lt_of_lt_of_le (Nat.mod_lt _ (by omega)) (by omega)⟩
  · rw [Nat.le_div_iff_mul_le (by omega)]
    have h1 : (U * 4294967296 + v) / Y * Y ≤ U * 4294967296 + v := Nat.div_mul_le_self _ _
    generalize (U * 4294967296 + v) / Y = Q at *
    rw [hy, Nat.mul_add, ← Nat.mul_assoc] at h1
    generalize Q * y1 = A at *
    generalize Q * y0 = B at *
    omega
  · rw [show 4294967297 = (4294967297 + 1) - 1 by rfl]
    apply Nat.le_sub_one_of_lt
    rw [Nat.div_lt_iff_lt_mul (by omega)]
    have : (4294967297 + 1) * y1 = y1 * 4294967296 + 2 * y1 := by omega
    omega
theorem Est.test {U v y1 y0 Y q r : Nat} (h : DivB U v y1 y0 Y) (e : Est U v y1 y0 Y q r) : 4294967296 * r + v < q * y0 ↔ (U * 4294967296 + v) / Y < q := by
  have hy := h.hY; have l1 := h.l1
  rw [Nat.div_lt_iff_lt_mul (by omega)]
  have hs := e.sum
  have : q * Y = q * y1 * 4294967296 + q * y0 := by rw [hy, Nat.mul_add, Nat.mul_assoc]
  rw [this]
  generalize q * y1 = A at *
  generalize q * y0 = B at *
  omega
theorem Est.dec {U v y1 y0 Y q r : Nat} (h : DivB U v y1 y0 Y) (e : Est U v y1 y0 Y q r) (ht : 4294967296 ≤ q ∨ 4294967296 * r + v < q * y0) (hr : r + y1 < 4294967296) : Est U v y1 y0 Y (q - 1) (r + y1) ∧ 1 ≤ q := by
  have hq := h.q_lt
  have hgt : (U * 4294967296 + v) / Y < q := by
    rcases ht with ht | ht
    · omega
    · exact (e.test h).1 ht
  have hs := e.sum
  have hge := e.ge; have hle := e.le
  have h1 : 1 ≤ q := Nat.lt_of_le_of_lt (Nat.zero_le _) hgt
  obtain ⟨p, rfl⟩ : ∃ p, q = p + 1 := ⟨q - 1, by omega⟩
  refine ⟨⟨?_, by rw [Nat.add_sub_cancel]; exact Nat.le_of_lt_succ hgt, by rw [Nat.add_sub_cancel]; omega, hr⟩, h1⟩
  rw [Nat.add_sub_cancel]
  rw [Nat.add_mul, Nat.one_mul] at hs
  omega
theorem Est.exit {U v y1 y0 Y q r : Nat} (h : DivB U v y1 y0 Y) (e : Est U v y1 y0 Y q r) (ht : ¬ 4294967296 * r + v < q * y0) : q = (U * 4294967296 + v) / Y := by
  exact Nat.le_antisymm (Nat.le_of_not_lt fun hh => ht ((e.test h).2 hh)) e.ge
theorem Est.stop {U v y1 y0 Y q r : Nat} (h : DivB U v y1 y0 Y) (e : Est U v y1 y0 Y q r) (ht : 4294967296 ≤ q ∨ 4294967296 * r + v < q * y0) (hr : ¬ r + y1 < 4294967296) : q - 1 = (U * 4294967296 + v) / Y ∧ 1 ≤ q := by
  have hq := h.q_lt
  have hgt : (U * 4294967296 + v) / Y < q := by
    rcases ht with ht | ht
    · omega
    · exact (e.test h).1 ht
  have h1 : 1 ≤ q := Nat.lt_of_le_of_lt (Nat.zero_le _) hgt
  refine ⟨?_, h1⟩
  obtain ⟨p, rfl⟩ : ∃ p, q = p + 1 := ⟨q - 1, by omega⟩
  rw [Nat.add_sub_cancel]
  have hs := e.sum
  rw [Nat.add_mul, Nat.one_mul] at hs
  apply Nat.le_antisymm _ (Nat.le_of_lt_succ hgt)
  have hy := h.hY; have l1 := h.l1; have u0 := h.u0; have hle := e.le
  rw [Nat.le_div_iff_mul_le (by omega)]
  have h3 : p * Y = p * y1 * 4294967296 + p * y0 := by rw [hy, Nat.mul_add, Nat.mul_assoc]
  have h4 : p * y0 ≤ 4294967296 * 4294967295 := Nat.mul_le_mul (by omega) (by omega)
  rw [h3]
  generalize p * y1 = A at *
  generalize p * y0 = B at *
  omega
theorem cut_div (X Y v : Nat) : X * 4294967296 + v = X / Y * 4294967296 * Y + (X % Y * 4294967296 + v) := by
  have h := Nat.div_add_mod X Y
  revert h
  generalize X / Y = Q
  generalize X % Y = R
  intro h
  have e2 : Q * 4294967296 * Y = Y * Q * 4294967296 := by rw [Nat.mul_comm Y Q, Nat.mul_right_comm]
  rw [e2]
  revert h
  generalize Y * Q = P
  intro h
  omega
/-- Both digits and what is left. -/
theorem two_digits {N y s U V v1 v0 Y : Nat} (hn : U * 18446744073709551616 + V = N * 2 ^ s) (hY : Y = y * 2 ^ s) (hV : V = v1 * 4294967296 + v0) (hy : 0 < y) :
    N / y = (U * 4294967296 + v1) / Y * 4294967296 + ((U * 4294967296 + v1) % Y * 4294967296 + v0) / Y ∧
    N % y = ((U * 4294967296 + v1) % Y * 4294967296 + v0) % Y / 2 ^ s := by
  have hs : 0 < 2 ^ s := Nat.two_pow_pos s
  have hY0 : 0 < Y := by rw [hY]; exact Nat.mul_pos hy hs
  have e : N * 2 ^ s = (U * 4294967296 + v1) * 4294967296 + v0 := by rw [← hn, hV]; omega
  have h1 : (U * 4294967296 + v1) * 4294967296 + v0 = (U * 4294967296 + v1) / Y * 4294967296 * Y + ((U * 4294967296 + v1) % Y * 4294967296 + v0) := by
    exact cut_div _ _ _
  constructor
  · rw [← Nat.mul_div_mul_right _ _ hs, e, ← hY, h1, Nat.mul_comm _ Y, Nat.mul_add_div hY0]
  · have h2 := Nat.mul_mod_mul_right (2 ^ s) N y
    rw [e, ← hY, h1, Nat.mul_comm _ Y, Nat.mul_add_mod] at h2
    rw [h2, Nat.mul_div_cancel _ hs]
/-- The shift that makes a divisor's first bit one, and what it makes of all. -/
theorem norm_of {hi lo y s : Nat} (hs : s ≤ 63) (h1 : 9223372036854775808 ≤ y * 2 ^ s) (h2 : y * 2 ^ s < 18446744073709551616) (hlo : lo < 18446744073709551616) (hh : hi < y) :
    ∃ U V v1 v0 Y y1 y0 : Nat, Y = y * 2 ^ s ∧ U * 18446744073709551616 + V = (hi * 18446744073709551616 + lo) * 2 ^ s ∧ V = v1 * 4294967296 + v0 ∧ DivB U v1 y1 y0 Y ∧ v0 < 4294967296 ∧ V < 18446744073709551616 ∧
      IntKind.u64.wrap ((y : Int) * 2 ^ s) = (Y : Int) ∧ (Y : Int) / 4294967296 = (y1 : Int) ∧ bits .and .u64 (Y : Int) 4294967295 = (y0 : Int) ∧
      bits .or .u64 (IntKind.u64.wrap ((hi : Int) * 2 ^ s)) ((lo : Int) / 2 ^ (64 - s)) = (U : Int) ∧ IntKind.u64.wrap ((lo : Int) * 2 ^ s) = (V : Int) ∧ (V : Int) / 4294967296 = (v1 : Int) ∧ bits .and .u64 (V : Int) 4294967295 = (v0 : Int) := by
  have hp : 2 ^ (64 - s) * 2 ^ s = 18446744073709551616 := by rw [← Nat.pow_add, show 64 - s + s = 64 by omega]
  have hsp : 0 < 2 ^ s := Nat.two_pow_pos s
  have htp : 0 < 2 ^ (64 - s) := Nat.two_pow_pos _
  have hhi : hi * 2 ^ s < y * 2 ^ s := Nat.mul_lt_mul_of_pos_right hh hsp
  have c1 : ((2 : Int) ^ s) = ((2 ^ s : Nat) : Int) := by push_cast; rfl
  have c2 : ((2 : Int) ^ (64 - s)) = ((2 ^ (64 - s) : Nat) : Int) := by push_cast; rfl
  rw [c1, c2]
  have hc : lo / 2 ^ (64 - s) < 2 ^ s := by rw [Nat.div_lt_iff_lt_mul htp, Nat.mul_comm, hp]; exact hlo
  have hlo2 : lo * 2 ^ s = lo / 2 ^ (64 - s) * 18446744073709551616 + lo % 2 ^ (64 - s) * 2 ^ s := by
    conv => lhs; rw [← Nat.div_add_mod lo (2 ^ (64 - s))]
    rw [Nat.add_mul, Nat.mul_comm (2 ^ (64 - s)), Nat.mul_assoc, hp]
  have hlm : lo % 2 ^ (64 - s) * 2 ^ s < 18446744073709551616 := by rw [← hp]; exact Nat.mul_lt_mul_of_pos_right (Nat.mod_lt _ htp) hsp
  have hor : (hi * 2 ^ s) ||| (lo / 2 ^ (64 - s)) = hi * 2 ^ s + lo / 2 ^ (64 - s) := by
    rw [Nat.mul_comm hi, Nat.two_pow_add_eq_or_of_lt hc]
  have hm : (hi * 18446744073709551616 + lo) * 2 ^ s = hi * 2 ^ s * 18446744073709551616 + lo * 2 ^ s := by
    rw [Nat.add_mul, Nat.mul_right_comm]
  have hand : ∀ x : Nat, x < 18446744073709551616 → bits .and .u64 (x : Int) 4294967295 = ((x % 4294967296 : Nat) : Int) := fun x hx => by
    have := bits_and_u64_nat x 4294967295 hx (by decide)
    rw [show (x &&& 4294967295) = x % 4294967296 from Nat.and_two_pow_sub_one_eq_mod x 32] at this
    exact this
  have hmm : (hi + 1) * 2 ^ s ≤ y * 2 ^ s := Nat.mul_le_mul_right _ hh
  rw [Nat.add_mul, Nat.one_mul] at hmm
  have hb : ∀ x : Nat, x < 18446744073709551616 → IntKind.u64.wrap (x : Int) = (x : Int) := fun x hx => by rw [IntKind.wrap_u64]; omega
  have hw : ∀ x : Nat, IntKind.u64.wrap (x : Int) = ((x % 18446744073709551616 : Nat) : Int) := fun x => by rw [IntKind.wrap_u64]; omega
  have e1 : (hi : Int) * ((2 ^ s : Nat) : Int) = ((hi * 2 ^ s : Nat) : Int) := by rw [Int.natCast_mul]
  have e2 : (lo : Int) / ((2 ^ (64 - s) : Nat) : Int) = ((lo / 2 ^ (64 - s) : Nat) : Int) := by rw [Int.natCast_ediv]
  have e3 : (lo : Int) * ((2 ^ s : Nat) : Int) = ((lo * 2 ^ s : Nat) : Int) := by rw [Int.natCast_mul]
  have e4 : (y : Int) * ((2 ^ s : Nat) : Int) = ((y * 2 ^ s : Nat) : Int) := by rw [Int.natCast_mul]
  have hle : lo / 2 ^ (64 - s) ≤ lo := Nat.div_le_self _ _
  rw [e1, e2, e3, e4]
  rw [hlo2] at hm
  refine ⟨hi * 2 ^ s + lo / 2 ^ (64 - s), lo % 2 ^ (64 - s) * 2 ^ s, (lo % 2 ^ (64 - s) * 2 ^ s) / 4294967296, (lo % 2 ^ (64 - s) * 2 ^ s) % 4294967296, y * 2 ^ s, (y * 2 ^ s) / 4294967296, (y * 2 ^ s) % 4294967296, rfl, ?_, ?_, ⟨?_, ?_, ?_, ?_, ?_, ?_⟩, ?_, ?_, ?_, ?_, ?_, ?_, ?_, ?_, ?_⟩
  · rw [hm]; omega
  · omega
  · omega
  · omega
  · omega
  · omega
  · omega
  · omega
  · omega
  · exact hlm
  · exact hb _ h2
  · omega
  · exact hand _ h2
  · rw [hb _ (by omega), ← hor]
    exact bits_or_u64_nat _ _ (by omega) (by omega)
  · rw [hw, hlo2]; congr 1; omega
  · omega
  · exact hand _ hlm
end Go.Proofs.YthhmahmclkmjpaaDoor
