/- Proved: a wide parted into sign and words, and made whole again; for numbers that fit. -/
import Derived.Test.YthhmahmclkmjpaaDoorWideA
namespace Go.Proofs.YthhmahmclkmjpaaDoor
open Go.RowKit
theorem conv_u64 (hi : Int) (hy : Nat) (h : hi = hy) (hl : hy < 18446744073709551616) : IntKind.u64.wrap hi = (hy : Int) := by rw [IntKind.wrap_u64]; omega
theorem conv_u64_neg (hi : Int) (hy : Nat) (h : hi + 18446744073709551616 = hy) (hl : hy < 18446744073709551616) : IntKind.u64.wrap hi = (hy : Int) := by rw [IntKind.wrap_u64]; omega
abbrev ptv (m : Bool) (a b c : Nat) : Value := .agg #[.bool m, .int .u64 (a : Int), .int .u64 (b : Int), .int .u64 (c : Int)]
/-- How far a number of two words is from 0, as two words. -/
def AbsW (hi : Int) (lo : Nat) (x y : Nat) : Prop := x < 18446744073709551616 ∧ y ≤ 9223372036854775808 ∧ (0 ≤ hi → x = lo ∧ (y : Int) = hi) ∧ (hi < 0 → ((x + y * 18446744073709551616 : Nat) : Int) = -(hi * 18446744073709551616 + lo))
set_option maxRecDepth 100000 in
set_option maxHeartbeats 4000000 in
theorem part_pos (hi : Int) (lo : Nat) (h0 : 0 ≤ hi) (h1 : hi ≤ 9223372036854775807) (hl : lo < 18446744073709551616) (w : World) :
    Calls Tryd.prog 62 #[.agg #[.int .i64 hi, .int .u64 (lo : Int)]] w fun e w' => ∃ x y : Nat, e = .returned (ptv false x y 0) ∧ AbsW hi lo x y ∧ Below w.heap.size w w' := by
  obtain ⟨hy, hhy⟩ := Int.eq_ofNat_of_zero_le h0
  have cu := conv_u64 hi hy hhy (by omega)
  have d0 : decide (hi < 0) = false := by simp; omega
  have hA : AbsW hi lo lo hy := ⟨hl, by omega, fun _ => ⟨rfl, hhy.symm⟩, fun h => absurd h (by omega)⟩
  have HA := Lib.hid hA; have Hl := Lib.hid hl
  clear hA hl hhy h0 h1
  go_enter Tryd.func62, Tryd.ntmps62
  go_wp2_with fail
  have hbl := (((Below.refl w.heap.size w).alloc (Nat.le_refl _) (.cells #[.int .i64 hi, .int .u64 (lo : Int)] 48)).alloc (by simp) (.cells #[.bool false, .int .u64 (lo : Int), .int .u64 (hy : Int), .int .u64 0] 100)).alloc (by simp; omega) (.cells #[.bool false, .int .u64 (lo : Int), .int .u64 (hy : Int), .int .u64 0] 100)
  simp [bodyPost, results, Tryd.results62, go_sem]
  exact ⟨lo, hy, ⟨rfl, rfl⟩, HA.out, hbl⟩
theorem neg_abs {hi : Int} {lo hy x y : Nat} (h0 : hi < 0) (h1 : -9223372036854775808 ≤ hi) (hl : lo < 18446744073709551616) (hh : hi + 18446744073709551616 = hy) (hx : x < 18446744073709551616) (hy2 : y < 18446744073709551616)
    (he : x + y * 18446744073709551616 = (340282366920938463463374607431768211456 - (lo + hy * 18446744073709551616)) % 340282366920938463463374607431768211456) : AbsW hi lo x y := by
  rw [Nat.mod_eq_of_lt (by omega)] at he
  exact ⟨hx, by omega, fun h => absurd h (by omega), fun _ => by omega⟩
set_option maxRecDepth 100000 in
set_option maxHeartbeats 4000000 in
theorem part_neg (hi : Int) (lo : Nat) (h0 : hi < 0) (h1 : -9223372036854775808 ≤ hi) (hl : lo < 18446744073709551616) (w : World) :
    Calls Tryd.prog 62 #[.agg #[.int .i64 hi, .int .u64 (lo : Int)]] w fun e w' => ∃ x y : Nat, e = .returned (ptv true x y 0) ∧ AbsW hi lo x y ∧ Below w.heap.size w w' := by
  obtain ⟨hy, hhy⟩ : ∃ hy : Nat, hi + 18446744073709551616 = hy := ⟨(hi + 18446744073709551616).toNat, by omega⟩
  have cu := conv_u64_neg hi hy hhy (by omega)
  have d0 : decide (hi < 0) = true := by simp; omega
  have HA := Lib.hid (fun x y => @neg_abs hi lo hy x y h0 h1 hl hhy); have Hl := Lib.hid hl
  have Hhy : Hid (hy < 18446744073709551616) := Lib.hid (by omega)
  clear hl hhy h0 h1
  go_enter Tryd.func62, Tryd.ntmps62
  go_wp2_with fail
  refine (turned_any lo hy 0 Hl.out Hhy.out _).mono ?_
  rintro e w1 ⟨x, y, rfl, hx, hy2, he, hb⟩
  have hB1 := heapB (heapO (heapN (w := w.alloc (.cells #[.int .i64 hi, .int .u64 (lo : Int)] 48)) (k := w.heap.size + 1) (by simp) (.cells #[.bool false, .int .u64 0, .int .u64 0, .int .u64 0] 100)) (.cells #[.bool true, .int .u64 (lo : Int), .int .u64 (hy : Int), .int .u64 0] 100)) hb
  have hB2 := heapB (heapN (w := (w.alloc (.cells #[.int .i64 hi, .int .u64 (lo : Int)] 48)).alloc (.cells #[.bool false, .int .u64 0, .int .u64 0, .int .u64 0] 100)) (k := w.heap.size + 1 + 1) (by simp) (.cells #[.bool true, .int .u64 (lo : Int), .int .u64 (hy : Int), .int .u64 0] 100)) hb
  have hbl := ((((Below.refl w.heap.size w).alloc (Nat.le_refl _) (.cells #[.int .i64 hi, .int .u64 (lo : Int)] 48)).alloc (by simp) (.cells #[.bool false, .int .u64 0, .int .u64 0, .int .u64 0] 100)).alloc (by simp; omega) (.cells #[.bool true, .int .u64 (lo : Int), .int .u64 (hy : Int), .int .u64 0] 100)).trans (hb.mono (by simp; omega))
  have HR := Lib.hid (HA.out x y hx hy2 he)
  clear hb he hx hy2
  obtain ⟨p1, p2, p3, p4, p5, p6, p7, p8, p9⟩ := row4 hB1
  obtain ⟨q1, q2, q3, q4, q5, q6, q7, q8, q9⟩ := row4 hB2
  have HB1 := Lib.hid hB1; have HB2 := Lib.hid hB2; have HBL := Lib.hid hbl
  clear hB1 hB2 hbl
  go_wp2_with fail
  obtain ⟨-, ab, ao⟩ := set3b w1 (w.heap.size + 1 + 1) _ _ _ _ _ (.int .u64 (x : Int)) (.int .u64 (y : Int)) (.int .u64 0) HB2.out _ rfl
  have hb1 := (ao (w.heap.size + 1) (by omega)).trans HB1.out
  have hb9 := HBL.out.trans (ab w.heap.size (by omega))
  clear ab ao p1 p2 p3 p4 p5 p6 p7 p8 p9 q1 q2 q3 q4 q5 q6 q7 q8 q9
  generalize ((w1.setCell ⟨w.heap.size + 1 + 1, 1, none⟩ (.int .u64 (x : Int))).setCell ⟨w.heap.size + 1 + 1, 2, none⟩ (.int .u64 (y : Int))).setCell ⟨w.heap.size + 1 + 1, 3, none⟩ (.int .u64 0) = W2 at hb1 hb9 ⊢
  obtain ⟨-, g0, g1, g2, g3, gb, -⟩ := set4 W2 (w.heap.size + 1) _ _ _ _ _ (.bool true) (.int .u64 (x : Int)) (.int .u64 (y : Int)) (.int .u64 0) hb1 _ rfl
  have Hf := Lib.hid (hb9.trans (gb w.heap.size (by omega)))
  clear gb hb1 hb9
  generalize (((W2.setCell ⟨w.heap.size + 1, 0, none⟩ (.bool true)).setCell ⟨w.heap.size + 1, 1, none⟩ (.int .u64 (x : Int))).setCell ⟨w.heap.size + 1, 2, none⟩ (.int .u64 (y : Int))).setCell ⟨w.heap.size + 1, 3, none⟩ (.int .u64 0) = W9 at *
  simp [bodyPost, results, Tryd.results62, go_sem, g0, g1, g2, g3]
  exact ⟨x, y, ⟨rfl, rfl⟩, HR.out, Hf.out⟩
theorem eq_words (a b c a' b' c' : Int) (w : World) : (Op.equalIn 9999 98 (.agg #[.int .u64 a, .int .u64 b, .int .u64 c]) (.agg #[.int .u64 a', .int .u64 b', .int .u64 c'])).run Tryd.prog w = .ok (a == a' && (b == b' && c == c')) w := by
  have u3 := Tryd.underlying46
  have a3 := Tryd.isAgg46
  have z3 := Tryd.sizeOf46
  rw [show (9999 : Nat) = 9998 + 1 from rfl, Op.equalIn]
  simp only [Sem.run_bind, run_underlying Tryd.underlying98, Result.andThen_ok]
  simp only [Std.Legacy.Range.forIn_eq_forIn_range', Std.Legacy.Range.size, Nat.sub_zero, Nat.add_sub_cancel, Nat.div_one, List.range'_succ, List.range'_zero, List.forIn_cons, List.forIn_nil]
  go_simp
  by_cases h1 : a = a' <;> by_cases h2 : b = b' <;> by_cases h3 : c = c' <;> simp [h1, h2, h3]
/-! whole: a number of a sign and two words, as a wide. -/
set_option maxRecDepth 100000 in
set_option maxHeartbeats 4000000 in
theorem whole_pos (x y : Nat) (hx : x < 18446744073709551616) (hy : y < 9223372036854775808) (w : World) :
    Calls Tryd.prog 64 #[ptv false x y 0] w fun e w' => e = .returned (.tuple #[.agg #[.int .i64 (y : Int), .int .u64 (x : Int)], .int .i64 0]) ∧ Below w.heap.size w w' := by
  have e1 : IntKind.i64.wrap (y : Int) = (y : Int) := by rw [IntKind.wrap_i64]; omega
  have e2 : (y : Int) / 9223372036854775808 = 0 := by omega
  clear hx hy
  go_enter Tryd.func64, Tryd.ntmps64
  go_wp2_with fail
  have hbl := (((Below.refl w.heap.size w).alloc (Nat.le_refl _) (.cells #[.bool false, .int .u64 (x : Int), .int .u64 (y : Int), .int .u64 0] 100)).alloc (by simp) (.cells #[.int .i64 (y : Int), .int .u64 (x : Int)] 48)).alloc (by simp; omega) (.cells #[.bool true, .int .u64 0, .int .u64 9223372036854775808, .int .u64 0] 100)
  simp [bodyPost, results, Tryd.results64, go_sem]
  exact hbl
theorem neg_hi {x y x2 y2 : Nat} (h : x + y * 18446744073709551616 ≤ 170141183460469231731687303715884105728) (hx : x2 < 18446744073709551616) (hy : y2 < 18446744073709551616)
    (he : x2 + y2 * 18446744073709551616 = (340282366920938463463374607431768211456 - (x + y * 18446744073709551616)) % 340282366920938463463374607431768211456) :
    ∃ hi : Int, IntKind.i64.wrap (y2 : Int) = hi ∧ hi * 18446744073709551616 + x2 = -((x + y * 18446744073709551616 : Nat) : Int) ∧ -9223372036854775808 ≤ hi ∧ hi ≤ 0 := by
  rcases Nat.eq_zero_or_pos (x + y * 18446744073709551616) with h0 | h0
  · rw [h0, Nat.sub_zero, Nat.mod_self] at he
    refine ⟨0, ?_, ?_, by omega, by omega⟩
    · rw [IntKind.wrap_i64]; omega
    · rw [h0]; omega
  · rw [Nat.mod_eq_of_lt (by omega)] at he
    refine ⟨(y2 : Int) - 18446744073709551616, ?_, ?_, by omega, by omega⟩
    · rw [IntKind.wrap_i64]; omega
    · omega
set_option maxRecDepth 100000 in
set_option maxHeartbeats 4000000 in
theorem whole_neg (x y : Nat) (hx : x < 18446744073709551616) (hxy : x + y * 18446744073709551616 ≤ 170141183460469231731687303715884105728) (w : World) :
    Calls Tryd.prog 64 #[ptv true x y 0] w fun e w' => ∃ (hi : Int) (lo : Nat), e = .returned (.tuple #[.agg #[.int .i64 hi, .int .u64 (lo : Int)], .int .i64 0]) ∧ lo < 18446744073709551616 ∧
      hi * 18446744073709551616 + lo = -((x + y * 18446744073709551616 : Nat) : Int) ∧ -9223372036854775808 ≤ hi ∧ hi ≤ 0 ∧ Below w.heap.size w w' := by
  have hy2 : y < 18446744073709551616 := by omega
  have hcase : (((x : Int) == 0) = true ∧ ((y : Int) == 9223372036854775808) = true) ∨ (((x : Int) == 0) = true ∧ ((y : Int) == 9223372036854775808) = false ∧ (y : Int) / 9223372036854775808 = 0) ∨ (((x : Int) == 0) = false ∧ (y : Int) / 9223372036854775808 = 0) := by
    simp; omega
  have HA := Lib.hid (fun x2 y2 => @neg_hi x y x2 y2 hxy); have Hx := Lib.hid hx; have Hy := Lib.hid hy2
  clear hx hxy hy2
  have hq := eq_words x y 0 0 9223372036854775808 0
  rcases hcase with ⟨c1, c2⟩ | ⟨c1, c2, c3⟩ | ⟨c1, c3⟩
  all_goals
    first | simp only [c1, c2, Bool.true_and, Bool.false_and] at hq | simp only [c1, Bool.false_and] at hq
    go_enter Tryd.func64, Tryd.ntmps64
    go_wp2_with fail
    refine (turned_any x y 0 Hx.out Hy.out _).mono ?_
    rintro e w1 ⟨x2, y2, rfl, hx2, hy2, he, hb⟩
    obtain ⟨hi, hw, hv, h1, h2⟩ := HA.out x2 y2 hx2 hy2 he
    have hB1 := heapB (heapO (heapO (heapN (w := w) (k := w.heap.size) rfl (.cells #[.bool true, .int .u64 (x : Int), .int .u64 (y : Int), .int .u64 0] 100)) (.cells #[.int .i64 0, .int .u64 0] 48)) (.cells #[.bool true, .int .u64 0, .int .u64 9223372036854775808, .int .u64 0] 100)) hb
    have hB2 := heapB (heapO (heapN (w := w.alloc (.cells #[.bool true, .int .u64 (x : Int), .int .u64 (y : Int), .int .u64 0] 100)) (k := w.heap.size + 1) (by simp) (.cells #[.int .i64 0, .int .u64 0] 48)) (.cells #[.bool true, .int .u64 0, .int .u64 9223372036854775808, .int .u64 0] 100)) hb
    have hbl := ((((Below.refl w.heap.size w).alloc (Nat.le_refl _) (.cells #[.bool true, .int .u64 (x : Int), .int .u64 (y : Int), .int .u64 0] 100)).alloc (by simp) (.cells #[.int .i64 0, .int .u64 0] 48)).alloc (by simp; omega) (.cells #[.bool true, .int .u64 0, .int .u64 9223372036854775808, .int .u64 0] 100)).trans (hb.mono (by simp; omega))
    have Hv := Lib.hid hv; have H1 := Lib.hid h1; have H2 := Lib.hid h2; have Hx2 := Lib.hid hx2
    clear hb he hx2 hy2 hv h1 h2
    obtain ⟨p1, p2, p3, p4, p5, p6, p7, p8, p9⟩ := row4 hB1
    obtain ⟨q1, q2, q3, q4, q5⟩ := row2 hB2
    have HB1 := Lib.hid hB1; have HB2 := Lib.hid hB2; have HBL := Lib.hid hbl
    clear hB1 hB2 hbl
    go_wp2_with fail
    obtain ⟨-, ab, ao⟩ := set3b w1 w.heap.size _ _ _ _ _ (.int .u64 (x2 : Int)) (.int .u64 (y2 : Int)) (.int .u64 0) HB1.out _ rfl
    have hb1 := (ao (w.heap.size + 1) (by omega)).trans HB2.out
    have hb9 := HBL.out.trans (ab w.heap.size (by omega))
    clear ab ao p1 p2 p3 p4 p5 p6 p7 p8 p9 q1 q2 q3 q4 q5 hq
    generalize ((w1.setCell ⟨w.heap.size, 1, none⟩ (.int .u64 (x2 : Int))).setCell ⟨w.heap.size, 2, none⟩ (.int .u64 (y2 : Int))).setCell ⟨w.heap.size, 3, none⟩ (.int .u64 0) = W2 at hb1 hb9 ⊢
    obtain ⟨-, g0, g1, gb, -⟩ := set2 W2 (w.heap.size + 1) _ _ _ (.int .i64 hi) (.int .u64 (x2 : Int)) hb1 _ rfl
    have Hf := Lib.hid (hb9.trans (gb w.heap.size (by omega)))
    clear gb hb1 hb9
    generalize (W2.setCell ⟨w.heap.size + 1, 0, none⟩ (.int .i64 hi)).setCell ⟨w.heap.size + 1, 1, none⟩ (.int .u64 (x2 : Int)) = W9 at *
    simp [bodyPost, results, Tryd.results64, go_sem, g0, g1]
    exact ⟨hi, x2, ⟨rfl, rfl⟩, Hx2.out, Hv.out, H1.out, H2.out, Hf.out⟩
end Go.Proofs.YthhmahmclkmjpaaDoor
