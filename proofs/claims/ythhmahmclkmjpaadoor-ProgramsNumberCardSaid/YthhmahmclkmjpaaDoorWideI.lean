/- Proved: wides.Int answers the number of 64 bits, or that it is none; for every wide. -/
import Derived.Test.YthhmahmclkmjpaaDoorWideH
namespace Go.Proofs.YthhmahmclkmjpaaDoor
open Go.RowKit
theorem wInt_eq {hi n hi1 : Int} {lo lo1 : Nat} (hl : lo < 18446744073709551616) (hn : IntKind.i64.wrap (lo : Int) = n) (hv : hi1 * 18446744073709551616 + lo1 = n) (hl1 : lo1 < 18446744073709551616) (b : Bool)
    (hb : b = decide (-9223372036854775808 ≤ hi * 18446744073709551616 + (lo : Int) ∧ hi * 18446744073709551616 + (lo : Int) ≤ 9223372036854775807)) : ((hi == hi1) && ((lo : Int) == (lo1 : Int))) = b := by
  rw [IntKind.wrap_i64] at hn
  subst hb
  rw [Bool.eq_iff_iff]
  simp only [Bool.and_eq_true, beq_iff_eq, decide_eq_true_eq]
  constructor
  · rintro ⟨rfl, h2⟩; omega
  · intro h; omega
theorem wInt_n {hi n : Int} {lo : Nat} (hl : lo < 18446744073709551616) (hn : IntKind.i64.wrap (lo : Int) = n) (h : -9223372036854775808 ≤ hi * 18446744073709551616 + (lo : Int) ∧ hi * 18446744073709551616 + (lo : Int) ≤ 9223372036854775807) : hi * 18446744073709551616 + (lo : Int) = n := by
  rw [IntKind.wrap_i64] at hn; omega
/-- What a wide tells as a number of 64 bits. -/
def intW (x : Int) : Int × Bool := if -9223372036854775808 ≤ x ∧ x ≤ 9223372036854775807 then (x, true) else (0, false)
set_option maxRecDepth 100000 in
set_option maxHeartbeats 4000000 in
theorem wInt_any (hi : Int) (lo : Nat) (hl : lo < 18446744073709551616) (w : World) :
    Calls Tryd.prog 19 #[.agg #[.int .i64 hi, .int .u64 (lo : Int)]] w fun e w' => e = .returned (.tuple #[.int .i64 (intW (hi * 18446744073709551616 + lo)).1, .bool (intW (hi * 18446744073709551616 + lo)).2]) ∧ Below w.heap.size w w' := by
  obtain ⟨n, hn⟩ : ∃ n, IntKind.i64.wrap (lo : Int) = n := ⟨_, rfl⟩
  have hnb : -9223372036854775808 ≤ n ∧ n ≤ 9223372036854775807 := by rw [IntKind.wrap_i64] at hn; omega
  obtain ⟨b, hb⟩ : ∃ b, b = decide (-9223372036854775808 ≤ hi * 18446744073709551616 + (lo : Int) ∧ hi * 18446744073709551616 + (lo : Int) ≤ 9223372036854775807) := ⟨_, rfl⟩
  have HE := Lib.hid (fun hi1 lo1 hv hl1 => @wInt_eq hi n hi1 lo lo1 hl hn hv hl1 b hb)
  have hr : intW (hi * 18446744073709551616 + lo) = if b then (n, true) else (0, false) := by
    unfold intW
    by_cases h : -9223372036854775808 ≤ hi * 18446744073709551616 + (lo : Int) ∧ hi * 18446744073709551616 + (lo : Int) ≤ 9223372036854775807
    · rw [if_pos h, hb]; simp only [h, and_self, decide_true, if_true]; rw [wInt_n hl hn h]
    · rw [if_neg h, hb]; simp only [h, decide_false]; rfl
  rw [hr]
  have Hn := Lib.hid hnb
  clear hr hb hnb hl
  have hal := (Below.refl w.heap.size w).alloc (Nat.le_refl _) (.cells #[.int .i64 hi, .int .u64 (lo : Int)] 48)
  have HC := Lib.hid (heapN (w := w) (k := w.heap.size) rfl (.cells #[.int .i64 hi, .int .u64 (lo : Int)] 48))
  have HAL := Lib.hid hal
  clear hal
  go_enter Tryd.func19, Tryd.ntmps19
  cases b
  all_goals
    go_upto_region 2 with (fail)
    generalize w.alloc (.cells #[.int .i64 hi, .int .u64 (lo : Int)] 48) = W3 at *
    obtain ⟨r0, r1, r2, r3, r4⟩ := row2 HC.out
    go_region_with (refine (wOf_any n Hn.out.1 Hn.out.2 _).mono ?_; rintro e w4 ⟨hi1, lo1, rfl, hv1, hl1, hh1, hb4⟩; have hb5 : Below W3.heap.size W3 w4 := (Below.refl W3.heap.size W3).drew.trans hb4; have HB5 := Lib.hid hb5; have heq := HE.out hi1 lo1 hv1 hl1; have hew := fun w => eq_wide hi lo hi1 lo1 w; rw [heq] at hew; clear heq hv1 hl1 hh1 hb4; obtain ⟨s0, s1, s2, s3, s4⟩ := row2 (heapB HC.out hb5); clear hb5)
    all_goals
      go_wp2_with fail
      go_ret2
      exact ⟨rfl, HAL.out.trans (HB5.out.mono HAL.out.size)⟩
end Go.Proofs.YthhmahmclkmjpaaDoor
