/- Proved: words divided by a word; for a divisor that is not 0. -/
import Derived.Test.YthhmahmclkmjpaaDoorWideC
import Derived.Test.YthhmahmclkmjpaaDoorDiv64
namespace Go.Proofs.YthhmahmclkmjpaaDoor
open Go.RowKit
theorem div_lt_w (W hi lo y : Nat) (hl : lo < W) (hh : hi < y) : (hi * W + lo) / y < W := by
  rw [Nat.div_lt_iff_lt_mul (by omega)]
  have : (hi + 1) * W ≤ y * W := Nat.mul_le_mul_right _ hh
  rw [Nat.mul_comm W y]
  rw [Nat.add_mul, Nat.one_mul] at this
  omega
theorem div64n (hi lo y : Nat) (hy : y < 18446744073709551616) (hlo : lo < 18446744073709551616) (hh : hi < y) : ∃ q r : Nat, q = (hi * 18446744073709551616 + lo) / y ∧ r = (hi * 18446744073709551616 + lo) % y ∧ q < 18446744073709551616 ∧ r < y ∧
    ∀ w, Calls Tryd.prog 89 #[.int .u64 (hi : Int), .int .u64 (lo : Int), .int .u64 (y : Int)] w fun e w' => e = .returned (.tuple #[.int .u64 (q : Int), .int .u64 (r : Int)]) ∧ Below w.heap.size w w' := by
  refine ⟨_, _, rfl, rfl, ?_, Nat.mod_lt _ (by omega), fun w => div64_any hi lo y w hy hlo hh⟩
  exact div_lt_w _ _ _ _ hlo hh
theorem divided_law (W a b d : Nat) (hd : 0 < d) : (a + b * W) / d = (b % d * W + a) / d + b / d * W ∧ (a + b * W) % d = (b % d * W + a) % d := by
  have h := Nat.div_add_mod b d
  have e : a + b * W = d * (b / d * W) + (b % d * W + a) := by
    have : b * W = d * (b / d) * W + b % d * W := by rw [← Nat.add_mul, h]
    rw [this, Nat.mul_assoc]; omega
  constructor
  · rw [e, Nat.mul_add_div hd, Nat.add_comm]
  · rw [e, Nat.mul_add_mod]
set_option maxRecDepth 100000 in
set_option maxHeartbeats 4000000 in
theorem divided_any (a b c d : Nat) (ha : a < 18446744073709551616) (hb : b < 18446744073709551616) (hd : d < 18446744073709551616) (hd0 : 0 < d) (w : World) :
    Calls Tryd.prog 63 #[wdv a b c, .int .u64 (d : Int)] w fun e w' => ∃ q0 q1 r : Nat, e = .returned (.tuple #[wdv q0 q1 0, .int .u64 (r : Int)]) ∧ q0 < 18446744073709551616 ∧ q1 ≤ b ∧ r < d ∧
      q0 + q1 * 18446744073709551616 = (a + b * 18446744073709551616) / d ∧ r = (a + b * 18446744073709551616) % d ∧ Below w.heap.size w w' := by
  obtain ⟨q1, r1, hq1, hr1, hl1, hrl1, call1⟩ := div64n 0 b d hd hb hd0
  obtain ⟨q0, r0, hq0, hr0, hl0, hrl0, call0⟩ := div64n r1 a d hd ha hrl1
  have hlaw := divided_law 18446744073709551616 a b d hd0
  rw [Nat.zero_mul, Nat.zero_add] at hq1 hr1
  rw [← hr1, ← hq1, ← hq0, ← hr0] at hlaw
  have hqb : q1 ≤ b := by rw [hq1]; exact Nat.div_le_self _ _
  have HL := Lib.hid hlaw; have Hl0 := Lib.hid hl0; have Hr0 := Lib.hid hrl0; have Hqb := Lib.hid hqb
  clear hlaw hl0 hrl0 hqb hq1 hr1 hl1 hrl1 hq0 hr0 ha hb hd hd0
  go_enter Tryd.func63, Tryd.ntmps63
  go_wp2_with fail
  go_loopw [5, 6] (fun v5 v6 wr => ∃ (k : Nat) (i : Int) (r x y : Nat), k ≤ 2 ∧ v6 = .int .i64 i ∧ v5 = .int .u64 (r : Int) ∧ Hid ((k = 0 ∧ i = 1 ∧ r = 0 ∧ x = 0 ∧ y = 0) ∨ (k = 1 ∧ i = 0 ∧ r = r1 ∧ x = 0 ∧ y = q1) ∨ (k = 2 ∧ i = -1 ∧ r = r0 ∧ x = q0 ∧ y = q1)) ∧ wr.heap[w.heap.size]? = some (.cells #[.int .u64 (a : Int), .int .u64 (b : Int), .int .u64 (c : Int)] 98 (0, 0)) ∧ wr.heap[w.heap.size + 1]? = some (.cells #[.int .u64 (x : Int), .int .u64 (y : Int), .int .u64 0] 98 (0, 0)) ∧ Below w.heap.size w wr) (fun _ v6 _ => (intOf v6 + 1).toNat)
  case atStart => exact ⟨0, 1, 0, 0, 0, by omega, rfl, rfl, Lib.hid (.inl ⟨rfl, rfl, rfl, rfl, rfl⟩), heapO (heapN rfl _) _, heapN (by simp) _, ((Below.refl _ w).alloc (Nat.le_refl _) _).alloc (by simp) _⟩
  case round =>
    obtain ⟨k, i, r, x, y, hk, rfl, rfl, ht, hb0, hb1, hbw⟩ := hrel
    rcases ht.out with ⟨rfl, rfl, rfl, rfl, rfl⟩ | ⟨rfl, rfl, rfl, rfl, rfl⟩ | ⟨rfl, rfl, rfl, rfl, rfl⟩
    · obtain ⟨s0, k0, k1, k2, -, -, -⟩ := row3 hb0
      obtain ⟨s1, o0, o1, o2, f0, f1, f2⟩ := row3 hb1
      have HB0 := Lib.hid hb0; have HB1 := Lib.hid hb1; have HB := Lib.hid hbw
      clear hb0 hb1 hbw ht hk
      go_wp2_with fail
      refine (call1 _).mono ?_
      rintro e w1 ⟨rfl, hb⟩
      have hn0 := heapB HB0.out hb; have hn1 := heapB HB1.out hb; have hbl := HB.out.trans (hb.mono (by omega))
      clear s0 k0 k1 k2 s1 o0 o1 o2 f0 f1 f2 hb
      obtain ⟨s1, o0, o1, o2, f0, f1, f2⟩ := row3 hn1
      have e1 := heap_setCell_same w1 (w.heap.size + 1) 1 _ _ (.int .u64 (q1 : Int)) hn1
      have e0 := heap_setCell_other w1 ⟨w.heap.size + 1, 1, none⟩ w.heap.size (.int .u64 (q1 : Int)) (by show w.heap.size ≠ w.heap.size + 1; omega)
      have E1 := Lib.hid e1; have E0 := Lib.hid (e0.trans hn0); have HBL := Lib.hid hbl
      clear e0 e1 hn0 hn1 hbl
      go_wp2_with fail
      go_roundw
      case rel => exact ⟨1, 0, r1, 0, q1, by omega, rfl, rfl, Lib.hid (.inr (.inl ⟨rfl, rfl, rfl, rfl, rfl⟩)), E0.out, E1.out.trans rfl, HBL.out.setCell (by show w.heap.size ≤ w.heap.size + 1; omega) _⟩
      case measure => simp [intOf]
    · obtain ⟨s0, k0, k1, k2, -, -, -⟩ := row3 hb0
      obtain ⟨s1, o0, o1, o2, f0, f1, f2⟩ := row3 hb1
      have HB0 := Lib.hid hb0; have HB1 := Lib.hid hb1; have HB := Lib.hid hbw
      clear hb0 hb1 hbw ht hk
      go_wp2_with fail
      refine (call0 _).mono ?_
      rintro e w1 ⟨rfl, hb⟩
      have hn0 := heapB HB0.out hb; have hn1 := heapB HB1.out hb; have hbl := HB.out.trans (hb.mono (by omega))
      clear s0 k0 k1 k2 s1 o0 o1 o2 f0 f1 f2 hb
      obtain ⟨s1, o0, o1, o2, f0, f1, f2⟩ := row3 hn1
      have e1 := heap_setCell_same w1 (w.heap.size + 1) 0 _ _ (.int .u64 (q0 : Int)) hn1
      have e0 := heap_setCell_other w1 ⟨w.heap.size + 1, 0, none⟩ w.heap.size (.int .u64 (q0 : Int)) (by show w.heap.size ≠ w.heap.size + 1; omega)
      have E1 := Lib.hid e1; have E0 := Lib.hid (e0.trans hn0); have HBL := Lib.hid hbl
      clear e0 e1 hn0 hn1 hbl
      go_wp2_with fail
      go_roundw
      case rel => exact ⟨2, -1, r0, q0, _, by omega, rfl, rfl, Lib.hid (.inr (.inr ⟨rfl, rfl, rfl, rfl, rfl⟩)), E0.out, E1.out.trans rfl, HBL.out.setCell (by show w.heap.size ≤ w.heap.size + 1; omega) _⟩
      case measure => simp [intOf]
    · obtain ⟨s1, o0, o1, o2, f0, f1, f2⟩ := row3 hb1
      have HB1 := Lib.hid hb1; have HB := Lib.hid hbw
      clear hb0 hb1 hbw ht hk call0 call1
      go_wp2_with fail
      obtain ⟨-, g0, g1, g2, gb, -⟩ := set3 wr (w.heap.size + 1) _ _ _ _ (.int .u64 (x : Int)) (.int .u64 (y : Int)) (.int .u64 0) HB1.out _ rfl
      have Hf := Lib.hid (HB.out.trans (gb w.heap.size (by omega)))
      clear gb
      generalize ((wr.setCell ⟨w.heap.size + 1, 0, none⟩ (.int .u64 (x : Int))).setCell ⟨w.heap.size + 1, 1, none⟩ (.int .u64 (y : Int))).setCell ⟨w.heap.size + 1, 2, none⟩ (.int .u64 0) = W9 at *
      simp [bodyPost, results, Tryd.results63, go_sem, g0, g1, g2]
      exact ⟨x, y, _, ⟨⟨rfl, rfl⟩, rfl⟩, Hl0.out, Hqb.out, Hr0.out, HL.out.1.symm, HL.out.2.symm, Hf.out⟩
end Go.Proofs.YthhmahmclkmjpaaDoor
