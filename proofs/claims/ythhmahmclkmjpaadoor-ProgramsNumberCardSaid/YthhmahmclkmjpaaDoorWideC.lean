/- Proved: sizes, wides of 64 bits, words times a word; for numbers within their words. -/
import Derived.Test.YthhmahmclkmjpaaDoorWideB
import Derived.Test.YthhmahmclkmjpaaDoorShelfD
namespace Go.Proofs.YthhmahmclkmjpaaDoor
open Go.RowKit
theorem neg_u64 (a : Int) (h0 : a < 0) (h1 : -9223372036854775808 ≤ a) : ∃ n : Nat, IntKind.u64.wrap (-IntKind.u64.wrap a) = (n : Int) ∧ (n : Int) = -a ∧ n ≤ 9223372036854775808 := by
  refine ⟨(-a).toNat, ?_, by omega, by omega⟩
  rw [IntKind.wrap_u64, IntKind.wrap_u64]; omega
set_option maxRecDepth 100000 in
set_option maxHeartbeats 4000000 in
theorem size_any (a : Int) (h1 : -9223372036854775808 ≤ a) (h2 : a ≤ 9223372036854775807) (w : World) :
    Calls Tryd.prog 68 #[.int .i64 a] w fun e w' => e = .returned (.int .u64 (a.natAbs : Int)) ∧ w' = w := by
  by_cases h0 : a < 0
  · obtain ⟨n, hn, hv, _⟩ := neg_u64 a h0 h1
    have d0 : decide (a < 0) = true := by simp; omega
    have hr : (a.natAbs : Int) = n := by omega
    go_enter Tryd.func68, Tryd.ntmps68
    rw [hr]
    clear hr hv h0 h1 h2
    go_wp2_with fail
    go_ret
    exact ⟨rfl, rfl⟩
  · have d0 : decide (a < 0) = false := by simp; omega
    have hw : IntKind.u64.wrap a = a := by rw [IntKind.wrap_u64]; omega
    have hr : (a.natAbs : Int) = a := by omega
    rw [hr]
    go_enter Tryd.func68, Tryd.ntmps68
    clear hr h0 h1 h2
    go_wp2_with fail
    go_ret
    exact ⟨rfl, rfl⟩
set_option maxRecDepth 100000 in
set_option maxHeartbeats 4000000 in
theorem wOf_any (a : Int) (h1 : -9223372036854775808 ≤ a) (h2 : a ≤ 9223372036854775807) (w : World) :
    Calls Tryd.prog 44 #[.int .i64 a] w fun e w' => ∃ (hi : Int) (lo : Nat), e = .returned (.agg #[.int .i64 hi, .int .u64 (lo : Int)]) ∧ hi * 18446744073709551616 + lo = a ∧ lo < 18446744073709551616 ∧ (hi = 0 ∨ hi = -1) ∧ Below w.heap.size w w' := by
  obtain ⟨hi, hhi⟩ : ∃ hi, a / 9223372036854775808 = hi := ⟨_, rfl⟩
  obtain ⟨lo, hlo⟩ : ∃ lo : Nat, IntKind.u64.wrap a = lo := ⟨(a % 18446744073709551616).toNat, by rw [IntKind.wrap_u64]; omega⟩
  have HR : Hid (hi * 18446744073709551616 + lo = a ∧ lo < 18446744073709551616 ∧ (hi = 0 ∨ hi = -1)) := Lib.hid (by rw [IntKind.wrap_u64] at hlo; omega)
  go_enter Tryd.func44, Tryd.ntmps44
  clear h1 h2
  go_wp2_with fail
  have hb := (Below.refl w.heap.size w).alloc (Nat.le_refl _) (.cells #[.int .i64 hi, .int .u64 (lo : Int)] 48)
  simp [bodyPost, results, Tryd.results44, go_sem]
  exact ⟨hi, lo, ⟨rfl, rfl⟩, HR.out.1, HR.out.2.1, HR.out.2.2, hb⟩
/-! times -/
theorem mul64n (x y : Nat) (hx : x < 18446744073709551616) (hy : y < 18446744073709551616) : ∃ h l : Nat, l < 18446744073709551616 ∧ h ≤ 18446744073709551614 ∧ l + h * 18446744073709551616 = x * y ∧
    ∀ w, Calls Tryd.prog 91 #[.int .u64 (x : Int), .int .u64 (y : Int)] w fun e w' => e = .returned (.tuple #[.int .u64 (h : Int), .int .u64 (l : Int)]) ∧ w' = w := by
  have hm : x * y ≤ 18446744073709551615 * 18446744073709551615 := Nat.mul_le_mul (by omega) (by omega)
  exact ⟨x * y / 18446744073709551616, x * y % 18446744073709551616, Nat.mod_lt _ (by decide), by omega, by omega, fun w => Tryd.bits_Mul64 x y hx hy w⟩
/-- What a product has after k rounds. -/
def TimesAt (a b n k c x y z : Nat) : Prop :=
  (k = 0 ∧ c = 0 ∧ x = 0 ∧ y = 0 ∧ z = 0) ∨ (k = 1 ∧ y = 0 ∧ z = 0 ∧ x + c * 18446744073709551616 = a * n) ∨
  (k = 2 ∧ z = 0 ∧ ∃ c1, x + c1 * 18446744073709551616 = a * n ∧ y + c * 18446744073709551616 = b * n + c1) ∨
  (k = 3 ∧ ∃ c1 c2, x + c1 * 18446744073709551616 = a * n ∧ y + c2 * 18446744073709551616 = b * n + c1 ∧ z = c2)
theorem times_law {a b n x y z : Nat} (h : TimesAt a b n 3 0 x y z) : x + y * 18446744073709551616 + z * 340282366920938463463374607431768211456 = (a + b * 18446744073709551616) * n := by
  rcases h with ⟨h, _⟩ | ⟨h, _⟩ | ⟨h, _⟩ | ⟨_, c1, c2, h1, h2, h3⟩
  · cases h
  · cases h
  · cases h
  · subst h3
    rw [Nat.add_mul, Nat.mul_right_comm]
    generalize a * n = A at *
    generalize b * n = B at *
    omega
theorem mul_step {W A l h s q cc c' : Nat} (h1 : l + h * W = A) (h2 : s + q * W = l + cc + 0) (h3 : h + q = c') : s + c' * W = A + cc := by
  subst h3 h1
  rw [Nat.add_mul]
  generalize q * W = Q at *
  generalize h * W = H at *
  omega
theorem mul_zero' {n l h s q cc c' : Nat} (h1 : l + h * 18446744073709551616 = 0 * n) (hs : s < 18446744073709551616) (hc : cc < 18446744073709551616) (h2 : s + q * 18446744073709551616 = l + cc + 0) (h3 : h + q = c') : s = cc ∧ c' = 0 := by
  rw [Nat.zero_mul] at h1; omega
set_option maxRecDepth 100000 in
set_option maxHeartbeats 4000000 in
theorem times_any (a b n : Nat) (ha : a < 18446744073709551616) (hb : b < 18446744073709551616) (hn : n < 18446744073709551616) (w : World) :
    Calls Tryd.prog 67 #[wdv a b 0, .int .u64 (n : Int)] w fun e w' => ∃ x y z : Nat, e = .returned (wdv x y z) ∧ x < 18446744073709551616 ∧ y < 18446744073709551616 ∧ z < 18446744073709551616 ∧
      x + y * 18446744073709551616 + z * 340282366920938463463374607431768211456 = (a + b * 18446744073709551616) * n ∧ Below w.heap.size w w' := by
  have Ha := Lib.hid ha; have Hb := Lib.hid hb; have Hn := Lib.hid hn
  clear ha hb hn
  go_enter Tryd.func67, Tryd.ntmps67
  go_wp2_with fail
  go_loopw [5, 9] (fun v5 v9 wr => ∃ k cc x y z : Nat, k ≤ 3 ∧ v9 = .int .i64 (k : Int) ∧ v5 = .int .u64 (cc : Int) ∧ Hid (TimesAt a b n k cc x y z ∧ cc < 18446744073709551616 ∧ x < 18446744073709551616 ∧ y < 18446744073709551616 ∧ z < 18446744073709551616 ∧ (k = 3 → cc = 0)) ∧ wr.heap[w.heap.size]? = some (.cells #[.int .u64 (a : Int), .int .u64 (b : Int), .int .u64 0] 98 (0, 0)) ∧ wr.heap[w.heap.size + 1]? = some (.cells #[.int .u64 (x : Int), .int .u64 (y : Int), .int .u64 (z : Int)] 98 (0, 0)) ∧ Below w.heap.size w wr) (fun _ v9 _ => 3 - (intOf v9).toNat)
  case atStart => exact ⟨0, 0, 0, 0, 0, by omega, rfl, rfl, Lib.hid ⟨.inl ⟨rfl, rfl, rfl, rfl, rfl⟩, by omega, by omega, by omega, by omega, fun h => by omega⟩, heapO (heapN rfl _) _, heapN (by simp) _, ((Below.refl _ w).alloc (Nat.le_refl _) _).alloc (by simp) _⟩
  case round =>
    obtain ⟨k, cc, x, y, z, hk, rfl, rfl, ht, hb0, hb1, hbw⟩ := hrel
    obtain ⟨s0, k0, k1, k2, -, -, -⟩ := row3 hb0
    obtain ⟨s1, o0, o1, o2, f0, f1, f2⟩ := row3 hb1
    have HB0 := Lib.hid hb0; have HB1 := Lib.hid hb1; have HB := Lib.hid hbw
    clear hb0 hb1 hbw
    have hk4 : k = 0 ∨ k = 1 ∨ k = 2 ∨ k = 3 := by omega
    rcases hk4 with rfl | rfl | rfl | rfl
    · obtain ⟨ht0, hc0, hx0, hy0, hz0, -⟩ := ht.out
      obtain ⟨h, l, hl, hh, he, hmul⟩ := mul64n a n Ha.out Hn.out
      obtain ⟨s, q, hs, hq, ad⟩ := add64n (l : Int) (cc : Int) 0 l cc 0 rfl rfl rfl (by omega)
      have hq1 : q ≤ 1 := by omega
      have HE := Lib.hid he; have HQ := Lib.hid hq
      obtain ⟨c', hc'⟩ : ∃ c', h + q = c' := ⟨_, rfl⟩
      have hw : IntKind.u64.wrap ((h : Int) + (q : Int)) = (c' : Int) := by rw [IntKind.wrap_u64]; omega
      have HT : Hid (TimesAt a b n 1 c' s y z ∧ c' < 18446744073709551616 ∧ s < 18446744073709551616 ∧ y < 18446744073709551616 ∧ z < 18446744073709551616 ∧ (1 = 3 → c' = 0)) := by
        have hms := mul_step he hq hc'
        have hcl : c' < 18446744073709551616 := by omega
        clear he hq hw ad hmul
        refine Lib.hid ⟨?_, hcl, by assumption, by assumption, by assumption, fun h3 => ?_⟩
        rotate_left
        · first | exact absurd h3 (by decide) | exact (mul_zero' HE.out hs hc0 HQ.out hc').2
        rcases ht0 with ⟨-, rfl, rfl, rfl, rfl⟩ | ⟨h3, -⟩ | ⟨h3, -⟩ | ⟨h3, -⟩ <;> first | (exact absurd h3 (by decide)) | skip
        exact .inr (.inl ⟨rfl, rfl, rfl, hms⟩)
      have e0 := heap_setCell_other wr ⟨w.heap.size + 1, 0, none⟩ w.heap.size (.int .u64 (s : Int)) (by show w.heap.size ≠ w.heap.size + 1; omega)
      have e1 := heap_setCell_same wr (w.heap.size + 1) 0 _ _ (.int .u64 (s : Int)) HB1.out
      have E0 := Lib.hid e0; have E1 := Lib.hid e1
      clear e0 e1 hs hq hq1 hc' he hl hh ht ht0 hc0 hx0 hy0 hz0
      go_wp2_with fail
      refine (hmul _).mono ?_
      rintro e w1 ⟨rfl, rfl⟩
      clear hmul
      go_wp2_with fail
      go_roundw
      case rel => exact ⟨1, c', s, y, z, by omega, rfl, rfl, Lib.hid (by simpa using HT.out), E0.out.trans HB0.out, E1.out.trans rfl, HB.out.setCell (by show w.heap.size ≤ w.heap.size + 1; omega) _⟩
      case measure => simp [intOf]
    · obtain ⟨ht0, hc0, hx0, hy0, hz0, -⟩ := ht.out
      obtain ⟨h, l, hl, hh, he, hmul⟩ := mul64n b n Hb.out Hn.out
      obtain ⟨s, q, hs, hq, ad⟩ := add64n (l : Int) (cc : Int) 0 l cc 0 rfl rfl rfl (by omega)
      have hq1 : q ≤ 1 := by omega
      have HE := Lib.hid he; have HQ := Lib.hid hq
      obtain ⟨c', hc'⟩ : ∃ c', h + q = c' := ⟨_, rfl⟩
      have hw : IntKind.u64.wrap ((h : Int) + (q : Int)) = (c' : Int) := by rw [IntKind.wrap_u64]; omega
      have HT : Hid (TimesAt a b n 2 c' x s z ∧ c' < 18446744073709551616 ∧ x < 18446744073709551616 ∧ s < 18446744073709551616 ∧ z < 18446744073709551616 ∧ (2 = 3 → c' = 0)) := by
        have hms := mul_step he hq hc'
        have hcl : c' < 18446744073709551616 := by omega
        clear he hq hw ad hmul
        refine Lib.hid ⟨?_, hcl, by assumption, by assumption, by assumption, fun h3 => ?_⟩
        rotate_left
        · first | exact absurd h3 (by decide) | exact (mul_zero' HE.out hs hc0 HQ.out hc').2
        rcases ht0 with ⟨h3, -⟩ | ⟨-, rfl, rfl, h1⟩ | ⟨h3, -⟩ | ⟨h3, -⟩ <;> first | (exact absurd h3 (by decide)) | skip
        exact .inr (.inr (.inl ⟨rfl, rfl, cc, h1, hms⟩))
      have e0 := heap_setCell_other wr ⟨w.heap.size + 1, 1, none⟩ w.heap.size (.int .u64 (s : Int)) (by show w.heap.size ≠ w.heap.size + 1; omega)
      have e1 := heap_setCell_same wr (w.heap.size + 1) 1 _ _ (.int .u64 (s : Int)) HB1.out
      have E0 := Lib.hid e0; have E1 := Lib.hid e1
      clear e0 e1 hs hq hq1 hc' he hl hh ht ht0 hc0 hx0 hy0 hz0
      go_wp2_with fail
      refine (hmul _).mono ?_
      rintro e w1 ⟨rfl, rfl⟩
      clear hmul
      go_wp2_with fail
      go_roundw
      case rel => exact ⟨2, c', x, s, z, by omega, rfl, rfl, Lib.hid (by simpa using HT.out), E0.out.trans HB0.out, E1.out.trans rfl, HB.out.setCell (by show w.heap.size ≤ w.heap.size + 1; omega) _⟩
      case measure => simp [intOf]
    · obtain ⟨ht0, hc0, hx0, hy0, hz0, -⟩ := ht.out
      obtain ⟨h, l, hl, hh, he, hmul⟩ := mul64n 0 n (by decide) Hn.out
      obtain ⟨s, q, hs, hq, ad⟩ := add64n (l : Int) (cc : Int) 0 l cc 0 rfl rfl rfl (by omega)
      have hq1 : q ≤ 1 := by omega
      have HE := Lib.hid he; have HQ := Lib.hid hq
      obtain ⟨c', hc'⟩ : ∃ c', h + q = c' := ⟨_, rfl⟩
      have hw : IntKind.u64.wrap ((h : Int) + (q : Int)) = (c' : Int) := by rw [IntKind.wrap_u64]; omega
      have HT : Hid (TimesAt a b n 3 c' x y s ∧ c' < 18446744073709551616 ∧ x < 18446744073709551616 ∧ y < 18446744073709551616 ∧ s < 18446744073709551616 ∧ (3 = 3 → c' = 0)) := by
        have hms := mul_step he hq hc'
        have hcl : c' < 18446744073709551616 := by omega
        clear he hq hw ad hmul
        refine Lib.hid ⟨?_, hcl, by assumption, by assumption, by assumption, fun h3 => ?_⟩
        rotate_left
        · first | exact absurd h3 (by decide) | exact (mul_zero' HE.out hs hc0 HQ.out hc').2
        rcases ht0 with ⟨h3, -⟩ | ⟨h3, -⟩ | ⟨-, rfl, c1, h1, h2⟩ | ⟨h3, -⟩ <;> first | (exact absurd h3 (by decide)) | skip
        exact .inr (.inr (.inr ⟨rfl, c1, cc, h1, h2, (mul_zero' HE.out hs hc0 HQ.out hc').1⟩))
      have e0 := heap_setCell_other wr ⟨w.heap.size + 1, 2, none⟩ w.heap.size (.int .u64 (s : Int)) (by show w.heap.size ≠ w.heap.size + 1; omega)
      have e1 := heap_setCell_same wr (w.heap.size + 1) 2 _ _ (.int .u64 (s : Int)) HB1.out
      have E0 := Lib.hid e0; have E1 := Lib.hid e1
      clear e0 e1 hs hq hq1 hc' he hl hh ht ht0 hc0 hx0 hy0 hz0
      go_wp2_with fail
      refine (hmul _).mono ?_
      rintro e w1 ⟨rfl, rfl⟩
      clear hmul
      go_wp2_with fail
      go_roundw
      case rel => exact ⟨3, c', x, y, s, by omega, rfl, rfl, Lib.hid (by simpa using HT.out), E0.out.trans HB0.out, E1.out.trans rfl, HB.out.setCell (by show w.heap.size ≤ w.heap.size + 1; omega) _⟩
      case measure => simp [intOf]
    · obtain ⟨ht0, hc0, hx0, hy0, hz0, h3⟩ := ht.out
      obtain rfl := h3 rfl
      have HL := Lib.hid (times_law ht0); have Hx := Lib.hid hx0; have Hy := Lib.hid hy0; have Hz := Lib.hid hz0
      clear ht ht0 hc0 hx0 hy0 hz0 h3
      go_wp2_with fail
      obtain ⟨-, g0, g1, g2, gb, -⟩ := set3 wr (w.heap.size + 1) _ _ _ _ (.int .u64 (x : Int)) (.int .u64 (y : Int)) (.int .u64 (z : Int)) HB1.out _ rfl
      have Hf := Lib.hid (HB.out.trans (gb w.heap.size (by omega)))
      clear gb
      generalize ((wr.setCell ⟨w.heap.size + 1, 0, none⟩ (.int .u64 (x : Int))).setCell ⟨w.heap.size + 1, 1, none⟩ (.int .u64 (y : Int))).setCell ⟨w.heap.size + 1, 2, none⟩ (.int .u64 (z : Int)) = W9 at *
      simp [bodyPost, results, Tryd.results67, go_sem, g0, g1, g2]
      exact ⟨x, y, z, ⟨rfl, rfl, rfl⟩, Hx.out, Hy.out, Hz.out, HL.out, Hf.out⟩
end Go.Proofs.YthhmahmclkmjpaaDoor
