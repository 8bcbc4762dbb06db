/- Proved: wides.Times and Mul answer the product; where it fits. -/
import Derived.Test.YthhmahmclkmjpaaDoorWideC
namespace Go.Proofs.YthhmahmclkmjpaaDoor
open Go.RowKit
theorem part_any (hi : Int) (lo : Nat) (h0 : -9223372036854775808 ≤ hi) (h1 : hi ≤ 9223372036854775807) (hl : lo < 18446744073709551616) (w : World) :
    Calls Tryd.prog 62 #[.agg #[.int .i64 hi, .int .u64 (lo : Int)]] w fun e w' => ∃ x y : Nat, e = .returned (ptv (decide (hi < 0)) x y 0) ∧ AbsW hi lo x y ∧ Below w.heap.size w w' := by
  by_cases h : hi < 0
  · rw [show decide (hi < 0) = true by simp [h]]; exact part_neg hi lo h h0 hl w
  · rw [show decide (hi < 0) = false by simp [h]]; exact part_pos hi lo (by omega) h1 hl w
/-- A number of two words with its sign. -/
def sgnW (m : Bool) (x y : Nat) : Int := if m then -((x + y * 18446744073709551616 : Nat) : Int) else ((x + y * 18446744073709551616 : Nat) : Int)
theorem whole_any (m : Bool) (x y : Nat) (hx : x < 18446744073709551616) (h0 : -170141183460469231731687303715884105728 ≤ sgnW m x y) (h1 : sgnW m x y < 170141183460469231731687303715884105728) (w : World) :
    Calls Tryd.prog 64 #[ptv m x y 0] w fun e w' => ∃ (hi : Int) (lo : Nat), e = .returned (.tuple #[.agg #[.int .i64 hi, .int .u64 (lo : Int)], .int .i64 0]) ∧ lo < 18446744073709551616 ∧
      hi * 18446744073709551616 + lo = sgnW m x y ∧ -9223372036854775808 ≤ hi ∧ hi ≤ 9223372036854775807 ∧ Below w.heap.size w w' := by
  cases m
  · simp only [sgnW] at h0 h1 ⊢
    exact (whole_pos x y hx (by simp at h1; omega) w).mono fun e w' ⟨h2, h3⟩ => ⟨y, x, h2, hx, by simp; omega, by omega, by simp at h1; omega, h3⟩
  · simp only [sgnW] at h0 h1 ⊢
    exact (whole_neg x y hx (by simp at h0; omega) w).mono fun e w' ⟨hi, lo, h2, h3, h4, h5, h6, h7⟩ => ⟨hi, lo, h2, h3, by simpa using h4, h5, by omega, h7⟩
theorem abs_eq {hi : Int} {lo x y : Nat} (h : AbsW hi lo x y) : x + y * 18446744073709551616 = (hi * 18446744073709551616 + lo).natAbs := by
  obtain ⟨h1, h2, h3, h4⟩ := h
  by_cases h0 : hi < 0
  · have := h4 h0; omega
  · have := h3 (by omega); omega
theorem abs_neg {hi : Int} {lo x y : Nat} (hl : lo < 18446744073709551616) (h : AbsW hi lo x y) : sgnW (decide (hi < 0)) x y = hi * 18446744073709551616 + lo := by
  have := abs_eq h
  unfold sgnW
  by_cases h0 : hi < 0 <;> simp [h0] <;> omega
theorem times_sgn {hi n : Int} {lo x y z X Y : Nat} (hl : lo < 18446744073709551616) (h : AbsW hi lo x y) (hX : X < 18446744073709551616) (hY : Y < 18446744073709551616)
    (ht : X + Y * 18446744073709551616 + z * 340282366920938463463374607431768211456 = (x + y * 18446744073709551616) * n.natAbs)
    (h0 : -170141183460469231731687303715884105728 ≤ (hi * 18446744073709551616 + lo) * n) (h1 : (hi * 18446744073709551616 + lo) * n < 170141183460469231731687303715884105728) :
    z = 0 ∧ sgnW (decide (hi < 0) != decide (n < 0)) X Y = (hi * 18446744073709551616 + lo) * n := by
  rw [abs_eq h] at ht
  have hs : decide (hi < 0) = decide (hi * 18446744073709551616 + lo < 0) := by
    by_cases h0 : hi < 0 <;> simp [h0] <;> omega
  rw [hs]
  generalize hi * 18446744073709551616 + lo = v at *
  rw [← Int.natAbs_mul] at ht
  have hz : z = 0 := by omega
  subst hz
  refine ⟨rfl, ?_⟩
  unfold sgnW
  by_cases a : v < 0 <;> by_cases b : n < 0 <;> simp [a, b]
  · have := Int.mul_nonneg_of_nonpos_of_nonpos (Int.le_of_lt a) (Int.le_of_lt b); omega
  · have := Int.mul_nonpos_of_nonpos_of_nonneg (Int.le_of_lt a) (Int.not_lt.1 b); omega
  · have := Int.mul_nonpos_of_nonneg_of_nonpos (Int.not_lt.1 a) (Int.le_of_lt b); omega
  · have := Int.mul_nonneg (Int.not_lt.1 a) (Int.not_lt.1 b); omega
set_option maxRecDepth 100000 in
set_option maxHeartbeats 4000000 in
theorem wTimes_any (hi n : Int) (lo : Nat) (h0 : -9223372036854775808 ≤ hi) (h1 : hi ≤ 9223372036854775807) (hl : lo < 18446744073709551616) (hn0 : -9223372036854775808 ≤ n) (hn1 : n ≤ 9223372036854775807)
    (hm0 : -170141183460469231731687303715884105728 ≤ (hi * 18446744073709551616 + lo) * n) (hm1 : (hi * 18446744073709551616 + lo) * n < 170141183460469231731687303715884105728) (w : World) :
    Calls Tryd.prog 45 #[.agg #[.int .i64 hi, .int .u64 (lo : Int)], .int .i64 n] w fun e w' => ∃ (hi' : Int) (lo' : Nat), e = .returned (.tuple #[.agg #[.int .i64 hi', .int .u64 (lo' : Int)], .int .i64 0]) ∧ lo' < 18446744073709551616 ∧
      hi' * 18446744073709551616 + lo' = (hi * 18446744073709551616 + lo) * n ∧ -9223372036854775808 ≤ hi' ∧ hi' ≤ 9223372036854775807 ∧ Below w.heap.size w w' := by
  have HT := Lib.hid (fun x y z X Y ha hX hY ht => @times_sgn hi n lo x y z X Y hl ha hX hY ht hm0 hm1)
  have H0 := Lib.hid h0; have H1 := Lib.hid h1; have Hl := Lib.hid hl; have Hn0 := Lib.hid hn0; have Hn1 := Lib.hid hn1; have Hm0 := Lib.hid hm0; have Hm1 := Lib.hid hm1
  clear h0 h1 hl hn0 hn1 hm0 hm1
  obtain ⟨dh, hdh⟩ : ∃ b, decide (hi < 0) = b := ⟨_, rfl⟩
  obtain ⟨dn, hdn⟩ : ∃ b, decide (n < 0) = b := ⟨_, rfl⟩
  have Hdh := Lib.hid hdh
  clear hdh
  go_enter Tryd.func45, Tryd.ntmps45
  go_wp2_with fail
  refine (part_any hi lo H0.out H1.out Hl.out _).mono ?_
  rintro e w1 ⟨x, y, rfl, hA, hb⟩
  rw [Hdh.out]
  have hB1 := heapB (heapN (w := w.alloc (.cells #[.int .i64 hi, .int .u64 (lo : Int)] 48)) (k := w.heap.size + 1) (by simp) (.cells #[.int .i64 0, .int .u64 0] 48)) hb
  have hbl := (((Below.refl w.heap.size w).alloc (Nat.le_refl _) (.cells #[.int .i64 hi, .int .u64 (lo : Int)] 48)).alloc (by simp) (.cells #[.int .i64 0, .int .u64 0] 48)).trans (hb.mono (by simp; omega))
  have hBp := heapN (w := w1) (k := w1.heap.size) rfl (.cells #[.bool dh, .int .u64 (x : Int), .int .u64 (y : Int), .int .u64 0] 100)
  have HA := Lib.hid hA; have HB1 := Lib.hid hB1; have HBL := Lib.hid hbl; have HBp := Lib.hid hBp
  clear hA hb hB1 hbl hBp
  go_upto_region 2 with (fail)
  have hB1 := heapO HB1.out (.cells #[.bool dh, .int .u64 (x : Int), .int .u64 (y : Int), .int .u64 0] 100)
  have hbl := HBL.out.alloc HBL.out.size (.cells #[.bool dh, .int .u64 (x : Int), .int .u64 (y : Int), .int .u64 0] 100)
  have hne : w.heap.size + 1 ≠ w1.heap.size := fun e => by
    have := (Array.getElem?_eq_some_iff.1 HB1.out).1
    omega
  have hle : w.heap.size ≤ w1.heap.size := HBL.out.size
  have hBp := HBp.out
  clear HB1 HBL HBp
  generalize w1.alloc (.cells #[.bool dh, .int .u64 (x : Int), .int .u64 (y : Int), .int .u64 0] 100) = wp at *
  generalize w1.heap.size = Bp at *
  obtain ⟨p0, p1, p2, p3, p4, p5, p6, p7, p8⟩ := row4 hBp
  have HB1 := Lib.hid hB1; have HBL := Lib.hid hbl; have HBp := Lib.hid hBp; have Hne := Lib.hid hne; have Hle := Lib.hid hle
  clear hB1 hbl hBp hne hle
  go_cut [] from 9 (fun wc => ∃ X Y : Nat, wc.heap[Bp]? = some (.cells #[.bool dh, .int .u64 (X : Int), .int .u64 (Y : Int), .int .u64 0] 100 (0, 0)) ∧ Hid (X < 18446744073709551616 ∧ sgnW (dh != dn) X Y = (hi * 18446744073709551616 + lo) * n) ∧ wc.heap[w.heap.size + 1]? = some (.cells #[.int .i64 0, .int .u64 0] 48 (0, 0)) ∧ Below w.heap.size w wc)
  case first =>
    go_region_with (first
      | (refine (size_any n Hn0.out Hn1.out _).mono ?_; rintro e w2 ⟨rfl, rfl⟩)
      | (refine (times_any x y n.natAbs HA.out.1 (by have := HA.out.2.1; omega) (by have := Hn0.out; have := Hn1.out; omega) _).mono ?_; rintro e w3 ⟨X, Y, z, rfl, hX, hY, hz, ht, hb3⟩; have hb4 : Below wp.heap.size wp w3 := (Below.refl wp.heap.size wp).drew.trans hb3; obtain ⟨rfl, hsg⟩ := HT.out x y z X Y HA.out hX hY ht; rw [Hdh.out, hdn] at hsg; have HX := Lib.hid (And.intro hX hsg); have HBp3 := Lib.hid (heapB HBp.out hb4); have HB13 := Lib.hid (heapB HB1.out hb4); have HBL3 := Lib.hid (HBL.out.trans (hb4.mono HBL.out.size)); clear hX hY hz ht hb3 hb4 hsg; obtain ⟨m0, k0, m1, m2, m3, f0, f1, f2, f3⟩ := row4 HBp3.out))
    all_goals
      have HS3 := Lib.hid (set3b w3 Bp _ _ _ _ _ (.int .u64 (X : Int)) (.int .u64 (Y : Int)) (.int .u64 0) HBp3.out _ rfl)
      go_wp2_with fail
      go_meet
      case rel => exact ⟨X, Y, HS3.out.1, HX, (HS3.out.2.2 _ Hne.out).trans HB13.out, HBL3.out.trans (HS3.out.2.1 _ Hle.out)⟩
  case rest =>
    obtain ⟨X, Y, hBp, hX, hB1, hbl⟩ := hcut
    clear p0 p1 p2 p3 p4 p5 p6 p7 p8
    obtain ⟨p0, p1, p2, p3, p4, p5, p6, p7, p8⟩ := row4 hBp
    have HBp := Lib.hid hBp; have HB1 := Lib.hid hB1; have HBL := Lib.hid hbl
    obtain ⟨mm, hmm⟩ : ∃ m, (dh != dn) = m := ⟨_, rfl⟩
    have hX2 := hX.out
    rw [hmm] at hX2
    have HX := Lib.hid hX2
    have h1 := heap_setCell_same wc Bp 0 _ _ (.bool mm) hBp
    have h2 := (heap_setCell_other wc ⟨Bp, 0, none⟩ (w.heap.size + 1) (.bool mm) Hne.out).trans hB1
    have h3 : Below w.heap.size w (wc.setCell ⟨Bp, 0, none⟩ (.bool mm)) := hbl.setCell Hle.out _
    have H1 := Lib.hid h1; have H2 := Lib.hid h2; have H3 := Lib.hid h3
    clear hBp hB1 hbl hX hX2 h1 h2 h3
    go_wp2_with fail
    have hmm2 : (!(dh == dn)) = mm := by rw [← hmm]; cases dh <;> cases dn <;> rfl
    rw [hmm2]
    clear hmm hmm2
    generalize wc.setCell ⟨Bp, 0, none⟩ (.bool mm) = wp at *
    refine (whole_any mm X Y HX.out.1 (by rw [HX.out.2]; exact Hm0.out) (by rw [HX.out.2]; exact Hm1.out) _).mono ?_
    rintro e w4 ⟨hi', lo', rfl, hl, hv, g0, g1, hb⟩
    have hB1 := heapB H2.out hb
    have HF := Lib.hid (H3.out.trans (hb.mono H3.out.size))
    have HB1 := Lib.hid hB1
    obtain ⟨q0, q1, q2, q3, q4⟩ := row2 hB1
    have HR := Lib.hid (And.intro hl (And.intro (hv.trans HX.out.2) (And.intro g0 g1)))
    clear hB1 hb hl hv g0 g1 p0 p1 p2 p3 p4 p5 p6 p7 p8
    go_wp2_with fail
    obtain ⟨-, g0, g1, gb, -⟩ := set2 w4 (w.heap.size + 1) _ _ _ (.int .i64 hi') (.int .u64 (lo' : Int)) HB1.out _ rfl
    have Hf := Lib.hid (HF.out.trans (gb w.heap.size (by omega)))
    clear gb
    generalize (w4.setCell ⟨w.heap.size + 1, 0, none⟩ (.int .i64 hi')).setCell ⟨w.heap.size + 1, 1, none⟩ (.int .u64 (lo' : Int)) = W9 at *
    simp [bodyPost, results, Tryd.results45, go_sem, g0, g1]
    exact ⟨hi', lo', ⟨rfl, rfl⟩, HR.out.1, HR.out.2.1, HR.out.2.2.1, HR.out.2.2.2, Hf.out⟩
set_option maxRecDepth 100000 in
set_option maxHeartbeats 4000000 in
/-- wides.Mul: a product. -/
theorem wMul_any (a n : Int) (h0 : -9223372036854775808 ≤ a) (h1 : a ≤ 9223372036854775807) (hn0 : -9223372036854775808 ≤ n) (hn1 : n ≤ 9223372036854775807)
    (hm0 : -170141183460469231731687303715884105728 ≤ a * n) (hm1 : a * n < 170141183460469231731687303715884105728) (w : World) :
    Calls Tryd.prog 18 #[.int .i64 a, .int .i64 n] w fun e w' => ∃ (hi' : Int) (lo' : Nat), e = .returned (.agg #[.int .i64 hi', .int .u64 (lo' : Int)]) ∧ lo' < 18446744073709551616 ∧
      hi' * 18446744073709551616 + lo' = a * n ∧ -9223372036854775808 ≤ hi' ∧ hi' ≤ 9223372036854775807 ∧ Below w.heap.size w w' := by
  have H0 := Lib.hid h0; have H1 := Lib.hid h1; have Hn0 := Lib.hid hn0; have Hn1 := Lib.hid hn1; have Hm0 := Lib.hid hm0; have Hm1 := Lib.hid hm1
  clear h0 h1 hn0 hn1 hm0 hm1
  go_enter Tryd.func18, Tryd.ntmps18
  go_wp2_with fail
  refine (wOf_any a H0.out H1.out _).mono ?_
  rintro e w1 ⟨hi, lo, rfl, hv, hl, hh, hb⟩
  have hB1 := heapB (heapN (w := w) (k := w.heap.size) rfl (.cells #[.int .i64 0, .int .u64 0] 48)) hb
  have hbl := ((Below.refl w.heap.size w).alloc (Nat.le_refl _) (.cells #[.int .i64 0, .int .u64 0] 48)).trans (hb.mono (by simp))
  have HV := Lib.hid hv; have HL := Lib.hid hl; have HH := Lib.hid hh; have HB1 := Lib.hid hB1; have HBL := Lib.hid hbl
  clear hv hl hh hb hB1 hbl
  go_wp2_with fail
  refine (wTimes_any hi n lo (by rcases HH.out with h | h <;> omega) (by rcases HH.out with h | h <;> omega) HL.out Hn0.out Hn1.out (by rw [HV.out]; exact Hm0.out) (by rw [HV.out]; exact Hm1.out) _).mono ?_
  rintro e w2 ⟨hi', lo', rfl, hl, hv, g0, g1, hb⟩
  rw [HV.out] at hv
  have HR := Lib.hid (And.intro hl (And.intro hv (And.intro g0 g1)))
  have hB2 := heapB HB1.out hb
  have HBL2 := Lib.hid (HBL.out.trans (hb.mono HBL.out.size))
  have HB2 := Lib.hid hB2
  obtain ⟨q0, q1, q2, q3, q4⟩ := row2 hB2
  clear hl hv g0 g1 hb hB2
  go_wp2_with fail
  obtain ⟨hB3, -, -, gb, -⟩ := set2 w2 w.heap.size _ _ _ (.int .i64 hi') (.int .u64 (lo' : Int)) HB2.out _ rfl
  have hbl3 := HBL2.out.trans (gb w.heap.size (by omega))
  clear q0 q1 q2 q3 q4 gb
  generalize (w2.setCell ⟨w.heap.size, 0, none⟩ (.int .i64 hi')).setCell ⟨w.heap.size, 1, none⟩ (.int .u64 (lo' : Int)) = w3 at *
  have Hf := Lib.hid (hbl3.alloc hbl3.size (.cells #[.int .i64 hi', .int .u64 (lo' : Int)] 48))
  obtain ⟨-, g0, g1, -, -⟩ := row2 (heapO hB3 (.cells #[.int .i64 hi', .int .u64 (lo' : Int)] 48))
  clear hB3 hbl3
  generalize w3.alloc (.cells #[.int .i64 hi', .int .u64 (lo' : Int)] 48) = W9 at *
  simp [bodyPost, results, Tryd.results18, go_sem, g0, g1]
  exact ⟨hi', lo', ⟨rfl, rfl⟩, HR.out.1, HR.out.2.1, HR.out.2.2.1, HR.out.2.2.2, Hf.out⟩
end Go.Proofs.YthhmahmclkmjpaaDoor
