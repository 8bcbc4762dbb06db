/- Proved: wides.Near answers the nearest; for a divisor from 1 on. -/
import Derived.Test.YthhmahmclkmjpaaDoorWideG
namespace Go.Proofs.YthhmahmclkmjpaaDoor
open Go.RowKit
theorem near_law {x d q r : Int} (hd : 0 < d) (hq : q = x / d) (hr : r = x % d) : (2 * x + d) / (2 * d) = if d ≤ 2 * r then q + 1 else q := by
  have h := Int.mul_ediv_add_emod x d
  have h0 := Int.emod_nonneg x (by omega : d ≠ 0)
  have h1 := Int.emod_lt_of_pos x hd
  rw [← hq, ← hr] at h
  rw [← hr] at h0 h1
  split
  · rename_i hc
    have e : 2 * x + d = (2 * r - d) + (2 * d) * (q + 1) := by
      rw [← h, Int.mul_add (2 * d) q 1, Int.mul_add 2, Int.mul_assoc 2 d q]; omega
    rw [e, Int.add_mul_ediv_left _ _ (by omega), Int.ediv_eq_zero_of_lt (by omega) (by omega)]
    omega
  · rename_i hc
    have e : 2 * x + d = (2 * r + d) + (2 * d) * q := by
      rw [← h, Int.mul_add 2, Int.mul_assoc 2 d q]; omega
    rw [e, Int.add_mul_ediv_left _ _ (by omega), Int.ediv_eq_zero_of_lt (by omega) (by omega)]
    omega
theorem near_small {x d q r : Int} (hd : 0 < d) (hq : q = x / d) (hr : r = x % d) (h2 : d ≤ 2 * r) (hx : x < 170141183460469231731687303715884105728) (hx0 : -170141183460469231731687303715884105728 ≤ x) :
    q + 1 < 170141183460469231731687303715884105728 ∧ -170141183460469231731687303715884105728 ≤ q + 1 := by
  have h := Int.mul_ediv_add_emod x d
  have h0 := Int.emod_nonneg x (by omega : d ≠ 0)
  have h1 := Int.emod_lt_of_pos x hd
  rw [← hq, ← hr] at h
  rw [← hr] at h0 h1
  have hd2 : 2 ≤ d := by omega
  rcases Int.lt_or_le q 0 with hn | hp
  · have : d * (q + 1) ≤ 2 * (q + 1) := Int.mul_le_mul_of_nonpos_right hd2 (by omega)
    rw [Int.mul_add d q 1] at this
    omega
  · have : 2 * q ≤ d * q := Int.mul_le_mul_of_nonneg_right hd2 hp
    omega
set_option maxRecDepth 100000 in
set_option maxHeartbeats 4000000 in
theorem wNear_any (hi : Int) (lo d : Nat) (h0 : -9223372036854775808 ≤ hi) (h1 : hi ≤ 9223372036854775807) (hl : lo < 18446744073709551616) (hd0 : 1 ≤ d) (hd1 : d ≤ 9223372036854775807) (w : World) :
    Calls Tryd.prog 17 #[.agg #[.int .i64 hi, .int .u64 (lo : Int)], .int .i64 (d : Int)] w fun e w' => ∃ (qh : Int) (ql : Nat), e = .returned (.tuple #[.agg #[.int .i64 qh, .int .u64 (ql : Int)], .int .i64 0]) ∧ ql < 18446744073709551616 ∧
      qh * 18446744073709551616 + ql = (2 * (hi * 18446744073709551616 + lo) + d) / (2 * (d : Int)) ∧ -9223372036854775808 ≤ qh ∧ qh ≤ 9223372036854775807 ∧ Below w.heap.size w w' := by
  have H0 := Lib.hid h0; have H1 := Lib.hid h1; have Hl := Lib.hid hl; have Hd0 := Lib.hid hd0; have Hd1 := Lib.hid hd1
  have HN := Lib.hid (fun q r => @near_law (hi * 18446744073709551616 + lo) d q r (by omega))
  have HM := Lib.hid (fun q r hq hr h2 => @near_small (hi * 18446744073709551616 + lo) d q r (by omega) hq hr h2 (by omega) (by omega))
  clear h0 h1 hl hd0 hd1
  go_enter Tryd.func17, Tryd.ntmps17
  go_wp2_with fail
  refine (wFloor_any hi lo d H0.out H1.out Hl.out Hd0.out Hd1.out _).mono ?_
  rintro e w1 ⟨qh, ql, r, rfl, hql, hqv, hr, g0, g1, hb⟩
  have hR1 := heapB (heapN (w := w.alloc (.cells #[.int .i64 hi, .int .u64 (lo : Int)] 48)) (k := w.heap.size + 1) (by simp) (.cells #[.int .i64 0, .int .u64 0] 48)) hb
  have hbl := (((Below.refl w.heap.size w).alloc (Nat.le_refl _) (.cells #[.int .i64 hi, .int .u64 (lo : Int)] 48)).alloc (by simp) (.cells #[.int .i64 0, .int .u64 0] 48)).trans (hb.mono (by simp; omega))
  have HR1 := Lib.hid (heapO hR1 (.cells #[.int .i64 qh, .int .u64 (ql : Int)] 48)); have HBL := Lib.hid (hbl.alloc hbl.size (.cells #[.int .i64 qh, .int .u64 (ql : Int)] 48))
  have HQ1 := Lib.hid (heapN (w := w1) (k := w1.heap.size) rfl (.cells #[.int .i64 qh, .int .u64 (ql : Int)] 48))
  have Hsz : Hid (w.heap.size ≤ w1.heap.size ∧ w.heap.size + 1 < w1.heap.size) := Lib.hid ⟨hbl.size, by have := (Array.getElem?_eq_some_iff.1 hR1).1; exact this⟩
  have hrd : r < d := by have := Int.emod_lt_of_pos (hi * 18446744073709551616 + (lo : Int)) (show (0 : Int) < d by have := Hd0.out; omega); omega
  have wd : wrap64 ((d : Int) - (r : Int)) = (d : Int) - (r : Int) := by have := Hd1.out; unfold wrap64; omega
  have wd' : IntKind.i64.wrap ((d : Int) - (r : Int)) = (d : Int) - (r : Int) := by have := Hd1.out; rw [IntKind.wrap_i64]; omega
  have HQV := Lib.hid (And.intro hql (And.intro hqv (And.intro hr (And.intro g0 g1))))
  clear hb hR1 hbl hql hqv hr g0 g1 hrd
  obtain ⟨r0, r1, r2, r3, r4⟩ := row2 HR1.out
  obtain ⟨q0, q1, q2, q3, q4⟩ := row2 HQ1.out
  by_cases hc : (d : Int) ≤ 2 * r
  · have dc : decide ((d : Int) - (r : Int) ≤ (r : Int)) = true := by simp; omega
    have hlaw := HN.out _ _ HQV.out.2.1 HQV.out.2.2.1
    rw [if_pos hc] at hlaw
    have hsm := HM.out _ _ HQV.out.2.1 HQV.out.2.2.1 hc
    have HLW := Lib.hid hlaw; have HSM := Lib.hid hsm
    clear hc hlaw hsm HN HM
    go_upto_region 3 with (fail)
    generalize w1.alloc (.cells #[.int .i64 qh, .int .u64 (ql : Int)] 48) = W3 at *
    generalize w1.heap.size = Bq at *
    go_cut [8] from 25 (fun v8 wc => v8 = .int .i64 0 ∧ ∃ (fh : Int) (fl : Nat), wc.heap[Bq]? = some (.cells #[.int .i64 fh, .int .u64 (fl : Int)] 48 (0, 0)) ∧ Hid (fl < 18446744073709551616 ∧ fh * 18446744073709551616 + fl = (2 * (hi * 18446744073709551616 + lo) + d) / (2 * (d : Int)) ∧ -9223372036854775808 ≤ fh ∧ fh ≤ 9223372036854775807) ∧ wc.heap[w.heap.size + 1]? = some (.cells #[.int .i64 0, .int .u64 0] 48 (0, 0)) ∧ Below w.heap.size w wc)
    case first =>
      go_region_with (first
        | (refine (wOf_any 1 (by decide) (by decide) _).mono ?_; rintro e w4 ⟨hi1, lo1, rfl, hv1, hl1, hh1, hb4⟩; have hb5 : Below W3.heap.size W3 w4 := (Below.refl W3.heap.size W3).drew.trans hb4; have HB5 := Lib.hid hb5; have HV1 := Lib.hid (And.intro hv1 (And.intro hl1 hh1)); obtain ⟨s0, s1, s2, s3, s4⟩ := row2 (heapB HQ1.out hb5); clear hb4 hb5 hv1 hl1 hh1)
        | (refine (wAdd_any qh hi1 ql lo1 HQV.out.2.2.2 (by rcases HV1.out.2.2 with h | h <;> omega) HQV.out.1 HV1.out.2.1 (by rw [HV1.out.1]; exact HSM.out.2) (by rw [HV1.out.1]; exact HSM.out.1) _).mono ?_; rintro e w5 ⟨fh, fl, rfl, hfl, hfv, hf0, hf1, hb6⟩; have HB6 := Lib.hid (HB5.out.trans (hb6.mono HB5.out.size)); have HFV := Lib.hid (And.intro hfl (And.intro hfv (And.intro hf0 hf1))); clear hfl hfv hf0 hf1 hb6; obtain ⟨t0, t1, t2, t3, t4⟩ := row2 (heapB HQ1.out HB6.out)))
      all_goals
        have HS6 := Lib.hid (set2 w5 Bq _ _ _ (.int .i64 fh) (.int .u64 (fl : Int)) (heapB HQ1.out HB6.out) _ rfl)
        have HFF : Hid (fl < 18446744073709551616 ∧ fh * 18446744073709551616 + fl = (2 * (hi * 18446744073709551616 + lo) + d) / (2 * (d : Int)) ∧ -9223372036854775808 ≤ fh ∧ fh ≤ 9223372036854775807) :=
          Lib.hid ⟨HFV.out.1, by rw [HFV.out.2.1, HV1.out.1, HLW.out], HFV.out.2.2.1, HFV.out.2.2.2⟩
        go_wp2_with fail
        go_meet
        case rel => exact ⟨rfl, fh, fl, HS6.out.1, HFF, (HS6.out.2.2.2.2 _ (by have := Hsz.out; omega)).trans (heapB HR1.out HB6.out), (HBL.out.trans (HB6.out.mono HBL.out.size)).trans (HS6.out.2.2.2.1 w.heap.size (by have := Hsz.out; omega))⟩
    case rest =>
      obtain ⟨rfl, fh, fl, hQ, HF, hR, hbl⟩ := hcut
      clear q0 q1 q2 q3 q4 r0 r1 r2 r3 r4
      obtain ⟨q0, q1, q2, q3, q4⟩ := row2 hQ
      obtain ⟨r0, r1, r2, r3, r4⟩ := row2 hR
      have HR9 := Lib.hid hR; have HBL9 := Lib.hid hbl
      clear hR hbl hQ
      go_wp2_with fail
      obtain ⟨-, g0, g1, gb, -⟩ := set2 wc (w.heap.size + 1) _ _ _ (.int .i64 fh) (.int .u64 (fl : Int)) HR9.out _ rfl
      have Hf := Lib.hid (HBL9.out.trans (gb w.heap.size (by omega)))
      clear gb
      generalize (wc.setCell ⟨w.heap.size + 1, 0, none⟩ (.int .i64 fh)).setCell ⟨w.heap.size + 1, 1, none⟩ (.int .u64 (fl : Int)) = W9 at *
      simp [bodyPost, results, Tryd.results17, go_sem, g0, g1]
      exact ⟨fh, fl, ⟨rfl, rfl⟩, HF.out.1, HF.out.2.1, HF.out.2.2.1, HF.out.2.2.2, Hf.out⟩
  · have dc : decide ((d : Int) - (r : Int) ≤ (r : Int)) = false := by simp; omega
    have hlaw := HN.out _ _ HQV.out.2.1 HQV.out.2.2.1
    rw [if_neg hc] at hlaw
    have HF : Hid (ql < 18446744073709551616 ∧ qh * 18446744073709551616 + ql = (2 * (hi * 18446744073709551616 + lo) + d) / (2 * (d : Int)) ∧ -9223372036854775808 ≤ qh ∧ qh ≤ 9223372036854775807) := Lib.hid ⟨HQV.out.1, hlaw.symm, HQV.out.2.2.2⟩
    clear hc hlaw HN HM
    have hb3 := HBL.out
    have hr3 := HR1.out
    go_upto_region 4 with (fail)
    generalize w1.alloc (.cells #[.int .i64 qh, .int .u64 (ql : Int)] 48) = W3 at *
    generalize w1.heap.size = Bq at *
    have HR9 := Lib.hid hr3; have HBL9 := Lib.hid hb3
    clear hr3 hb3
    go_wp2_with fail
    obtain ⟨-, g0, g1, gb, -⟩ := set2 W3 (w.heap.size + 1) _ _ _ (.int .i64 qh) (.int .u64 (ql : Int)) HR9.out _ rfl
    have Hf := Lib.hid (HBL9.out.trans (gb w.heap.size (by omega)))
    clear gb
    generalize (W3.setCell ⟨w.heap.size + 1, 0, none⟩ (.int .i64 qh)).setCell ⟨w.heap.size + 1, 1, none⟩ (.int .u64 (ql : Int)) = W9 at *
    simp [bodyPost, results, Tryd.results17, go_sem, g0, g1]
    exact ⟨qh, ql, ⟨rfl, rfl⟩, HF.out.1, HF.out.2.1, HF.out.2.2.1, HF.out.2.2.2, Hf.out⟩
set_option maxRecDepth 100000 in
theorem eq_wide (a b a' b' : Int) (w : World) : (Op.equalIn 10000 48 (.agg #[.int .i64 a, .int .u64 b]) (.agg #[.int .i64 a', .int .u64 b'])).run Tryd.prog w = .ok (a == a' && b == b') w := by
  have u3 := Tryd.underlying46
  have a3 := Tryd.isAgg46
  have z3 := Tryd.sizeOf46
  have u4 := Tryd.underlying2
  have a4 := Tryd.isAgg2
  have z4 := Tryd.sizeOf2
  have hS : Tryd.prog.underlying 48 = some (.struct (Tryd.prog.fieldsOf 48)) := by kernel_rfl
  have hp : Tryd.prog.stoodInHeld 48 = false := by kernel_rfl
  rw [show (10000 : Nat) = 9999 + 1 from rfl, run_equalIn_agg w 9999 48 _ _ hS hp]
  simp only [Program.fieldsOf, Tryd.underlying48]
  go_simp
  by_cases h1 : a = a' <;> by_cases h2 : b = b' <;> simp [h1, h2]
end Go.Proofs.YthhmahmclkmjpaaDoor
