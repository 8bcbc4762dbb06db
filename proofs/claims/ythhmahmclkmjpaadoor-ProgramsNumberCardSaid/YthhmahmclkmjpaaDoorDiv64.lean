/- Proved: math/bits.Div64 answers quotient and rest; for a high word below the divisor. -/
import Derived.Test.YthhmahmclkmjpaaDoorGen
import Derived.Test.YthhmahmclkmjpaaDoorShelfD
import Derived.Test.YthhmahmclkmjpaaDoorDivLaw
namespace Go.Proofs.YthhmahmclkmjpaaDoor
open Go.RowKit
theorem bitLen_pos {x : Nat} (h0 : x ≠ 0) (h : x < 2 ^ 64) : 1 ≤ Lib.bitLen x := by rw [Lib.bitLen_half x h0 h]; omega
theorem bitLen_low {y : Nat} (h0 : y ≠ 0) (h : y < 2 ^ 64) : 2 ^ (Lib.bitLen y - 1) ≤ y := by
  rcases Nat.lt_or_ge y (2 ^ (Lib.bitLen y - 1)) with hc | hc
  · exfalso
    have hk := Lib.bitLen_le y 64 (Nat.le_refl _) h
    have := Lib.bitLen_le y (Lib.bitLen y - 1) (by omega) hc
    have := bitLen_pos h0 h
    omega
  · exact hc
theorem bitLen_high {y : Nat} (h0 : y ≠ 0) (h : y < 2 ^ 64) : y < 2 ^ Lib.bitLen y := by
  rcases Nat.lt_or_ge y (2 ^ Lib.bitLen y) with hc | hc
  · exact hc
  · exfalso
    have h1 := Lib.bitLen_shift _ y hc h
    have h2 : y / 2 ^ Lib.bitLen y ≠ 0 := Nat.ne_of_gt (Nat.div_pos hc (Nat.two_pow_pos _))
    have := bitLen_pos h2 (Nat.lt_of_le_of_lt (Nat.div_le_self _ _) h)
    omega
/-- The shift that makes a number's first bit one. -/
theorem norm_s {y : Nat} (h0 : y ≠ 0) (h : y < 18446744073709551616) : ∃ s : Nat, s ≤ 63 ∧ (64 : Int) - (Lib.bitLen y : Int) = s ∧ 9223372036854775808 ≤ y * 2 ^ s ∧ y * 2 ^ s < 18446744073709551616 := by
  have h' : y < 2 ^ 64 := by omega
  have h1 := bitLen_pos h0 h'
  have h2 := Lib.bitLen_le y 64 (Nat.le_refl _) h'
  have h3 := bitLen_low h0 h'
  have h4 := bitLen_high h0 h'
  refine ⟨64 - Lib.bitLen y, by omega, by omega, ?_, ?_⟩
  · calc 9223372036854775808 = 2 ^ (Lib.bitLen y - 1) * 2 ^ (64 - Lib.bitLen y) := by rw [← Nat.pow_add, show Lib.bitLen y - 1 + (64 - Lib.bitLen y) = 63 by omega]
      _ ≤ y * 2 ^ (64 - Lib.bitLen y) := Nat.mul_le_mul_right _ h3
  · calc y * 2 ^ (64 - Lib.bitLen y) < 2 ^ Lib.bitLen y * 2 ^ (64 - Lib.bitLen y) := Nat.mul_lt_mul_of_pos_right h4 (Nat.two_pow_pos _)
      _ = 18446744073709551616 := by rw [← Nat.pow_add, show Lib.bitLen y + (64 - Lib.bitLen y) = 64 by omega]
theorem est_q {U v y1 y0 Y : Nat} (h : DivB U v y1 y0 Y) : IntKind.u64.wrap ((U : Int) / (y1 : Int)) = ((U / y1 : Nat) : Int) := by
  have := h.hU; have := h.hY; have := h.u1; have := h.u0
  have := Nat.div_le_self U y1
  rw [← Int.natCast_ediv, IntKind.wrap_u64]
  generalize U / y1 = d at *
  omega
theorem est_r {U v y1 y0 Y : Nat} (h : DivB U v y1 y0 Y) : IntKind.u64.wrap ((U : Int) - IntKind.u64.wrap (((U / y1 : Nat) : Int) * (y1 : Int))) = ((U % y1 : Nat) : Int) := by
  have h1 := h.hU; have h2 := h.hY; have h3 := h.u1; have h4 := h.u0
  have h5 := Nat.div_add_mod U y1
  rw [← Int.natCast_mul, IntKind.wrap_u64, IntKind.wrap_u64, Nat.mul_comm (U / y1)]
  generalize U % y1 = R at *
  generalize y1 * (U / y1) = P at *
  omega
theorem dec_pos {U v y1 y0 Y q r : Nat} (h : DivB U v y1 y0 Y) (e : Est U v y1 y0 Y q r) (ht : 4294967296 ≤ q ∨ 4294967296 * r + v < q * y0) : 1 ≤ q := by
  rcases ht with ht | ht
  · omega
  · exact Nat.lt_of_le_of_lt (Nat.zero_le _) ((e.test h).1 ht)
theorem rem_of {U v Y Q R : Nat} (hY : Y < 18446744073709551616) (hv : v < 18446744073709551616) (h : U * 4294967296 + v = Y * Q + R) (hR : R < Y) :
    IntKind.u64.wrap (IntKind.u64.wrap (IntKind.u64.wrap ((U : Int) * 4294967296) + (v : Int)) - IntKind.u64.wrap ((Q : Int) * (Y : Int))) = (R : Int) := by
  rw [← Int.natCast_mul, Nat.mul_comm Q Y, IntKind.wrap_u64, IntKind.wrap_u64, IntKind.wrap_u64, IntKind.wrap_u64]
  generalize Y * Q = P at *
  omega
theorem DivB.next {U v y1 y0 Y v0 : Nat} (h : DivB U v y1 y0 Y) (hv : v0 < 4294967296) : DivB ((U * 4294967296 + v) % Y) v0 y1 y0 Y :=
  ⟨h.hY, h.l1, h.u1, h.u0, Nat.mod_lt _ (by have := h.hU; omega), hv⟩
theorem DivB.ylt {U v y1 y0 Y : Nat} (h : DivB U v y1 y0 Y) : Y < 18446744073709551616 := by have := h.hY; have := h.u1; have := h.u0; omega
theorem q_all {Q1 Q0 : Nat} (h1 : Q1 < 4294967296) (h0 : Q0 < 4294967296) : IntKind.u64.wrap (IntKind.u64.wrap ((Q1 : Int) * 4294967296) + (Q0 : Int)) = ((Q1 * 4294967296 + Q0 : Nat) : Int) := by
  rw [IntKind.wrap_u64, IntKind.wrap_u64]; omega
abbrev DivR (hi lo y : Nat) : Ending := .returned (.tuple #[.int .u64 (((hi * 18446744073709551616 + lo) / y : Nat) : Int), .int .u64 (((hi * 18446744073709551616 + lo) % y : Nat) : Int)])
set_option maxRecDepth 100000 in
set_option maxHeartbeats 4000000 in
theorem div64_low (lo y : Nat) (w : World) (hy : y < 18446744073709551616) (hlo : lo < 18446744073709551616) (hh : 0 < y) :
    Calls Tryd.prog 89 #[.int .u64 0, .int .u64 (lo : Int), .int .u64 (y : Int)] w fun e w' => e = DivR 0 lo y ∧ Below w.heap.size w w' := by
  have t1 : ((y : Int) == 0) = false := by simp; omega
  have t2 : decide (y ≤ 0) = false := by simp; omega
  have t4 : decide ((y : Int) ≤ 0) = false := by simp; omega
  have Hy := Lib.hid hy; have Hlo := Lib.hid hlo; have Hh := Lib.hid hh
  have q1 : IntKind.u64.wrap ((lo : Int) / (y : Int)) = ((lo / y : Nat) : Int) := by rw [← Int.natCast_ediv]; have := Nat.div_le_self lo y; generalize lo / y = d at *; rw [IntKind.wrap_u64]; omega
  have q2 : IntKind.u64.wrap ((lo : Int) % (y : Int)) = ((lo % y : Nat) : Int) := by rw [← Int.natCast_emod]; have := Nat.mod_le lo y; generalize lo % y = d at *; rw [IntKind.wrap_u64]; omega
  have hz : (y : Int) ≠ 0 := by omega
  clear hy hlo hh
  go_enter Tryd.func89, Tryd.ntmps89
  go_wp2_with fail
  go_region
  go_wp2_with fail
  go_ret2
  exact ⟨by simp [DivR], (Below.refl _ _).drew⟩
set_option maxRecDepth 100000 in
set_option maxHeartbeats 4000000 in
theorem div64_high (hi lo y : Nat) (w : World) (hy : y < 18446744073709551616) (hlo : lo < 18446744073709551616) (hh : hi < y) (h1 : 0 < hi) (s : Nat) (hs : s ≤ 63) (hsl : (64 : Int) - (Lib.bitLen y : Int) = s) (hn1 : 9223372036854775808 ≤ y * 2 ^ s) (hn2 : y * 2 ^ s < 18446744073709551616) :
    Calls Tryd.prog 89 #[.int .u64 (hi : Int), .int .u64 (lo : Int), .int .u64 (y : Int)] w fun e w' => e = DivR hi lo y ∧ Below w.heap.size w w' := by
  have t1 : ((y : Int) == 0) = false := by simp; omega
  have t2 : decide (y ≤ hi) = false := by simp; omega
  have t3 : ((hi : Int) == 0) = false := by simp; omega
  obtain ⟨U, V, v1, v0, Y, y1, y0, hY, hU, hV, hD, hv0, hVl, k1, k2, k3, k4, k5, k6, k7⟩ := norm_of hs hn1 hn2 hlo hh
  have Hy := Lib.hid hy; have Hlo := Lib.hid hlo; have Hh := Lib.hid hh; have H1 := Lib.hid h1; have Hsl := Lib.hid hsl
  have HY := Lib.hid hY; have HU := Lib.hid hU; have HV := Lib.hid hV; have HD := Lib.hid hD; have Hv0 := Lib.hid hv0; have HVl := Lib.hid hVl
  clear hy hlo hh h1 hsl hn1 hn2 hY hU hV hD hv0 hVl
  go_enter Tryd.func89, Tryd.ntmps89
  go_wp2_with fail
  refine (Tryd.bits_LeadingZeros64 _ _ (by omega) (by have := Hy.out; omega)).mono ?_
  rintro e w' ⟨rfl, rfl⟩
  rw [Int.toNat_natCast, Hsl.out]
  have hz1 : y1 ≠ 0 := by have := HD.out.l1; omega
  have qa : IntKind.u64.wrap ((U : Int) / (y1 : Int)) = ((U / y1 : Nat) : Int) := est_q HD.out
  have qb : IntKind.u64.wrap ((U : Int) - IntKind.u64.wrap (((U / y1 : Nat) : Int) * (y1 : Int))) = ((U % y1 : Nat) : Int) := est_r HD.out
  have HS := Lib.hid HD.out.start
  generalize U / y1 = q0 at *
  generalize U % y1 = r0 at *
  obtain ⟨Q1, hQ1⟩ : ∃ Q1, Q1 = (U * 4294967296 + v1) / Y := ⟨_, rfl⟩
  have HQ1 := Lib.hid hQ1
  clear hQ1
  go_upto_block 0 with (fail)
  go_cut [15, 16] from 67 (fun v15 v16 wc => v15 = .int .u64 (Q1 : Int) ∧ wc = w')
  case first =>
    go_wp2_with fail
    go_loopw [15, 16] (fun v15 v16 wr => ∃ q r : Nat, v15 = .int .u64 (q : Int) ∧ v16 = .int .u64 (r : Int) ∧ Hid (Est U v1 y1 y0 Y q r) ∧ wr = w') (fun v15 _ _ => (intOf v15).toNat)
    case atStart => exact ⟨q0, r0, rfl, rfl, HS, rfl⟩
    case round =>
      obtain ⟨q, r, rfl, rfl, hE, rfl⟩ := hrel
      have hle := hE.out.le; have hrl := hE.out.rl
      have hy0 := HD.out.u0; have hy1 := HD.out.u1; have hv1 := HD.out.hv
      have HLE := Lib.hid hle; have HRL := Lib.hid hrl
      obtain ⟨rn, hrn, w1⟩ : ∃ rn : Nat, rn = r + y1 ∧ IntKind.u64.wrap ((r : Int) + (y1 : Int)) = (rn : Int) := ⟨r + y1, rfl, by rw [IntKind.wrap_u64]; omega⟩
      by_cases hbig : 4294967296 ≤ q
      · have d1 : decide ((4294967296 : Int) ≤ (q : Int)) = true := by simp; omega
        obtain ⟨qn, hqn, w2⟩ : ∃ qn : Nat, qn = q - 1 ∧ IntKind.u64.wrap ((q : Int) - 1) = (qn : Int) := ⟨q - 1, rfl, by have := dec_pos HD.out hE.out (.inl hbig); rw [IntKind.wrap_u64]; omega⟩
        have Hw := Lib.hid (.inl hbig : 4294967296 ≤ q ∨ 4294967296 * r + v1 < q * y0)
        have Hqn := Lib.hid hqn; have Hrn := Lib.hid hrn
        by_cases hbr : 4294967296 ≤ rn
        · have d3 : decide ((4294967296 : Int) ≤ (rn : Int)) = true := by simp; omega
          have hst := hE.out.stop HD.out Hw.out (by rw [← hrn]; omega)
          rw [← hqn] at hst
          have Hst := Lib.hid hst
          clear hle hrl hy0 hy1 hv1 hqn hrn hbr hst hbig
          go_wp2_with fail
          go_meet
          case rel => exact ⟨by rw [Hst.out.1, ← HQ1.out], rfl⟩
        · have d3 : decide ((4294967296 : Int) ≤ (rn : Int)) = false := by simp; omega
          have hst := hE.out.dec HD.out Hw.out (by rw [← hrn]; omega)
          rw [← hqn, ← hrn] at hst
          have Hst := Lib.hid hst
          have hqlt : qn < q := by omega
          clear hle hrl hy0 hy1 hv1 hqn hrn hbr hst hbig
          go_wp2_with fail
          go_roundw
          case rel => exact ⟨qn, rn, rfl, rfl, Lib.hid Hst.out.1, trivial⟩
          case measure => simp [intOf]; omega
      · have d1 : decide ((4294967296 : Int) ≤ (q : Int)) = false := by simp; omega
        have hm : q * y0 ≤ 4294967295 * 4294967295 := Nat.mul_le_mul (by omega) (by omega)
        obtain ⟨m, hmm, w3⟩ : ∃ m : Nat, m = q * y0 ∧ IntKind.u64.wrap ((q : Int) * (y0 : Int)) = (m : Int) := ⟨q * y0, rfl, by rw [← Int.natCast_mul, IntKind.wrap_u64]; omega⟩
        obtain ⟨n, hnn, w4⟩ : ∃ n : Nat, n = 4294967296 * r + v1 ∧ IntKind.u64.wrap (IntKind.u64.wrap (4294967296 * (r : Int)) + (v1 : Int)) = (n : Int) := ⟨4294967296 * r + v1, rfl, by rw [IntKind.wrap_u64, IntKind.wrap_u64]; omega⟩
        by_cases ht : n < m
        · have d2 : decide (n < m) = true := by simp; omega
          obtain ⟨qn, hqn, w2⟩ : ∃ qn : Nat, qn = q - 1 ∧ IntKind.u64.wrap ((q : Int) - 1) = (qn : Int) := ⟨q - 1, rfl, by have := dec_pos HD.out hE.out (.inr (by rw [← hmm, ← hnn]; exact ht)); rw [IntKind.wrap_u64]; omega⟩
          have Hw := Lib.hid (.inr (by rw [← hmm, ← hnn]; exact ht) : 4294967296 ≤ q ∨ 4294967296 * r + v1 < q * y0)
          have Hqn := Lib.hid hqn; have Hrn := Lib.hid hrn
          by_cases hbr : 4294967296 ≤ rn
          · have d3 : decide ((4294967296 : Int) ≤ (rn : Int)) = true := by simp; omega
            have hst := hE.out.stop HD.out Hw.out (by rw [← hrn]; omega)
            rw [← hqn] at hst
            have Hst := Lib.hid hst
            clear hle hrl hy0 hy1 hv1 hqn hrn hbr hst hbig hm hmm hnn ht
            go_wp2_with fail
            go_meet
            case rel => exact ⟨by rw [Hst.out.1, ← HQ1.out], rfl⟩
          · have d3 : decide ((4294967296 : Int) ≤ (rn : Int)) = false := by simp; omega
            have hst := hE.out.dec HD.out Hw.out (by rw [← hrn]; omega)
            rw [← hqn, ← hrn] at hst
            have Hst := Lib.hid hst
            have hqlt : qn < q := by omega
            clear hle hrl hy0 hy1 hv1 hqn hrn hbr hst hbig hm hmm hnn ht
            go_wp2_with fail
            go_roundw
            case rel => exact ⟨qn, rn, rfl, rfl, Lib.hid Hst.out.1, trivial⟩
            case measure => simp [intOf]; omega
        · have d2 : decide (n < m) = false := by simp; omega
          have hex := hE.out.exit HD.out (by rw [← hmm, ← hnn]; exact ht)
          have Hex := Lib.hid hex
          clear hle hrl hy0 hy1 hv1 hrn hbig hm hmm hnn ht hex
          go_wp2_with fail
          go_meet
          case rel => exact ⟨by rw [Hex.out, ← HQ1.out], rfl⟩
  case rest =>
    obtain ⟨rfl, rfl⟩ := hcut
    obtain ⟨R, hR⟩ : ∃ R, R = (U * 4294967296 + v1) % Y := ⟨_, rfl⟩
    have HR := Lib.hid hR
    have hD2 := HD.out.next Hv0.out
    rw [← hR] at hD2
    have HD2 := Lib.hid hD2
    have n1 := rem_of (U := U) (v := v1) (Y := Y) (Q := Q1) (R := R) HD.out.ylt (by have := HD.out.hv; omega) (by rw [HQ1.out, HR.out]; exact (Nat.div_add_mod _ _).symm) HD2.out.hU
    have qa2 : IntKind.u64.wrap ((R : Int) / (y1 : Int)) = ((R / y1 : Nat) : Int) := est_q HD2.out
    have qb2 : IntKind.u64.wrap ((R : Int) - IntKind.u64.wrap (((R / y1 : Nat) : Int) * (y1 : Int))) = ((R % y1 : Nat) : Int) := est_r HD2.out
    have HS2 := Lib.hid HD2.out.start
    generalize R / y1 = q2 at *
    generalize R % y1 = r2 at *
    obtain ⟨Q0, hQ0⟩ : ∃ Q0, Q0 = (R * 4294967296 + v0) / Y := ⟨_, rfl⟩
    have HQ0 := Lib.hid hQ0
    clear hR hD2 hQ0
    go_upto_block 2 with (fail)
    go_cut [18, 16] from 102 (fun v18 v16 wd => v18 = .int .u64 (Q0 : Int) ∧ wd = wc)
    case first =>
      go_wp2_with fail
      go_loopw [18, 16] (fun v18 v16 wr => ∃ q r : Nat, v18 = .int .u64 (q : Int) ∧ v16 = .int .u64 (r : Int) ∧ Hid (Est R v0 y1 y0 Y q r) ∧ wr = wc) (fun v18 _ _ => (intOf v18).toNat)
      case atStart => exact ⟨q2, r2, rfl, rfl, HS2, rfl⟩
      case round =>
        obtain ⟨q, r, rfl, rfl, hE, rfl⟩ := hrel
        have hle := hE.out.le; have hrl := hE.out.rl
        have hy0 := HD.out.u0; have hy1 := HD.out.u1; have hv1 := HD2.out.hv
        have HLE := Lib.hid hle; have HRL := Lib.hid hrl
        obtain ⟨rn, hrn, w1⟩ : ∃ rn : Nat, rn = r + y1 ∧ IntKind.u64.wrap ((r : Int) + (y1 : Int)) = (rn : Int) := ⟨r + y1, rfl, by rw [IntKind.wrap_u64]; omega⟩
        by_cases hbig : 4294967296 ≤ q
        · have d1 : decide ((4294967296 : Int) ≤ (q : Int)) = true := by simp; omega
          obtain ⟨qn, hqn, w2⟩ : ∃ qn : Nat, qn = q - 1 ∧ IntKind.u64.wrap ((q : Int) - 1) = (qn : Int) := ⟨q - 1, rfl, by have := dec_pos HD2.out hE.out (.inl hbig); rw [IntKind.wrap_u64]; omega⟩
          have Hw := Lib.hid (.inl hbig : 4294967296 ≤ q ∨ 4294967296 * r + v0 < q * y0)
          have Hqn := Lib.hid hqn; have Hrn := Lib.hid hrn
          by_cases hbr : 4294967296 ≤ rn
          · have d3 : decide ((4294967296 : Int) ≤ (rn : Int)) = true := by simp; omega
            have hst := hE.out.stop HD2.out Hw.out (by rw [← hrn]; omega)
            rw [← hqn] at hst
            have Hst := Lib.hid hst
            clear hle hrl hy0 hy1 hv1 hqn hrn hbr hst hbig
            go_wp2_with fail
            go_meet
            case rel => exact ⟨by rw [Hst.out.1, ← HQ0.out], rfl⟩
          · have d3 : decide ((4294967296 : Int) ≤ (rn : Int)) = false := by simp; omega
            have hst := hE.out.dec HD2.out Hw.out (by rw [← hrn]; omega)
            rw [← hqn, ← hrn] at hst
            have Hst := Lib.hid hst
            have hqlt : qn < q := by omega
            clear hle hrl hy0 hy1 hv1 hqn hrn hbr hst hbig
            go_wp2_with fail
            go_roundw
            case rel => exact ⟨qn, rn, rfl, rfl, Lib.hid Hst.out.1, trivial⟩
            case measure => simp [intOf]; omega
        · have d1 : decide ((4294967296 : Int) ≤ (q : Int)) = false := by simp; omega
          have hm : q * y0 ≤ 4294967295 * 4294967295 := Nat.mul_le_mul (by omega) (by omega)
          obtain ⟨m, hmm, w3⟩ : ∃ m : Nat, m = q * y0 ∧ IntKind.u64.wrap ((q : Int) * (y0 : Int)) = (m : Int) := ⟨q * y0, rfl, by rw [← Int.natCast_mul, IntKind.wrap_u64]; omega⟩
          obtain ⟨n, hnn, w4⟩ : ∃ n : Nat, n = 4294967296 * r + v0 ∧ IntKind.u64.wrap (IntKind.u64.wrap (4294967296 * (r : Int)) + (v0 : Int)) = (n : Int) := ⟨4294967296 * r + v0, rfl, by rw [IntKind.wrap_u64, IntKind.wrap_u64]; omega⟩
          by_cases ht : n < m
          · have d2 : decide (n < m) = true := by simp; omega
            obtain ⟨qn, hqn, w2⟩ : ∃ qn : Nat, qn = q - 1 ∧ IntKind.u64.wrap ((q : Int) - 1) = (qn : Int) := ⟨q - 1, rfl, by have := dec_pos HD2.out hE.out (.inr (by rw [← hmm, ← hnn]; exact ht)); rw [IntKind.wrap_u64]; omega⟩
            have Hw := Lib.hid (.inr (by rw [← hmm, ← hnn]; exact ht) : 4294967296 ≤ q ∨ 4294967296 * r + v0 < q * y0)
            have Hqn := Lib.hid hqn; have Hrn := Lib.hid hrn
            by_cases hbr : 4294967296 ≤ rn
            · have d3 : decide ((4294967296 : Int) ≤ (rn : Int)) = true := by simp; omega
              have hst := hE.out.stop HD2.out Hw.out (by rw [← hrn]; omega)
              rw [← hqn] at hst
              have Hst := Lib.hid hst
              clear hle hrl hy0 hy1 hv1 hqn hrn hbr hst hbig hm hmm hnn ht
              go_wp2_with fail
              go_meet
              case rel => exact ⟨by rw [Hst.out.1, ← HQ0.out], rfl⟩
            · have d3 : decide ((4294967296 : Int) ≤ (rn : Int)) = false := by simp; omega
              have hst := hE.out.dec HD2.out Hw.out (by rw [← hrn]; omega)
              rw [← hqn, ← hrn] at hst
              have Hst := Lib.hid hst
              have hqlt : qn < q := by omega
              clear hle hrl hy0 hy1 hv1 hqn hrn hbr hst hbig hm hmm hnn ht
              go_wp2_with fail
              go_roundw
              case rel => exact ⟨qn, rn, rfl, rfl, Lib.hid Hst.out.1, trivial⟩
              case measure => simp [intOf]; omega
          · have d2 : decide (n < m) = false := by simp; omega
            have hex := hE.out.exit HD2.out (by rw [← hmm, ← hnn]; exact ht)
            have Hex := Lib.hid hex
            clear hle hrl hy0 hy1 hv1 hrn hbig hm hmm hnn ht hex
            go_wp2_with fail
            go_meet
            case rel => exact ⟨by rw [Hex.out, ← HQ0.out], rfl⟩
    case rest =>
      obtain ⟨rfl, rfl⟩ := hcut
      have n2 := rem_of (U := R) (v := v0) (Y := Y) (Q := Q0) (R := (R * 4294967296 + v0) % Y) HD.out.ylt (by have := HD2.out.hv; omega) (by rw [HQ0.out]; exact (Nat.div_add_mod _ _).symm) (Nat.mod_lt _ (by have := HD.out.hU; omega))
      have n3 := q_all (Q1 := Q1) (Q0 := Q0) (by rw [HQ1.out]; exact HD.out.q_lt) (by rw [HQ0.out]; exact HD2.out.q_lt)
      have hfin := two_digits HU.out HY.out HV.out (by have := Hh.out; omega)
      rw [← HQ1.out, ← HR.out, ← HQ0.out] at hfin
      obtain ⟨R0, hR0⟩ : ∃ R0, (R * 4294967296 + v0) % Y = R0 := ⟨_, rfl⟩
      obtain ⟨QQ, hQQ⟩ : ∃ QQ, Q1 * 4294967296 + Q0 = QQ := ⟨_, rfl⟩
      rw [hR0] at n2 hfin
      rw [hQQ] at n3 hfin
      have Hfin := Lib.hid hfin
      clear hfin hR0 hQQ
      go_wp2_with fail
      go_ret2
      refine ⟨?_, Below.refl _ _⟩
      show Ending.returned (.tuple #[.int .u64 (QQ : Int), .int .u64 ((R0 : Int) / 2 ^ s)]) = DivR hi lo y
      unfold DivR
      rw [Hfin.out.1, Hfin.out.2, Int.natCast_ediv]
      have : ((2 ^ s : Nat) : Int) = 2 ^ s := by push_cast; rfl
      rw [this]
/-- math/bits.Div64: how often, and what is left. -/
theorem div64_any (hi lo y : Nat) (w : World) (hy : y < 18446744073709551616) (hlo : lo < 18446744073709551616) (hh : hi < y) :
    Calls Tryd.prog 89 #[.int .u64 (hi : Int), .int .u64 (lo : Int), .int .u64 (y : Int)] w fun e w' => e = DivR hi lo y ∧ Below w.heap.size w w' := by
  rcases Nat.eq_zero_or_pos hi with rfl | h1
  · exact div64_low lo y w hy hlo hh
  · obtain ⟨s, hs, hsl, hn1, hn2⟩ := norm_s (y := y) (by omega) hy
    exact div64_high hi lo y w hy hlo hh h1 s hs hsl hn1 hn2
end Go.Proofs.YthhmahmclkmjpaaDoor
