/- Proved: gouacheref17.Number answers the plain number, and the function ProgramsNumber answers true; for texts within the reach. -/
import Derived.Test.YthhmahmclkmjpaaDoorBigO
import Derived.Test.YthhmahmclkmjpaaDoorBigLaws
import Derived.Test.YthhmahmclkmjpaaDoorRefK
import Derived.Test.YthhmahmclkmjpaaDoorNumW
import Derived.Test.YthhmahmclkmjpaaDoorLives17
import Derived.Test.YthhmahmclkmjpaaDoorSignLaw
namespace Go.Proofs.YthhmahmclkmjpaaDoor
section
open Go.RowKit
theorem head_at {s : ByteArray} (h : 0 < s.size) : s.data.toList.head? = some (s[0]'h) := by
  rw [List.head?_eq_getElem?, List.getElem?_eq_getElem (by rw [← Lib.size_eq]; exact h)]; rfl
theorem take_snocB (s : ByteArray) (k : Nat) (h : k < s.size) : s.data.toList.take (k + 1) = s.data.toList.take k ++ [s[k]] := by
  rw [List.take_succ_eq_append_getElem (by rw [← Lib.size_eq]; exact h)]; rfl
set_option maxRecDepth 100000 in
set_option maxHeartbeats 4000000 in
theorem refNumber_any (k : Nat) (s : ByteArray) (p : Int) (w : World) (hk : k < 256) (hs : s.size ≤ 140737488355328) :
    Calls Tryd.prog 8 #[.agg #[.int .u8 (k : Int), .string s, .int .i64 p]] w (NumP k s.data.toList w) := by
  have Hk := Lib.hid hk; have Hs := Lib.hid hs
  clear hk hs
  go_enter Tryd.func8, Tryd.ntmps8
  go_upto_region 1 with (fail)
  have g1 := heapN (w := w) rfl (.cells #[.int .u8 (k : Int), .string s, .int .i64 p] 24)
  have g2 := (Below.refl w.heap.size w).alloc (Nat.le_refl _) (.cells #[.int .u8 (k : Int), .string s, .int .i64 p] 24)
  generalize w.alloc (.cells #[.int .u8 (k : Int), .string s, .int .i64 p] 24) = wq at *
  obtain ⟨b0, hb0⟩ : ∃ b, b = w.heap.size := ⟨_, rfl⟩
  rw [← hb0] at g1 g2 ⊢
  obtain ⟨-, c0, c1, -⟩ := row3 g1
  have G1 := Lib.hid g1; have G2 := Lib.hid g2; have Hb0 := Lib.hid hb0
  clear g1 g2 hb0
  go_wp2_with fail
  refine (refKind_any s wq Hs.out).mono ?_
  rintro e w2 ⟨k', b, rfl, hkd, hb⟩
  have hz := (Array.getElem?_eq_some_iff.1 G1.out).1
  have g1 := (hb.block b0 hz).trans G1.out
  have g2 := G2.out.trans (hb.mono (by omega))
  clear c0 c1
  obtain ⟨-, c0, c1, -⟩ := row3 g1
  have F1 := Lib.hid g1; have F2 := Lib.hid g2; have Hkd := Lib.hid hkd
  clear g1 g2 hb hz hkd
  cases b with
  | false =>
    have hr : numR k s.data.toList = none := by unfold numR; rw [if_neg (fun h => by have := Hkd.out; rw [h.2.1] at this; simp at this)]
    have Hr := Lib.hid hr
    clear hr
    go_wp2_with fail
    go_ret2
    exact ⟨.inr ⟨Hr.out, rfl⟩, by rw [← Hb0.out]; exact F2.out⟩
  | true =>
    by_cases hkk : k' = k
    · subst hkk
      have d1 : ((k' : Int) != (k' : Int)) = false := by simp
      by_cases hk1 : k' ≤ 1
      · have hkf : kindF s.data.toList = some k' := by have := Hkd.out; simpa using this
        have HK := Lib.hid hkf
        have hn0 : 0 < s.size := by
          have := (num_len hkf hk1).2
          rw [Lib.size_eq]; exact List.length_pos_iff.2 this
        have hl20 : s.size ≤ 20 := by rw [Lib.size_eq]; exact (num_len hkf hk1).1
        have H18 := Lib.hid (digits_18 hkf hk1); have Hk1 := Lib.hid hk1
        obtain ⟨n, hn⟩ : ∃ n, n = s.size := ⟨_, rfl⟩
        have Hn := Lib.hid hn
        have hd : (((k' : Int) != 0) = false) ∨ ((((k' : Int) != 0) = true) ∧ (((k' : Int) != 1) = false)) := by simp; omega
        clear hkf hk1
        rcases hd with d2 | ⟨d2, d3⟩
        all_goals
          go_upto_block 0 with (fail)
          go_cut [6, 7] from 37 to 64 (fun v6 v7 wc => v6 = .int .i64 (decN s.data.toList : Int) ∧ v7 = .int .i64 ((dnS s.data.toList).2 : Int) ∧ wc = w2)
          case first =>
            go_wp2_with fail
            go_loopw [6, 7, 8, 9, 10] (fun v6 v7 v8 v9 _ wr => ∃ (i N d : Nat) (b : Bool), v9 = .int .i64 (i : Int) ∧ v6 = .int .i64 (N : Int) ∧ v7 = .int .i64 (d : Int) ∧ v8 = .bool b ∧ Hid (i ≤ s.size ∧ N = decN (s.data.toList.take i) ∧ (b, d) = dnS (s.data.toList.take i)) ∧ wr = w2) (fun _ _ _ v9 _ _ => s.size - (intOf v9).toNat)
            case atStart => exact ⟨0, 0, 1, false, rfl, rfl, rfl, rfl, Lib.hid ⟨by omega, by simp [decN], by simp [dnS]⟩, rfl⟩
            case round =>
              obtain ⟨i, N, d, b, rfl, rfl, rfl, rfl, hh, rfl⟩ := hrel
              by_cases hlt : i < s.size
              · have hil : i < s.data.toList.length := by rw [← Lib.size_eq]; exact hlt
                have hsn := take_snocB s i hlt
                have h18 := digits_take hil
                have hbN := dec_bound (s.data.toList.take i) 0
                have hbd := dn_bound (s.data.toList.take i) (false, 1)
                have hge : s.data.toList[i] = s[i]'hlt := rfl
                rw [hge] at h18
                obtain ⟨x, hx⟩ : ∃ x : UInt8, s[i]'hlt = x := ⟨_, rfl⟩
                rw [hx] at hsn h18
                rw [← decN_eq, ← hh.out.2.1] at hbN
                rw [show (s.data.toList.take i).foldl stepD (false, 1) = dnS (s.data.toList.take i) from rfl, ← hh.out.2.2] at hbd
                have e1 : decN (s.data.toList.take (i + 1)) = dstep N x := by rw [hsn, decN_snoc, ← hh.out.2.1]
                have e2 : dnS (s.data.toList.take (i + 1)) = stepD (b, d) x := by rw [hsn, dnS_snoc, ← hh.out.2.2]
                have E1 := Lib.hid e1; have E2 := Lib.hid e2; have Hlt := Lib.hid hlt; have H18b := Lib.hid h18; have HbN := Lib.hid hbN; have Hbd := Lib.hid hbd
                have hii : (i : Int) < (s.size : Int) := by omega
                have hi0 : (0 : Int) ≤ (i : Int) := by omega
                have hi20 : (i : Int) < 20 := by omega
                have hss := hl20
                clear hsn h18 hbN hbd hge e1 e2 hil
                by_cases hd : digB x = true
                · have hd2 := hd
                  unfold digB at hd2
                  simp only [Bool.and_eq_true, decide_eq_true_eq] at hd2
                  have x0 : 48 ≤ x.toNat := by simpa [UInt8.le_iff_toNat_le] using hd2.1
                  have x1 : x.toNat ≤ 57 := by simpa [UInt8.le_iff_toNat_le] using hd2.2
                  have x46 : ((x.toNat : Int) == 46) = false := by simp; omega
                  have hx46 : (x == 46) = false := by
                    cases h : (x == 46) with
                    | false => rfl
                    | true => rw [eq_of_beq h] at x0; exact absurd x0 (by decide)
                  have hp := pow_17 (n := digitsN (s.data.toList.take i)) (by have := H18b.out; rw [if_pos hd] at this; have := H18.out; omega)
                  have hN17 : N ≤ 100000000000000000 := by have := HbN.out; omega
                  have hd17 : d ≤ 100000000000000000 := by have := Hbd.out; simp at this; omega
                  obtain ⟨y, hy⟩ : ∃ y : Nat, y = x.toNat - 48 := ⟨_, rfl⟩
                  have hy9 : y ≤ 9 := by omega
                  have y1 : IntKind.u8.wrap ((x.toNat : Int) - 48) = (y : Int) := by rw [IntKind.wrap_u8]; omega
                  have y2 : IntKind.i64.wrap (y : Int) = (y : Int) := by rw [IntKind.wrap_i64]; omega
                  have n0 : (0 : Int) ≤ (N : Int) := by omega
                  have n1 : (N : Int) ≤ 100000000000000000 := by omega
                  have y0 : (0 : Int) ≤ (y : Int) := by omega
                  have y9 : (y : Int) ≤ 9 := by omega
                  have d0 : (0 : Int) ≤ (d : Int) := by omega
                  have d17 : (d : Int) ≤ 100000000000000000 := by omega
                  have hm : dstep N x = 10 * N + y := by unfold dstep; rw [if_pos hd, hy]
                  have HM := Lib.hid hm
                  have x0' : (48 : Int) ≤ (x.toNat : Int) := by omega
                  have x1' : (x.toNat : Int) ≤ 57 := by omega
                  cases b with
                  | true =>
                    have hs2 : stepD (true, d) x = (true, 10 * d) := by simp [stepD, hd]
                    have HS2 := Lib.hid hs2
                    clear hs2 hm hy hp hN17 hd17 hd2 hx46
                    go_wp2_with fail
                    go_roundw
                    case rel => exact ⟨i + 1, 10 * N + y, 10 * d, true, by go_num, by go_num, by go_num, rfl, Lib.hid ⟨Hlt.out, by rw [E1.out, HM.out], by rw [E2.out, HS2.out]⟩, trivial⟩
                    case measure => have := Hlt.out; simp [intOf]; omega
                  | false =>
                    have hs2 : stepD (false, d) x = (false, d) := by simp [stepD, hx46]
                    have HS2 := Lib.hid hs2
                    clear hs2 hm hy hp hN17 hd17 hd2 hx46
                    go_wp2_with fail
                    go_roundw
                    case rel => exact ⟨i + 1, 10 * N + y, d, false, by go_num, by go_num, rfl, rfl, Lib.hid ⟨Hlt.out, by rw [E1.out, HM.out], by rw [E2.out, HS2.out]⟩, trivial⟩
                    case measure => have := Hlt.out; simp [intOf]; omega
                · have hm : dstep N x = N := by unfold dstep; rw [if_neg hd]
                  have HM := Lib.hid hm
                  have hnd : x.toNat < 48 ∨ 57 < x.toNat := by
                    have h2 : ¬ (48 ≤ x.toNat ∧ x.toNat ≤ 57) := fun h => hd (by unfold digB; simp [UInt8.le_iff_toNat_le]; exact h)
                    omega
                  by_cases h46 : x = 46
                  · have x46 : ((x.toNat : Int) == 46) = true := by rw [h46]; rfl
                    have x2 : (x.toNat : Int) < 48 := by rw [h46]; decide
                    have hs2 : stepD (b, d) x = (true, d) := by rw [h46]; simp [stepD, dig46]
                    have HS2 := Lib.hid hs2
                    clear hs2 hm hd hnd h46
                    go_wp2_with fail
                    go_roundw
                    case rel => exact ⟨i + 1, N, d, true, by go_num, rfl, rfl, rfl, Lib.hid ⟨Hlt.out, by rw [E1.out, HM.out], by rw [E2.out, HS2.out]⟩, trivial⟩
                    case measure => have := Hlt.out; simp [intOf]; omega
                  · have x46 : ((x.toNat : Int) == 46) = false := by
                      rw [beq_eq_false_iff_ne]; intro e; exact h46 (UInt8.toNat_inj.1 (by simp; omega))
                    have hs2 : stepD (b, d) x = (b, d) := by simp [stepD, hd, h46]
                    have HS2 := Lib.hid hs2
                    clear hs2 hm hd h46
                    rcases hnd with x2 | x2
                    all_goals
                      go_wp2_with fail
                      go_roundw
                      case rel => exact ⟨i + 1, N, d, b, by go_num, rfl, rfl, rfl, Lib.hid ⟨Hlt.out, by rw [E1.out, HM.out], by rw [E2.out, HS2.out]⟩, trivial⟩
                      case measure => have := Hlt.out; simp [intOf]; omega
              · have hin : i = s.size := by have := hh.out.1; omega
                have e1 : N = decN s.data.toList := by rw [hh.out.2.1, hin, List.take_of_length_le (by rw [← Lib.size_eq]; exact Nat.le_refl _)]
                have e2 : d = (dnS s.data.toList).2 := by have := hh.out.2.2; rw [hin, List.take_of_length_le (by rw [← Lib.size_eq]; exact Nat.le_refl _)] at this; rw [← this]
                have E1 := Lib.hid e1; have E2 := Lib.hid e2
                subst hin
                clear e1 e2 hlt
                go_wp2_with fail
                go_meet
                case rel => exact ⟨by rw [E1.out], by rw [E2.out], rfl⟩
          case rest =>
            obtain ⟨rfl, rfl, rfl⟩ := hcut
            obtain ⟨N, hN⟩ : ∃ N, N = decN s.data.toList := ⟨_, rfl⟩
            obtain ⟨dn, hdn⟩ : ∃ dn, dn = (dnS s.data.toList).2 := ⟨_, rfl⟩
            rw [← hN, ← hdn]
            have hNb : N < 1000000000000000000 := by
              have h1 := dec_bound s.data.toList 0
              have h3 : 10 ^ digitsN s.data.toList ≤ 10 ^ 18 := Nat.pow_le_pow_right (by omega) H18.out
              rw [← decN_eq, ← hN] at h1
              omega
            have hdb : 1 ≤ dn ∧ dn ≤ 1000000000000000000 := by
              have h1 := dn_bound s.data.toList (false, 1)
              have h3 : 10 ^ digitsN s.data.toList ≤ 10 ^ 18 := Nat.pow_le_pow_right (by omega) H18.out
              have h4 := dn_pos s.data.toList (false, 1) (by decide)
              rw [show (s.data.toList.foldl stepD (false, 1)).2 = dn from hdn.symm] at h1 h4
              simp at h1; omega
            obtain ⟨v, hv⟩ : ∃ v : Int, v = if s.data.toList.head? = some 45 then -(N : Int) else N := ⟨_, rfl⟩
            have hvb : -1000000000000000000 < v ∧ v < 1000000000000000000 := by rw [hv]; split <;> omega
            have hvx : numV k' s.data.toList = if k' = 1 then (2 * (v * 65536) + (dn : Int)) / (2 * (dn : Int)) else v := by
              unfold numV
              rw [hv, hN, hdn, dn_number HK.out Hk1.out]
              push_cast
              rfl
            have hh0 := head_at hn0
            obtain ⟨x0, hx0⟩ : ∃ x : UInt8, s[0]'hn0 = x := ⟨_, rfl⟩
            rw [hx0] at hh0
            have hsg : (((x0.toNat : Int) == 45) = true ∧ wrap64 (-(N : Int)) = v) ∨ (((x0.toNat : Int) == 45) = false ∧ (N : Int) = v) := by
              by_cases h : x0 = 45
              · left; rw [hv, if_pos (by rw [hh0, h])]; exact ⟨by rw [h]; rfl, by unfold wrap64; omega⟩
              · right; rw [hv, if_neg (by rw [hh0]; intro e; injection e with e; exact h e)]
                exact ⟨by rw [beq_eq_false_iff_ne]; intro e; exact h (UInt8.toNat_inj.1 (by simp; omega)), rfl⟩
            have Hvb := Lib.hid hvb; have Hvx := Lib.hid hvx; have Hdb := Lib.hid hdb
            have hss : s.size ≤ 20 := hl20
            have hs1 : (0 : Int) < (s.size : Int) := by omega
            clear hNb hdb hvb hvx hv hh0 hN hdn
            have hk01 : k' = 0 ∨ k' = 1 := by have := Hk1.out; omega
            rcases hsg with ⟨g45, hw⟩ | ⟨g45, hw⟩
            all_goals
              first | (rw [hw]; clear hw) | skip
              have HFF := F2
              rcases hk01 with hk0 | hk1
              · try (exfalso; rw [hk0] at d2; exact absurd d2 (by decide))
                all_goals
                  have e9 : ((k' : Int) == 1) = false := by simp; omega
                  have HX : Hid (numV k' s.data.toList = v) := Lib.hid (by rw [Hvx.out, if_neg (by omega)])
                  have hXb : -1000000000000000000 < v ∧ v < 1000000000000000000 := Hvb.out
                  clear hk0
                  by_cases hin1 : v < -2147483648
                  · have hr : numR k' s.data.toList = none := by unfold numR; rw [if_neg (fun h => by have := h.2.2; rw [HX.out] at this; omega)]
                    have Hr := Lib.hid hr
                    clear hr
                    go_wp2_with fail
                    go_ret2
                    exact ⟨.inr ⟨Hr.out, rfl⟩, by rw [← Hb0.out]; exact HFF.out⟩
                  · by_cases hin2 : 2147483647 < v
                    · have hr : numR k' s.data.toList = none := by unfold numR; rw [if_neg (fun h => by have := h.2.2; rw [HX.out] at this; omega)]
                      have Hr := Lib.hid hr
                      clear hr
                      go_wp2_with fail
                      go_ret2
                      exact ⟨.inr ⟨Hr.out, rfl⟩, by rw [← Hb0.out]; exact HFF.out⟩
                    · have u1 : IntKind.i32.wrap v = v := by rw [IntKind.wrap_i32]; omega
                      have hr : numR k' s.data.toList = some v := by unfold numR; rw [if_pos ⟨Hk1.out, HK.out, by rw [HX.out]; omega⟩, HX.out]
                      have Hr := Lib.hid hr
                      clear hr
                      go_wp2_with fail
                      go_ret2
                      exact ⟨.inl ⟨v, Hr.out, rfl⟩, by rw [← Hb0.out]; exact HFF.out⟩
              · try (exfalso; rw [hk1] at d2; exact absurd d2 (by decide))
                all_goals
                  have e9 : ((k' : Int) == 1) = true := by simp; omega
                  have hvv := Hvx.out
                  rw [if_pos hk1] at hvv
                  have Hvv := Lib.hid hvv
                  clear hvv hk1
                  go_wp2_with fail
                  refine (rMul_any v 65536 _ (by have := Hvb.out; omega) (by have := Hvb.out; omega) (by decide) (by decide) (by have := Hvb.out; omega) (by have := Hvb.out; omega)).mono ?_
                  rintro e w3 ⟨h3, l3, rfl, hl3, hv3, p0, p1, hb3⟩
                  obtain ⟨X, hX⟩ : ∃ X : Int, X = (2 * (v * 65536) + (dn : Int)) / (2 * (dn : Int)) := ⟨_, rfl⟩
                  have hXb : -170141183460469231731687303715884105728 ≤ X ∧ X < 170141183460469231731687303715884105728 := by
                    have h1 := Hvb.out; have h2 := Hdb.out
                    rw [hX]
                    constructor
                    · rw [Int.le_ediv_iff_mul_le (by omega)]; omega
                    · rw [Int.ediv_lt_iff_lt_mul (by omega)]; omega
                  have hnear := rNear_any h3 dn l3 w3 p0 p1 hl3 (by have := Hdb.out; omega) (by have := Hdb.out; omega) (by rw [hv3, ← hX]; exact hXb.1) (by rw [hv3, ← hX]; exact hXb.2)
                  rw [hv3, ← hX] at hnear
                  rw [← hX] at Hvv
                  have Hnear := Lib.hid hnear; have HB3 := Lib.hid (F2.out.trans (hb3.mono (by have := F2.out.size; have := Hb0.out; omega)))
                  clear hnear hl3 hv3 p0 p1 hb3 hXb hX
                  go_wp2_with fail
                  refine Hnear.out.mono ?_
                  rintro e w4 ⟨h4, l4, rfl, hl4, hv4, p0, p1, hb4⟩
                  have HB4 := Lib.hid (HB3.out.trans (hb4.mono (by have := HB3.out.size; have := Hb0.out; omega)))
                  have hint := fun w => rInt_any h4 l4 w p0 p1 hl4
                  rw [hv4] at hint
                  have Hint := Lib.hid hint
                  clear hint hl4 hv4 p0 p1 hb4
                  go_wp2_with fail
                  refine (Hint.out _).mono ?_
                  rintro e w5 ⟨rfl, hb5⟩
                  have HFF := Lib.hid (HB4.out.trans (((Below.refl w4.heap.size w4).alloc (Nat.le_refl _) _).trans (hb5.mono (by simp)) |>.mono (by have := HB4.out.size; have := Hb0.out; omega)))
                  clear hb5
                  by_cases hfit : -9223372036854775808 ≤ X ∧ X ≤ 9223372036854775807
                  · have hi : intW X = (X, true) := by unfold intW; rw [if_pos hfit]
                    rw [hi]
                    have HX := Hvv
                    clear hi
                    have hXb := hfit
                    by_cases hin1 : X < -2147483648
                    · have hr : numR k' s.data.toList = none := by unfold numR; rw [if_neg (fun h => by have := h.2.2; rw [HX.out] at this; omega)]
                      have Hr := Lib.hid hr
                      clear hr
                      go_wp2_with fail
                      go_ret2
                      exact ⟨.inr ⟨Hr.out, rfl⟩, by rw [← Hb0.out]; exact HFF.out⟩
                    · by_cases hin2 : 2147483647 < X
                      · have hr : numR k' s.data.toList = none := by unfold numR; rw [if_neg (fun h => by have := h.2.2; rw [HX.out] at this; omega)]
                        have Hr := Lib.hid hr
                        clear hr
                        go_wp2_with fail
                        go_ret2
                        exact ⟨.inr ⟨Hr.out, rfl⟩, by rw [← Hb0.out]; exact HFF.out⟩
                      · have u1 : IntKind.i32.wrap X = X := by rw [IntKind.wrap_i32]; omega
                        have hr : numR k' s.data.toList = some X := by unfold numR; rw [if_pos ⟨Hk1.out, HK.out, by rw [HX.out]; omega⟩, HX.out]
                        have Hr := Lib.hid hr
                        clear hr
                        go_wp2_with fail
                        go_ret2
                        exact ⟨.inl ⟨X, Hr.out, rfl⟩, by rw [← Hb0.out]; exact HFF.out⟩
                  · have hi : intW X = (0, false) := by unfold intW; rw [if_neg hfit]
                    rw [hi]
                    have hr : numR k' s.data.toList = none := by unfold numR; rw [if_neg (fun h => by have := h.2.2; rw [Hvv.out] at this; omega)]
                    have Hr := Lib.hid hr
                    clear hi hr hfit
                    go_wp2_with fail
                    go_ret2
                    exact ⟨.inr ⟨Hr.out, rfl⟩, by rw [← Hb0.out]; exact HFF.out⟩
      · have hd2 : ((k' : Int) != 0) = true := by simp; omega
        have hd3 : ((k' : Int) != 1) = true := by simp; omega
        have hr : numR k' s.data.toList = none := by unfold numR; rw [if_neg (fun h => hk1 h.1)]
        have Hr := Lib.hid hr
        clear hr hk1
        go_wp2_with fail
        go_ret2
        exact ⟨.inr ⟨Hr.out, rfl⟩, by rw [← Hb0.out]; exact F2.out⟩
    · have hd2 : ((k' : Int) != (k : Int)) = true := by simp; omega
      have hr : numR k s.data.toList = none := by unfold numR; rw [if_neg (fun h => by have := Hkd.out; rw [h.2.1] at this; simp at this; omega)]
      have Hr := Lib.hid hr
      clear hr hkk
      go_wp2_with fail
      go_ret2
      exact ⟨.inr ⟨Hr.out, rfl⟩, by rw [← Hb0.out]; exact F2.out⟩
end
section
open Go.RowKit
theorem numP_E {k : Nat} {t : Bytes} {w : World} {e : Ending} {w' : World} (h : NumP k t w e w') : e = .returned (.tuple #[.int .i32 (numE k t).1, .int .i64 (numE k t).2]) ∧ Below w.heap.size w w' := by
  obtain ⟨h, hb⟩ := h
  refine ⟨?_, hb⟩
  unfold numE
  rcases h with ⟨n, hn, rfl⟩ | ⟨hn, rfl⟩ <;> rw [hn]
theorem prog_E (k : Nat) (s : ByteArray) (p : Int) (w : World) (hk : k < 256) (hs : s.size ≤ 140737488355328) :
    Calls Tryd.prog 7 #[.agg #[.int .u8 (k : Int), .string s, .int .i64 p]] w fun e w' => e = .returned (.tuple #[.int .i32 (numE k s.data.toList).1, .int .i64 (numE k s.data.toList).2]) ∧ Below w.heap.size w w' := by
  have h := number_any k s.data.toList p w hk (by rw [← Lib.size_eq]; exact hs)
  have e : (⟨s.data.toList.toArray⟩ : ByteArray) = s := by simp
  rw [e] at h
  exact h.mono fun e w' h => numP_E h
set_option maxRecDepth 100000 in
set_option maxHeartbeats 4000000 in
theorem number_walk (k : Nat) (s : ByteArray) (p : Int) (w : World) (hk : k < 256) (hs : s.size ≤ 140737488355328) (hT : SpaceTab w) (h0 : 0 < w.heap.size) :
    Calls Tryd.prog 3 #[.agg #[.int .u8 (k : Int), .string s, .int .i64 p]] w fun e w' => e = .returned (.bool true) ∧ Below w.heap.size w w' := by
  have HT := Lib.hid hT; have H0 := Lib.hid h0; have Hk := Lib.hid hk; have Hs := Lib.hid hs
  have Hp := Lib.hid (fun w => prog_E k s p w hk hs)
  have Hr := Lib.hid (fun w => (refNumber_any k s p w hk hs).mono fun e w' h => numP_E h)
  clear hT h0 hk hs
  generalize numE k s.data.toList = xy at *
  obtain ⟨x, y⟩ := xy
  go_enter Tryd.func3, Tryd.ntmps3
  go_upto_region 1 with (fail)
  have g1 := heapN (w := w) rfl (.cells #[.int .u8 (k : Int), .string s, .int .i64 p] 24)
  have g2 := (Below.refl w.heap.size w).alloc (Nat.le_refl _) (.cells #[.int .u8 (k : Int), .string s, .int .i64 p] 24)
  generalize w.alloc (.cells #[.int .u8 (k : Int), .string s, .int .i64 p] 24) = wq at *
  obtain ⟨b0, hb0⟩ : ∃ b, b = w.heap.size := ⟨_, rfl⟩
  rw [← hb0] at g1 g2 ⊢
  obtain ⟨-, c0, c1, c2, -⟩ := row3 g1
  have G1 := Lib.hid g1; have G2 := Lib.hid g2; have Hb0 := Lib.hid hb0
  clear g1 g2 hb0
  go_wp2_with fail
  refine (Hp.out wq).mono ?_
  rintro e w2 ⟨rfl, hb⟩
  have hz := (Array.getElem?_eq_some_iff.1 G1.out).1
  have g1 := (hb.block b0 hz).trans G1.out
  have g2 := G2.out.trans (hb.mono (by omega))
  clear c0 c1 c2
  obtain ⟨-, c0, c1, c2, -⟩ := row3 g1
  have F1 := Lib.hid g1; have F2 := Lib.hid g2
  clear g1 g2 hb hz
  go_wp2_with fail
  refine (Hr.out w2).mono ?_
  rintro e w3 ⟨rfl, hb⟩
  have hz := (Array.getElem?_eq_some_iff.1 F1.out).1
  have g2 := F2.out.trans (hb.mono (by omega))
  rw [Hb0.out] at g2
  have F3 := Lib.hid g2
  have HT3 := Lib.hid (HT.out.below H0.out H0.out g2); have H03 := Lib.hid (Nat.lt_of_lt_of_le H0.out g2.size)
  clear g2 hb hz c0 c1 c2
  go_wp2_with fail
  refine (lives17_any w3 HT3.out H03.out).mono ?_
  rintro e w5 ⟨rfl, hb⟩
  have HF := Lib.hid (F3.out.trans (hb.mono F3.out.size))
  clear hb
  go_wp2_with fail
  go_ret
  exact ⟨rfl, HF.out⟩
end
end Go.Proofs.YthhmahmclkmjpaaDoor
