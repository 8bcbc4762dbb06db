/- Proved: the function ProgramsForward answers true and changes no old memory; for all tokens within the reach. -/
import Derived.Test.YthhmahmclkmjpaaDoorLives17
import Derived.Test.YthhmahmclkmjpaaDoorForLaw
namespace Go.Proofs.YthhmahmclkmjpaaDoor
open Go.RowKit
theorem braces_step {T : List Tk} {i : Nat} (h : i < T.length) : bracesN (ktOf (T.take (i + 1))) = bracesN (ktOf (T.take i)) + (if (T[i].1 == 3) = true then 1 else 0) := by
  unfold bracesN ktOf
  rw [List.take_add_one, List.getElem?_eq_getElem h, List.map_append, List.countP_append]
  simp [List.countP_cons]
theorem braces_le (L : List KT) : bracesN L ≤ L.length := List.countP_le_length
set_option maxRecDepth 100000 in
set_option maxHeartbeats 4000000 in
theorem forward_walk (T : List Tk) (A : Option Addr) (cl : Nat) (w : World) (hr : Rd w A (tkCells T)) (hold : T ≠ [] → ∀ ad, A = some ad → ad.block < w.heap.size) (hT : SpaceTab w) (h0 : 0 < w.heap.size) (htl : T.length ≤ 4398046511104) (htx : ∀ x ∈ T, x.2.1.length ≤ 140737488355328) :
    Calls Tryd.prog 4 #[.slice A T.length cl] w fun e w' => e = .returned (.bool true) ∧ Below w.heap.size w w' := by
  obtain ⟨n, hn⟩ : ∃ n, n = T.length := ⟨_, rfl⟩
  have Hr := Lib.hid hr; have Ho := Lib.hid hold; have HT := Lib.hid hT; have H0 := Lib.hid h0; have Htl := Lib.hid htl; have Htx := Lib.hid htx
  have hcall := progOf_any T A cl w hr hold hT h0 htl htx
  rw [← hn] at hcall ⊢
  have Hn := Lib.hid hn; have Hcall := Lib.hid hcall
  clear hr hold hT h0 htl htx hcall hn
  by_cases hbig : 3000 < n
  · have d1 : decide ((3000 : Int) < (n : Int)) = true := by simp; omega
    clear hbig
    go_enter Tryd.func4, Tryd.ntmps4
    go_wp2_with fail
    refine (lives17_any w HT.out H0.out).mono ?_
    rintro e w1 ⟨rfl, hb⟩
    go_wp2_with fail
    go_ret
    exact ⟨rfl, hb⟩
  · have d1 : decide ((3000 : Int) < (n : Int)) = false := by simp; omega
    have Hbig := Lib.hid hbig
    clear hbig
    have hkl : (ktOf T).length = n := by rw [ktOf_len, Hn.out]
    have HKL := Lib.hid hkl
    clear hkl
    go_enter Tryd.func4, Tryd.ntmps4
    go_wp2_with fail
    refine Hcall.out.mono ?_
    rintro e w1 ⟨B, cap, rfl, hown, hb⟩
    have HO := Lib.hid hown; have HB := Lib.hid hb
    have HT1 := Lib.hid (HT.out.below H0.out H0.out hb); have H01 := Lib.hid (Nat.lt_of_lt_of_le H0.out hb.size)
    clear hown hb
    have Hbad := Lib.hid (@forward_bad (ktOf T)); have Hok := Lib.hid (@forward_ok (ktOf T) (by rw [HKL.out]; have := Hbig.out; omega))
    generalize progF (ktOf T) = R at *
    obtain ⟨C, pl, er⟩ := R
    simp only at HO Hbad Hok ⊢
    obtain ⟨z, hz⟩ : ∃ z, z = C.length := ⟨_, rfl⟩
    have HZ := Lib.hid hz
    rw [← hz]
    clear hz
    by_cases her : er = 0
    · subst her
      obtain ⟨k1, k2, k3, k4, k5⟩ := Hok.out rfl
      have K1 := Lib.hid k1; have K2 := Lib.hid k2; have K3 := Lib.hid k3; have K4 := Lib.hid k4; have K5 := Lib.hid k5
      clear k1 k2 k3 k4 k5
      go_upto_block 0 with (fail)
      obtain ⟨nb, hnb⟩ : ∃ nb, nb = bracesN (ktOf T) := ⟨_, rfl⟩
      have HNB := Lib.hid hnb
      have hnl : nb ≤ 3000 := by have := braces_le (ktOf T); rw [HKL.out] at this; have := Hbig.out; omega
      have HNL := Lib.hid hnl
      clear hnb hnl
      go_cut [6, 7] from 38 (fun v6 v7 wc => v6 = .int .i64 (nb : Int) ∧ wc = w1)
      case first =>
        go_wp2_with fail
        go_loopw [6, 7] (fun v6 v7 wr => ∃ (i b : Nat), v7 = .int .i64 (i : Int) ∧ v6 = .int .i64 (b : Int) ∧ Hid (i ≤ n ∧ b = bracesN (ktOf (T.take i))) ∧ wr = w1) (fun _ v7 _ => n - (intOf v7).toNat)
        case atStart => exact ⟨0, 0, rfl, rfl, Lib.hid ⟨by omega, by simp [bracesN, ktOf]⟩, rfl⟩
        case round =>
          obtain ⟨i, b, rfl, rfl, hi, rfl⟩ := hrel
          by_cases hlt : i < n
          · have hil : i < T.length := by rw [← Hn.out]; exact hlt
            obtain ⟨bb, off, hA, hbl, c0, c1, c2⟩ := (Hr.out.below HB.out).tk (List.getElem?_eq_getElem hil)
            have hst := braces_step hil
            have hbb : b ≤ 3000 := by rw [hi.out.2]; have h1 := braces_le (ktOf (T.take i)); rw [ktOf_len, List.length_take] at h1; have := Hbig.out; omega
            rw [← hi.out.2] at hst
            generalize T[i] = t at *
            obtain ⟨tk, tt, tp⟩ := t
            simp only at c0 hst
            subst hA
            have hii : (i : Int) < (n : Int) := by omega
            have hi0 : (0 : Int) ≤ (i : Int) := by omega
            have Hst := Lib.hid hst; have Hlt := Lib.hid hlt
            have wb : wrap64 ((b : Int) + 1) = ((b + 1 : Nat) : Int) := by unfold wrap64; omega
            have hbi : (b : Int) + 1 ≤ 3001 := by omega
            have hi3 : (i : Int) < 3000 := by have := Hbig.out; omega
            have wi : wrap64 ((i : Int) + 1) = ((i + 1 : Nat) : Int) := by unfold wrap64; omega
            clear hst hil hlt hbb c1 c2
            by_cases h3 : tk = 3
            · have e3 : ((tk : Int) == 3) = true := by simp; omega
              have Hs2 : Hid (b + 1 = bracesN (ktOf (T.take (i + 1)))) := Lib.hid (by rw [Hst.out]; simp [h3])
              clear h3 Hst
              go_wp2_with fail
              go_roundw
              case rel => exact ⟨i + 1, b + 1, by go_num, by go_num, Lib.hid ⟨Hlt.out, Hs2.out⟩, trivial⟩
              case measure => have := Hlt.out; simp [intOf]; omega
            · have e3 : ((tk : Int) == 3) = false := by simp; omega
              have Hs2 : Hid (b = bracesN (ktOf (T.take (i + 1)))) := Lib.hid (by rw [Hst.out]; simp [h3])
              clear h3 Hst
              go_wp2_with fail
              go_roundw
              case rel => exact ⟨i + 1, b, by go_num, rfl, Lib.hid ⟨Hlt.out, Hs2.out⟩, trivial⟩
              case measure => have := Hlt.out; simp [intOf]; omega
          · have hin : i = n := by have := hi.out.1; omega
            have hbn : b = nb := by rw [hi.out.2, HNB.out, hin, Hn.out, List.take_length]
            have Hbn := Lib.hid hbn
            clear hbn
            subst hin
            go_wp2_with fail
            go_meet
            case rel => exact ⟨by rw [Hbn.out], rfl⟩
      case rest =>
        obtain ⟨rfl, rfl⟩ := hcut
        go_upto_block 2 with (fail)
        go_cut [8, 9] from 52 (fun v8 v9 wd => wd = wc)
        case first =>
          go_wp2_with fail
          go_loopw [8, 9] (fun v8 v9 wr => ∃ i : Nat, i ≤ z ∧ v8 = .int .i64 (i : Int) ∧ wr = wc) (fun v8 _ _ => z - (intOf v8).toNat)
          case atStart => exact ⟨0, by omega, rfl, rfl⟩
          case round =>
            obtain ⟨i, hi, rfl, rfl⟩ := hrel
            have hz10 : z ≤ 1024 := by rw [HZ.out]; exact K2.out
            have hz1 : (z : Int) ≤ 1024 := by omega
            clear hz10
            by_cases hlt : i < z
            · have hil : i < C.length := by rw [← HZ.out]; exact hlt
              have hk5 := K5.out i _ (List.getElem?_eq_getElem hil)
              have hro := rd_of HO.out
              obtain ⟨bb, off, hA, hbl, c0, c1⟩ := hro.cd (List.getElem?_eq_getElem hil)
              clear hro
              generalize C[i] = t at *
              obtain ⟨op, N⟩ := t
              simp only at c0 c1 hk5
              subst hA
              have hii : (i : Int) < (z : Int) := by omega
              have hi0 : (0 : Int) ≤ (i : Int) := by omega
              have wi : wrap64 ((i : Int) + 1) = ((i + 1 : Nat) : Int) := by unfold wrap64; omega
              have hi3 : (i : Int) < 1024 := by omega
              have Hlt := Lib.hid hlt
              clear hlt hil
              have hcase : (((op : Int) == 3) = true ∧ jumpB (op, N) = true) ∨ (((op : Int) == 3) = false ∧ ((op : Int) == 4) = true ∧ jumpB (op, N) = true) ∨ (((op : Int) == 3) = false ∧ ((op : Int) == 4) = false) := by
                unfold jumpB; simp; omega
              have Hk5 := Lib.hid hk5
              clear hk5
              rcases hcase with ⟨f3, hj⟩ | ⟨f3, f4, hj⟩ | ⟨f3, f4⟩
              · obtain ⟨g1, g2, g3⟩ := Hk5.out hj
                rw [← HZ.out] at g2
                have wN : IntKind.i64.wrap N = N := by rw [IntKind.wrap_i64]; omega
                have j1 : decide (N ≤ (i : Int)) = false := by simp; omega
                have j2 : decide ((z : Int) < N) = false := by simp; omega
                have j3 : ((nb : Int) == 1) = false := by rw [← HNB.out] at g3; simp; omega
                clear g1 g2 g3 hj Hk5
                go_wp2_with fail
                go_roundw
                case rel => exact ⟨i + 1, Hlt.out, by go_num, trivial⟩
                case measure => have := Hlt.out; simp [intOf]; omega
              · obtain ⟨g1, g2, g3⟩ := Hk5.out hj
                rw [← HZ.out] at g2
                have wN : IntKind.i64.wrap N = N := by rw [IntKind.wrap_i64]; omega
                have j1 : decide (N ≤ (i : Int)) = false := by simp; omega
                have j2 : decide ((z : Int) < N) = false := by simp; omega
                have j3 : ((nb : Int) == 1) = false := by rw [← HNB.out] at g3; simp; omega
                clear g1 g2 g3 hj Hk5
                go_wp2_with fail
                go_roundw
                case rel => exact ⟨i + 1, Hlt.out, by go_num, trivial⟩
                case measure => have := Hlt.out; simp [intOf]; omega
              · clear Hk5
                go_wp2_with fail
                go_roundw
                case rel => exact ⟨i + 1, Hlt.out, by go_num, trivial⟩
                case measure => have := Hlt.out; simp [intOf]; omega
            · obtain rfl : i = z := by omega
              go_wp2_with fail
              go_meet
              case rel => trivial
        case rest =>
          obtain rfl := hcut
          have hz1 : decide ((z : Int) ≤ 1024) = true := by have := K2.out; rw [← HZ.out] at this; simp; omega
          have hpl : ((pl : Int) == (n : Int)) = true := by have := K1.out; rw [HKL.out] at this; simp; omega
          have hplN : (pl == n) = true := by have := K1.out; rw [HKL.out] at this; simp; omega
          have wn : wrap64 ((n : Int) - 2) = (n : Int) - 2 := by have := Hbig.out; unfold wrap64; omega
          have hcase : decide ((1 : Int) < (nb : Int)) = true ∨ (decide ((1 : Int) < (nb : Int)) = false ∧ ((z : Int) == (n : Int) - 2) = true) := by
            have h3 := K3.out; have h4 := K4.out
            rw [← HNB.out] at h3 h4
            rw [← HZ.out, HKL.out] at h4
            by_cases h : nb = 1
            · right; have := h4 h; simp; omega
            · left; simp; omega
          rcases hcase with d5 | ⟨d5, d6⟩
          all_goals
            go_wp2_with fail
            refine (lives17_any _ HT1.out H01.out).mono ?_
            rintro e w2 ⟨rfl, hb⟩
            have HF := Lib.hid (HB.out.trans (hb.mono HB.out.size))
            clear hb
            go_wp2_with fail
            go_ret
            exact ⟨rfl, HF.out⟩
    · have e1 : ((er : Int) != 0) = true := by simp; omega
      obtain ⟨k1, k2⟩ := Hbad.out her
      have hz0 : z = 0 := by rw [HZ.out, k1]; rfl
      subst hz0
      have d2 : decide (pl ≤ n) = true := by rw [HKL.out] at k2; simp; omega
      have d3 : decide ((0 : Int) ≤ (pl : Int)) = true := by simp
      clear k1 k2 her Hok Hbad
      go_wp2_with fail
      refine (lives17_any w1 HT1.out H01.out).mono ?_
      rintro e w2 ⟨rfl, hb⟩
      have HF := Lib.hid (HB.out.trans (hb.mono HB.out.size))
      clear hb
      go_wp2_with fail
      go_ret
      exact ⟨rfl, HF.out⟩
end Go.Proofs.YthhmahmclkmjpaaDoor
