/- Proved: the function CoversTurned answers true and changes no old memory; for every line, point and place. -/
import Derived.Test.YtkdgibabecpdlaaTurnedW0
namespace Go.Proofs.Ytkdgibabecpdlaa
open Go.RowKit

set_option maxRecDepth 100000 in
set_option maxHeartbeats 4000000 in
theorem turned_walk (A : Option Addr) (cap : Nat) (l : List Dot) (px py n : Int) (w : World) (h : Rd w A (dotCells l)) (hl : l.length ≤ maxLen) (hlc : l.length ≤ cap) (hn0 : 0 ≤ n) (hn1 : n ≤ 255) :
    Calls Try.prog 5 #[.slice A l.length cap, .agg #[.int .i64 px, .int .i64 py], .int .u8 n] w fun e w' => e = .returned (.bool true) ∧ Below w.heap.size w w' := by
  simp only [maxLen] at hl
  by_cases hlen : 300 < l.length
  · go_enter Try.func5, Try.ntmps5
    clear h
    go_wp2_with fail
    refine (lives_any _).mono ?_
    rintro e w1 ⟨rfl, hb1⟩
    go_wp2_with fail
    go_ret
    exact ⟨rfl, ((Below.refl _ _).alloc (Nat.le_refl _) _).trans (hb1.mono (by simp))⟩
  have hl3 : l.length ≤ 300 := by omega
  have H := Lib.hid h; clear h
  go_enter Try.func5, Try.ntmps5
  go_wp2_with fail
  have hB0 : Below w.heap.size w (w.alloc (.cells #[.int .i64 px, .int .i64 py] 53)) := (Below.refl _ _).alloc (Nat.le_refl _) _
  have H1 := Lib.hid (H.out.below hB0)
  generalize hW1 : w.alloc (.cells #[.int .i64 px, .int .i64 py] 53) = W1 at *
  refine (winding_any A cap l px py W1 H1.out (by omega)).mono ?_
  rintro e w2 ⟨rfl, hb2⟩
  have hab := windF_abs l (px, py)
  have hrv := windF_rev l (px, py)
  have htwo := windF_two l (px, py)
  have hrot := windF_rot l (px, py)
  generalize hNN : windF l (px, py) = N at *
  have HNN := Lib.hid hNN; have Hrv := Lib.hid hrv; have Htwo := Lib.hid htwo; have Hrot := Lib.hid hrot; have Hb2 := Lib.hid hb2
  clear hNN hrv htwo hrot
  have hN1 : -300 ≤ N ∧ N ≤ 300 := by omega
  have hcells := box_cells (w := w) (x := px) (y := py) (w' := w2) (by rw [hW1]; exact hb2)
  obtain ⟨c0, c1, hz⟩ := hcells
  clear hb2
  have HW1 := Lib.hid hW1; clear hW1
  have hwr : IntKind.i64.wrap (-N) = -N := by rw [IntKind.wrap_i64]; omega
  go_upto_region 4 with (fail)
  have Hr2 := Lib.hid ((H1.out.below Hb2.out).drew)
  go_cut [23] from 17 to 23 (fun v23 wc => v23 = .bool false ∧ Below W1.heap.size W1 wc)
  case first =>
    go_region_law (first
      | (refine step_call (turned_any A cap l _ Hr2.out (by omega)) rfl rfl rfl (Try.runTurned _) ?_; rintro e w3 ⟨v3, rfl, hown3, hb3⟩; refine ⟨_, rfl, ?_⟩; obtain ⟨A3, c3, rfl, -, hr3, -⟩ := ownsRow_form hown3; have d0 := (hb3.cell (p := ⟨w.heap.size, 0, none⟩) hz).trans c0; have d1 := (hb3.cell (p := ⟨w.heap.size, 1, none⟩) hz).trans c1; have dz := Nat.lt_of_lt_of_le hz hb3.size; have Hr3 := Lib.hid hr3; have Hb3 := Lib.hid hb3; clear hown3 hr3 hb3)
      | (refine step_call2 (winding_n A3 c3 l.length l.reverse px py _ Hr3.out (by simp) (by omega)) rfl rfl rfl rfl (Try.runWinding _) ?_; rintro e w4 ⟨rfl, hb4⟩; rw [Hrv.out]; refine ⟨_, rfl, ?_⟩))
    all_goals
      have HB := Lib.hid ((Hb2.out.drew).trans ((Hb3.out.trans (hb4.mono Hb3.out.size)).mono Hb2.out.size))
      clear hb4
      go_wp2_with fail
      go_meet
      case rel => exact ⟨rfl, HB.out⟩
  case rest =>
    obtain ⟨rfl, hb4⟩ := hcut
    have Hb4 := Lib.hid hb4; clear hb4 Hr2 c0 c1 hz Hb2
    obtain ⟨c0, c1, hz⟩ := box_cells (w := w) (x := px) (y := py) (w' := wc) (by rw [HW1.out]; exact Hb4.out)
    have Hr4 := Lib.hid (H1.out.below Hb4.out)
    by_cases hl0 : l.length = 0
    · have hN0 := Htwo.out (by omega)
      subst hN0
      go_wp2_with fail
      refine (lives_any _).mono ?_
      rintro e w5 ⟨rfl, hb5⟩
      go_wp2_with fail
      go_ret
      refine ⟨rfl, ?_⟩
      have := Hb4.out.size
      have hs := HW1.out
      subst hs
      exact (hB0.trans (Hb4.out.mono (by simp))).trans (hb5.mono (by simp at this; omega))
    · obtain ⟨k, hk⟩ : ∃ k : Nat, n.toNat % l.length = k := ⟨_, rfl⟩
      have hkl : k < l.length := by rw [← hk]; exact Nat.mod_lt _ (by omega)
      have hki : n % (l.length : Int) = (k : Int) := by rw [← hk]; obtain ⟨m, rfl⟩ := Int.eq_ofNat_of_zero_le hn0; simp
      clear hk
      have hrt := Hrot.out k hkl
      obtain ⟨b, off, rfl, hbl, cx, cy⟩ := Hr4.out.dot (List.getElem?_eq_getElem hkl)
      have HX := Lib.hid hrt; clear hrt cx cy
      go_upto_region 9 with (fail)
      have Hd := Lib.hid ((Hr4.out.drop k).drew)
      have Ht := Lib.hid ((Hr4.out.take (k + 1)).drew)
      have hz4 := Hb4.out.size
      have hkle : k ≤ l.length := by omega
      have hck : cap ≠ k := by omega
      have hkc : (k : Int) + 1 ≤ (cap : Int) := by omega
      have hk0 : (0 : Int) ≤ (k : Int) + 1 := by omega
      have hkw : IntKind.i64.wrap ((k : Int) + 1) = ((k + 1 : Nat) : Int) := by rw [IntKind.wrap_i64]; omega
      have e2 : (l.length : Int) - (k : Int) = ((l.length - k : Nat) : Int) := by omega
      have hbe : ((l.length : Int) == 0) = false := by rw [beq_eq_false_iff_ne]; omega
      simp only [hki, hbe]
      go_cut [9] from 37 to 45 (fun v9 wd => ∃ A9 c9, v9 = .slice A9 (l.length - k + (k + 1)) c9 ∧ Rd wd A9 (dotCells (l.drop k ++ l.take (k + 1))) ∧ Below wc.heap.size wc wd)
      case first =>
        go_region_law (first
          | (refine step_app2 (m := l.length - k) rfl rfl Try.etDots Try.underlying51 (World.ownsRow_nil _ wc.heap.size _ _) rfl rfl Hd.out (by rw [dotCells_len]; simp) dotCells_one (by omega) (Nat.le_refl _) ?_; intro v5 w5 hown5 hgrow5 hat5 hbel5; clear hgrow5 hat5)
          | (refine step_app2 (m := k + 1) rfl rfl Try.etDots Try.underlying51 hown5 rfl rfl (Ht.out.below hbel5) (by rw [dotCells_len]; simp; omega) dotCells_one (by omega) hbel5.size ?_; intro v6 w6 hown6 hgrow6 hat6 hbel6; clear hgrow6 hat6))
        all_goals
          have HB := Lib.hid ((Below.refl wc.heap.size wc).drew.trans (hbel5.trans hbel6))
          obtain ⟨A9, c9, rfl, -, hr9, -⟩ := ownsRow_form hown6
          have HR := Lib.hid hr9
          clear hbel5 hbel6 hown5 hown6 hr9
          go_wp2_with fail
          go_meet
          case rel => exact ⟨A9, c9, by first | rfl | (simp only [Nat.zero_add]) | (congr 1; omega), by rw [dotCells, List.flatMap_append]; simpa [dotCells] using HR.out, HB.out⟩
      case rest =>
        obtain ⟨A9, c9, rfl, hr9, hb9⟩ := hcut
        have f0 := (hb9.cell (p := ⟨w.heap.size, 0, none⟩) hz).trans c0
        have f1 := (hb9.cell (p := ⟨w.heap.size, 1, none⟩) hz).trans c1
        have fz := Nat.lt_of_lt_of_le hz hb9.size
        have Hr9 := Lib.hid hr9; have Hb9 := Lib.hid hb9
        clear hr9 hb9 c0 c1 hz Hd Ht
        go_wp2_with fail
        refine (winding_n A9 c9 _ (l.drop k ++ l.take (k + 1)) px py _ Hr9.out (by simp; omega) (by omega)).mono ?_
        rintro e w5 ⟨rfl, hb5⟩
        rw [HX.out]
        have HB5 := Lib.hid (Hb4.out.trans ((Hb9.out.trans (hb5.mono Hb9.out.size)).mono Hb4.out.size))
        clear hb5 f0 f1 fz
        have HBw : Hid (∀ w6, Below w5.heap.size w5 w6 → Below w.heap.size w w6) := Lib.hid (fun w6 h6 => by
          have := HB5.out.size
          have hs := HW1.out
          have hb0 := hB0
          subst hs
          exact (hb0.trans (HB5.out.mono (by simp))).trans (h6.mono (by simp at this; omega)))
        by_cases h2 : 2 < (l.length : Int)
        · go_wp2_with fail
          refine (lives_any _).mono ?_
          rintro e w6 ⟨rfl, hb6⟩
          go_wp2_with fail
          go_ret
          exact ⟨rfl, HBw.out _ hb6⟩
        · have hN0 := Htwo.out (by omega)
          subst hN0
          go_wp2_with fail
          refine (lives_any _).mono ?_
          rintro e w6 ⟨rfl, hb6⟩
          go_wp2_with fail
          go_ret
          exact ⟨rfl, HBw.out _ hb6⟩
end Go.Proofs.Ytkdgibabecpdlaa
