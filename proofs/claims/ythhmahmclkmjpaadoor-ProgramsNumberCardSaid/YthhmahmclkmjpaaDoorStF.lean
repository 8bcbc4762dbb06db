/- Proved: the closure of programs.Of for a choice; for runs that keep what PK says. -/
import Derived.Test.YthhmahmclkmjpaaDoorStE
namespace Go.Proofs.YthhmahmclkmjpaaDoor
open Go.RowKit
theorem PE.no {c : Cx} {w : World} {b : Bool} {k : Nat} {out : List Cd} (h : PE c w (if b = true then k + 1 else k) out) (hb : b = false) : PE c w k out := by subst hb; exact h
theorem PE.yes {c : Cx} {w : World} {b : Bool} {k : Nat} {out : List Cd} (h : PE c w (if b = true then k + 1 else k) out) (hb : b = true) : PE c w (k + 1) out := by subst hb; exact h
theorem w32_eq (n : Nat) : wrap32 (n : Int) = w32 n := by unfold w32; simp [IntKind.wrap_i32, wrap32]
set_option maxRecDepth 100000 in
set_option maxHeartbeats 8000000 in
theorem choice_any (c : Cx) (f deep i : Nat) (out : List Cd) (w : World) (h : PE c w i out) (hl : out.length ≤ i) (hi : i ≤ c.T.length) (hd0 : 1 ≤ deep) (hd : deep ≤ 17)
    (hbl : ∀ (j : Nat) (out' : List Cd) (w' : World), PE c w' j out' → out'.length ≤ j + 1 → i ≤ j → Calls Tryd.prog 34 (capBlock c deep) w' (ResP c w' (blockF (ktOf c.T) (itemsF (ktOf c.T) f) deep ⟨j, out'⟩))) :
    Calls Tryd.prog 32 (capChoice c deep) w (ResP c w (choiceF (ktOf c.T) (itemsF (ktOf c.T) f) deep ⟨i, out⟩)) := by
  obtain ⟨ad0, ad1, -⟩ := cell1 h.k.hadd
  have htl := h.k.tl
  have hdi : (deep : Int) ≤ 17 := by omega
  obtain ⟨u, hu⟩ : ∃ u, out.length = u := ⟨_, rfl⟩
  have hu5 : (u : Int) ≤ 4398046511104 := by omega
  have H := Lib.hid h; have Hl := Lib.hid hl; have Hi := Lib.hid hi; have Hbl := Lib.hid hbl; have Htl := Lib.hid htl; have Hu := Lib.hid hu
  clear h hl hi hbl htl hu hd0 hd
  go_enter Tryd.func32, Tryd.ntmps32
  go_wp2_with fail
  refine (add_any c i out 4 0 _ H.out (by have := Hl.out; have := Hi.out; have := Htl.out; omega)).mono ?_
  rintro e w1 ⟨rfl, hp1, hk1⟩
  rw [Hu.out]
  clear ad0 ad1
  obtain ⟨b0, b1, -⟩ := cell1 hp1.k.hblock
  have HP1 := Lib.hid hp1; have HK1 := Lib.hid hk1
  clear hp1 hk1
  go_wp2_with fail
  refine (Hbl.out i (out ++ [(4, 0)]) _ HP1.out (by have := Hl.out; simp; omega) (Nat.le_refl _)).mono ?_
  rintro e w2 hres
  have hcd : choiceF (ktOf c.T) (itemsF (ktOf c.T) f) deep ⟨i, out⟩ = _ := rfl
  conv at hcd => rhs; unfold choiceF
  cases hc : blockF (ktOf c.T) (itemsF (ktOf c.T) f) deep ⟨i, out ++ [(4, 0)]⟩ with
  | fail er k =>
    rw [hc] at hres
    simp only [hc] at hcd
    obtain ⟨rfl, ⟨o3, hp3⟩, hk3⟩ := hres
    have Hcd := Lib.hid hcd
    clear hcd hc
    go_wp2_with fail
    exact ⟨rfl, resP_fail Hcd.out hp3 (HK1.out.trans hk3)⟩
  | ok s1 =>
    rw [hc] at hres
    simp only [hc] at hcd
    obtain ⟨rfl, hp2, hk2⟩ := hres
    have hfw := blockF_fwd (itemsF_fwd f) hc
    obtain ⟨j, out1⟩ := s1
    simp only [List.length_append, List.length_singleton, Fwd, ktOf_len] at hfw hcd hp2
    clear b0 b1 hc
    obtain ⟨n0, n1, -⟩ := cell1 hp2.k.hnamed
    have HP2 := Lib.hid hp2; have HK2 := Lib.hid (HK1.out.trans hk2); have Hfw := Lib.hid hfw; have Hcd := Lib.hid hcd
    clear hp2 hk2 hfw hcd
    go_wp2_with fail
    refine (named_any c j out1 ifL _ HP2.out).mono ?_
    rintro e w3 ⟨rfl, hp3, hk3⟩
    have HK3 := Lib.hid (HK2.out.trans hk3)
    obtain ⟨bn, hbn⟩ : ∃ bn, isName (ktOf c.T) j ifL = bn := ⟨_, rfl⟩
    rw [hbn] at hp3
    rw [hbn]
    have Hbn := Lib.hid hbn
    clear hbn hk3 n0 n1
    cases bn
    · have hp3' : PE c w3 j out1 := hp3
      have hcd2 := Hcd.out
      simp only [Hbn.out, Bool.false_eq_true, if_false] at hcd2
      have Hcd2 := Lib.hid hcd2
      have HP3 := Lib.hid hp3'
      obtain ⟨b3, hb3⟩ : ∃ b3, isK (ktOf c.T) j 3 = b3 := ⟨_, rfl⟩
      have Hb3 := Lib.hid hb3
      obtain ⟨m0, m1, -⟩ := cell1 hp3'.k.hmust
      obtain ⟨s0, s1, -⟩ := cell1 hp3'.k.his
      clear hcd2 hb3 hp3 hp3'
      go_upto_region 3 with (fail)
      go_cut [8] (fun v8 wc => v8 = .int .i64 (u : Int) ∧ b3 = true ∧ PE c wc j out1 ∧ Kp c w wc)
      case first =>
        go_region_with (first
          | (refine (is_any c 3 j out1 _ (by first | exact HP3.out | exact HP3.out.drew) (by omega)).mono ?_; rintro e w4 ⟨rfl, rfl⟩; rw [Hb3.out])
          | (refine (must_any b3 13 _).mono ?_; rintro e w4 (⟨hbt, rfl, rfl⟩ | ⟨hbt, rfl, rfl⟩); rotate_left; exact ⟨rfl, resP_fail (by rw [Hcd2.out, Hb3.out, hbt]; rfl) HP3.out.drew (HK3.out.trans (Kp.drew _ _))⟩))
        all_goals
          go_wp2_with fail
          go_meet
          case rel => exact ⟨rfl, by assumption, HP3.out.drew, HK3.out.trans (Kp.drew _ _)⟩
      case rest =>
        obtain ⟨rfl, hbt, hpe, hkp⟩ := hcut
        have hcd3 := Hcd2.out
        simp only [Hb3.out, hbt, if_true] at hcd3
        have Hcd3 := Lib.hid hcd3
        have Hk3 := Lib.hid (Hb3.out.trans hbt)
        clear hbt hcd3 m0 m1 s0 s1 Hcd2 Hcd
        obtain ⟨ad0, ad1, -⟩ := cell1 hpe.k.hadd
        have HP4 := Lib.hid hpe; have HK4 := Lib.hid hkp
        clear hpe hkp
        obtain ⟨q, hq⟩ : ∃ q, out1.length = q := ⟨_, rfl⟩
        have hq5 : (q : Int) ≤ 4398046511104 := by have := Hfw.out; have := Htl.out; have := Hl.out; omega
        have Hq := Lib.hid hq
        clear hq
        go_wp2_with fail
        refine (add_any c j out1 3 0 _ HP4.out (by have := Hfw.out; have := Htl.out; have := Hl.out; omega)).mono ?_
        rintro e w5 ⟨rfl, hp5, hk5⟩
        rw [Hq.out]
        obtain ⟨g, cap, v, o0, g1, o1, o2, hp6, hk6⟩ := hp5.setN (u := u) (by have := Hfw.out; have := Hu.out; simp; omega) (wrap32 ((q : Int) + 1))
        have hbl : c.b + 1 < w5.heap.size := World.block_lt_of_cell? w5 _ o0
        rw [List.length_append, Hq.out, List.length_singleton] at o0
        have huo : (u : Int) < ((q + 1 : Nat) : Int) := by have := Hfw.out; have := Hu.out; have := Hq.out; omega
        have hu0 : (0 : Int) ≤ (u : Int) := by omega
        have HP6 := Lib.hid hp6; have HK6 := Lib.hid ((HK4.out.trans hk5).trans hk6)
        clear hp5 hk5 hp6 hk6 ad0 ad1
        obtain ⟨b0, b1, -⟩ := cell1 HP6.out.k.hblock
        have hw : w32 (out1.length + 1) = wrap32 ((q : Int) + 1) := by rw [← w32_eq, Hq.out]; push_cast; rfl
        have hcd4 := Hcd3.out
        rw [hw, Hu.out] at hcd4
        have Hcd4 := Lib.hid hcd4
        clear hw hcd4 Hcd3
        go_wp2_with fail
        refine (Hbl.out j (Go.Proofs.YthhmahmclkmjpaaDoor.setN (out1 ++ [(3, 0)]) u (wrap32 ((q : Int) + 1))) _ HP6.out (by rw [setN_len]; have := Hfw.out; have := Hl.out; simp; omega) (by have := Hfw.out; omega)).mono ?_
        rintro e w6 hres
        cases hc : blockF (ktOf c.T) (itemsF (ktOf c.T) f) deep ⟨j, Go.Proofs.YthhmahmclkmjpaaDoor.setN (out1 ++ [(3, 0)]) u (wrap32 ((q : Int) + 1))⟩ with
        | fail er k =>
          rw [hc] at hres
          obtain ⟨rfl, ⟨o3, hp7⟩, hk7⟩ := hres
          have hcd5 := Hcd4.out
          simp only [hc] at hcd5
          have Hcd5 := Lib.hid hcd5
          clear hc hcd5
          go_wp2_with fail
          exact ⟨rfl, resP_fail Hcd5.out hp7 (HK6.out.trans hk7)⟩
        | ok s2 =>
          rw [hc] at hres
          obtain ⟨rfl, hp7, hk7⟩ := hres
          have hfw2 := blockF_fwd (itemsF_fwd f) hc
          have hcd5 := Hcd4.out
          simp only [hc] at hcd5
          obtain ⟨k, out2⟩ := s2
          simp only [setN_len, List.length_append, List.length_singleton, Fwd, ktOf_len] at hfw2 hcd5 hp7
          have Hfw2 := Lib.hid hfw2; have Hcd5 := Lib.hid hcd5
          obtain ⟨m0, m1, -⟩ := cell1 hp7.k.hmust
          obtain ⟨n0, n1, -⟩ := cell1 hp7.k.hnamed
          have HP7 := Lib.hid hp7; have HK7 := Lib.hid (HK6.out.trans hk7)
          obtain ⟨bn, hbn⟩ : ∃ bn, isName (ktOf c.T) k ifelseL = bn := ⟨_, rfl⟩
          have Hbn2 := Lib.hid hbn
          clear hp7 hk7 hfw2 hcd5 hc hbn b0 b1 o0 o1 o2 g1 hbl Hcd4
          go_upto_region 7 with (fail)
          go_cut [8, 9] (fun v8 v9 wc => v9 = .int .i64 (q : Int) ∧ bn = true ∧ PE c wc (k + 1) out2 ∧ Kp c w wc)
          case first =>
            go_region_with (first
              | (refine (named_any c k out2 ifelseL _ (by first | exact HP7.out | exact HP7.out.drew)).mono ?_; rintro e w7 ⟨rfl, hp8, hk8⟩; rw [Hbn2.out] at hp8; rw [Hbn2.out]; have HP8 := Lib.hid hp8; have HK8 := Lib.hid hk8; obtain ⟨m0', m1', -⟩ := cell1 hp8.k.hmust; clear hp8 hk8)
              | (refine (must_any bn 13 _).mono ?_; rintro e w8 (⟨hbt, rfl, rfl⟩ | ⟨hbt, rfl, rfl⟩); rotate_left; exact ⟨rfl, resP_fail (by rw [Hcd5.out, Hbn2.out, hbt]; rfl) (HP8.out.no hbt) ((HK7.out.trans (Kp.drew _ _)).trans HK8.out)⟩))
            all_goals
              go_wp2_with fail
              go_meet
              case rel => exact ⟨rfl, by assumption, HP8.out.yes (by assumption), (HK7.out.trans (Kp.drew _ _)).trans HK8.out⟩
          case rest =>
            obtain ⟨rfl, hbt, hpe, hkp⟩ := hcut
            have hcd6 := Hcd5.out
            simp only [Hbn2.out, hbt, if_true] at hcd6
            have Hcd6 := Lib.hid hcd6
            clear hbt hcd6 m0 m1 n0 n1 Hcd5 huo
            obtain ⟨g, cap, v, o0, g1, o1, o2, hp9, hk9⟩ := hpe.setN (u := q) (by have := Hfw2.out; have := Hq.out; omega) (w32 out2.length)
            have huo : (q : Int) < (out2.length : Int) := by have := Hfw2.out; have := Hq.out; omega
            have hq0 : (0 : Int) ≤ (q : Int) := by omega
            have hbl : c.b + 1 < wc.heap.size := World.block_lt_of_cell? wc _ o0
            have HP9 := Lib.hid hp9; have HK9 := Lib.hid (hkp.trans hk9)
            clear hpe hkp hp9 hk9
            obtain ⟨r, hr⟩ : ∃ r, out2.length = r := ⟨_, rfl⟩
            rw [hr] at o0 huo HP9 HK9
            have Hr := Lib.hid hr
            clear hr
            go_wp2_with fail
            refine bodyPost_ret (results_none rfl _ _ _) rfl ?_
            rw [w32_eq, Hcd6.out, Hr.out, Hq.out]
            exact ⟨rfl, HP9.out, HK9.out⟩
    · have hp3' : PE c w3 (j + 1) out1 := hp3
      obtain ⟨g, cap, v, o0, g1, o1, o2, hp4, hk4⟩ := hp3'.setN (u := u) (by have := Hfw.out; have := Hu.out; omega) (w32 out1.length)
      have huo : (u : Int) < (out1.length : Int) := by have := Hfw.out; have := Hu.out; omega
      have hu0 : (0 : Int) ≤ (u : Int) := by omega
      obtain ⟨r1, q1, -⟩ := cell1 hp3'.hat
      have HP4 := Lib.hid hp4; have HK4 := Lib.hid (HK3.out.trans hk4)
      have hbl : c.b + 1 < w3.heap.size := World.block_lt_of_cell? w3 _ o0
      clear hp3 hp3' hp4 hk4
      obtain ⟨m1, hm1⟩ : ∃ m1, out1.length = m1 := ⟨_, rfl⟩
      rw [hm1] at o0 huo HP4 HK4
      have Hm1 := Lib.hid hm1
      clear hm1
      go_wp2_with fail
      go_end0
      rw [w32_eq, Hcd.out, Hbn.out, Hm1.out, Hu.out]
      exact ⟨rfl, HP4.out, HK4.out⟩
end Go.Proofs.YthhmahmclkmjpaaDoor
