/- Proved: the closure of programs.Of for a block; for runs that keep what PK says. -/
import Derived.Test.YthhmahmclkmjpaaDoorStD
import Derived.Deep.RegionWith
import Derived.Deep.LoopGhost
namespace Go.Proofs.YthhmahmclkmjpaaDoor
open Go.RowKit
theorem must_any (b : Bool) (e : Int) (w : World) : Calls Tryd.prog 28 #[.bool b, .int .i64 e] w fun r w' => (b = true ∧ r = .returned (.tuple #[]) ∧ w' = w) ∨ (b = false ∧ r = .panicked [{ v := .iface 25 (.int .i64 e), recovered := false }] ∧ w' = w) := by
  cases b
  · exact (must_no e w).mono fun r w' ⟨h1, h2⟩ => .inr ⟨rfl, h1, h2⟩
  · exact (must_yes e w).mono fun r w' ⟨h1, h2⟩ => .inl ⟨rfl, h1, h2⟩
theorem blockF_no {L : List KT} {items : Nat → PS → PR} {deep i : Nat} {out : List Cd} (h : isK L i 3 = false) : blockF L items deep ⟨i, out⟩ = .fail 13 i := by unfold blockF; rw [h]; rfl
/-- Where a panic leaves. -/
theorem resP_fail {c : Cx} {w w' : World} {r : PR} {e i : Nat} (hr : r = .fail e i) {out : List Cd} (h : PE c w' i out) (k : Kp c w w') : ResP c w r (.panicked (errV e)) w' := by
  rw [hr]; exact ⟨rfl, ⟨_, h⟩, k⟩
theorem Kp.drew (c : Cx) (w : World) : Kp c w w.drew := Kp.below ((Below.refl _ _).drew)
set_option maxRecDepth 100000 in
set_option maxHeartbeats 4000000 in
theorem block_any (c : Cx) (f deep i : Nat) (out : List Cd) (w : World) (h : PE c w i out) (hl : out.length ≤ i + 1) (hf : c.T.length - (i + 1) < f) (hd0 : 1 ≤ deep) (hd : deep ≤ 17)
    (hit : ∀ (f' j : Nat) (out' : List Cd) (w' : World), f' < f → PE c w' j out' → out'.length ≤ j → deep ≤ 16 → i + 1 ≤ j → c.T.length - j < f' + 1 → Calls Tryd.prog 33 (capItem c deep) w' (ResP c w' (itemF (ktOf c.T) (itemsF (ktOf c.T) f') deep ⟨j, out'⟩))) :
    Calls Tryd.prog 34 (capBlock c deep) w (ResP c w (blockF (ktOf c.T) (itemsF (ktOf c.T) f) deep ⟨i, out⟩)) := by
  obtain ⟨m0, m1, -⟩ := cell1 h.k.hmust
  obtain ⟨s0, s1, -⟩ := cell1 h.k.his
  have htl := h.k.tl
  have H := Lib.hid h; have Hl := Lib.hid hl; have Hf := Lib.hid hf; have Hit := Lib.hid hit; have Htl := Lib.hid htl
  obtain ⟨b, hb⟩ : ∃ b, isK (ktOf c.T) i 3 = b := ⟨_, rfl⟩
  have Hb := Lib.hid hb
  have hdi : (deep : Int) ≤ 17 := by omega
  clear h hb hl hf hit htl
  go_enter Tryd.func34, Tryd.ntmps34
  go_upto_region 0 with (fail)
  go_cut [] (fun wc => b = true ∧ PE c wc i out ∧ Kp c w wc)
  case first =>
    go_region_with (first
      | (refine (is_any c 3 i out _ (by first | exact H.out | exact H.out.drew) (by omega)).mono ?_; rintro e w1 ⟨rfl, rfl⟩; rw [Hb.out])
      | (refine (must_any b 13 _).mono ?_; rintro e w1 (⟨hbt, rfl, rfl⟩ | ⟨hbt, rfl, rfl⟩); rotate_left; exact ⟨rfl, resP_fail (blockF_no (Hb.out.trans hbt)) H.out.drew (Kp.drew _ _)⟩))
    all_goals
      go_wp2_with fail
      go_meet
      case rel => exact ⟨by assumption, H.out.drew, Kp.drew _ _⟩
  case rest =>
    obtain ⟨hbt, hpe, hkp⟩ := hcut
    have Hbt := Lib.hid (Hb.out.trans hbt)
    subst hbt
    clear m0 m1 s0 s1
    obtain ⟨m0, m1, -⟩ := cell1 hpe.k.hmust
    obtain ⟨s0, s1, -⟩ := cell1 hpe.k.his
    obtain ⟨a0, a1, af⟩ := cell1 hpe.hat
    have HP := Lib.hid hpe; have HK := Lib.hid hkp
    clear hpe hkp
    have hilt : i < c.T.length := by have := isK_lt Hbt.out; rwa [ktOf_len] at this
    have hi5 : (i : Int) + 1 ≤ 4398046511104 := by have := Htl.out; omega
    have Hilt := Lib.hid hilt; clear hilt
    by_cases hdp : deep ≤ 16
    · have hdd : decide ((deep : Int) ≤ 16) = true := by simp; omega
      go_wp2_with fail
      refine (must_yes 14 _).mono ?_
      rintro e w1 ⟨rfl, rfl⟩
      have HP1 := Lib.hid (HP.out.at_ (i + 1))
      have hblk : blockF (ktOf c.T) (itemsF (ktOf c.T) f) deep ⟨i, out⟩ = itemsF (ktOf c.T) f deep ⟨i + 1, out⟩ := by unfold blockF; rw [Hbt.out, if_pos rfl, if_pos hdp]
      have Hblk := Lib.hid hblk; clear hblk
      have Hdp := Lib.hid hdp
      clear m0 m1 s0 s1 hdd hdp
      go_wp2_with fail
      clear a0 a1 af
      go_loopg [] f (fun g wr => ∃ (j : Nat) (out' : List Cd), g ≤ f ∧ PE c wr j out' ∧ out'.length ≤ j ∧ i + 1 ≤ j ∧ j ≤ c.T.length ∧ c.T.length - j < g ∧ Kp c w wr ∧ itemsF (ktOf c.T) g deep ⟨j, out'⟩ = itemsF (ktOf c.T) f deep ⟨i + 1, out⟩)
      case atStart => exact ⟨i + 1, out, Nat.le_refl _, HP1.out.1, Hl.out, Nat.le_refl _, Hilt.out, Hf.out, HK.out.trans HP1.out.2, rfl⟩
      case round =>
        obtain ⟨j, out', hg, hpj, hlj, hij, hjl, hfj, hkj, heq⟩ := hrel
        obtain ⟨g1, rfl⟩ : ∃ g1, gk = g1 + 1 := ⟨gk - 1, by omega⟩
        obtain ⟨s0, s1, -⟩ := cell1 hpj.k.his
        obtain ⟨t0, t1, -⟩ := cell1 hpj.k.hitem
        obtain ⟨a0, a1, af⟩ := cell1 hpj.hat
        obtain ⟨b4, hb4⟩ : ∃ b4, isK (ktOf c.T) j 4 = b4 := ⟨_, rfl⟩
        have HPj := Lib.hid hpj; have HKj := Lib.hid hkj; have Hb4 := Lib.hid hb4; have Hq := Lib.hid heq; have Hlj := Lib.hid hlj; have Hij := Lib.hid hij; have Hjl := Lib.hid hjl; have Hfj := Lib.hid hfj; have Hg := Lib.hid hg
        have hj5 : (j : Int) + 1 ≤ 4398046511105 := by have := Htl.out; omega
        clear hpj hkj hb4 heq hlj hij hjl hfj hg
        cases b4
        · have hstep : itemsF (ktOf c.T) (g1 + 1) deep ⟨j, out'⟩ = match itemF (ktOf c.T) (itemsF (ktOf c.T) g1) deep ⟨j, out'⟩ with | .fail e i => .fail e i | .ok s' => itemsF (ktOf c.T) g1 deep s' := by
            conv => lhs; unfold itemsF
            rw [Hb4.out]; rfl
          have Hstep := Lib.hid hstep; clear hstep
          go_wp2_with fail
          refine (is_any c 4 j out' _ HPj.out (by omega)).mono ?_
          rintro e w2 ⟨rfl, rfl⟩
          rw [Hb4.out]
          go_wp2_with fail
          refine (Hit.out g1 j out' _ (by have := Hg.out; omega) HPj.out Hlj.out Hdp.out Hij.out Hfj.out).mono ?_
          rintro e w3 hres
          cases hc : itemF (ktOf c.T) (itemsF (ktOf c.T) g1) deep ⟨j, out'⟩ with
          | ok s' =>
            rw [hc] at hres
            obtain ⟨rfl, hp3, hk3⟩ := hres
            have hfw := itemF_fwd (itemsF_fwd g1) hc
            have hst := Hstep.out
            rw [hc] at hst
            have HP3 := Lib.hid hp3; have HK3 := Lib.hid (HKj.out.trans hk3); have Hfw := Lib.hid hfw; have Hst := Lib.hid hst
            clear hp3 hk3 hc hfw hst
            go_wp2_with fail
            go_roundg g1
            case rel =>
              have f1 := Hfw.out
              have f2 := Hlj.out; have f3 := Hij.out; have f4 := Hfj.out; have f5 := Hg.out
              unfold Fwd at f1
              simp only [ktOf_len] at f1
              exact ⟨s'.at_, s'.out, by omega, HP3.out, by omega, by omega, by omega, by omega, HK3.out, Hst.out.symm.trans Hq.out⟩
            case measure => omega
          | fail er k =>
            rw [hc] at hres
            obtain ⟨rfl, ⟨o3, hp3⟩, hk3⟩ := hres
            have hst := Hstep.out
            rw [hc] at hst
            have Hst := Lib.hid hst
            clear hst hc
            go_wp2_with fail
            exact ⟨rfl, resP_fail (Hblk.out.trans (Hq.out.symm.trans Hst.out)) hp3 (HKj.out.trans hk3)⟩
        · have hstep : itemsF (ktOf c.T) (g1 + 1) deep ⟨j, out'⟩ = .ok ⟨j + 1, out'⟩ := by
            conv => lhs; unfold itemsF
            rw [Hb4.out]; rfl
          have Hstep := Lib.hid hstep; clear hstep
          have HP4 := Lib.hid (HPj.out.at_ (j + 1))
          go_wp2_with fail
          refine (is_any c 4 j out' _ HPj.out (by omega)).mono ?_
          rintro e w2 ⟨rfl, rfl⟩
          rw [Hb4.out]
          go_wp2_with fail
          go_end0
          rw [Hblk.out, ← Hq.out, Hstep.out]
          exact ⟨rfl, HP4.out.1, HKj.out.trans HP4.out.2⟩
    · have hdd : decide ((deep : Int) ≤ 16) = false := by simp; omega
      go_wp2_with fail
      refine (must_no 14 _).mono ?_
      rintro e w1 ⟨rfl, rfl⟩
      go_wp2_with fail
      exact ⟨rfl, resP_fail (by unfold blockF; rw [Hbt.out, if_pos rfl, if_neg hdp]) HP.out HK.out⟩
end Go.Proofs.YthhmahmclkmjpaaDoor
