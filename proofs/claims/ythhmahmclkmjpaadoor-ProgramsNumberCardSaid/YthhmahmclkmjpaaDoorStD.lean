/- Proved: the closure of programs.Of for any item; for runs that keep what PK says. -/
import Derived.Test.YthhmahmclkmjpaaDoorStC
namespace Go.Proofs.YthhmahmclkmjpaaDoor
open Go.RowKit
theorem Tryd.zeroCd (w : World) : (zeroValue 36).run Tryd.prog w = .ok (.agg #[.int .u8 0, .int .i32 0]) w := by kernel_rfl
set_option maxRecDepth 100000 in
set_option maxHeartbeats 4000000 in
theorem item_name (c : Cx) (items : Nat → PS → PR) (deep i : Nat) (out : List Cd) (w : World) (tt : Bytes) (tp : Int) (tk : Nat) (h : PE c w i out) (hl : out.length ≤ i) (hd : deep ≤ 16) (ht : c.T[i]? = some (tk, tt, tp)) (hk1 : ¬ tk ≤ 1) (hk3 : tk ≠ 3) :
    Calls Tryd.prog 33 (capItem c deep) w (ResP c w (itemF (ktOf c.T) items deep ⟨i, out⟩)) := by
  obtain ⟨a0, a1, af⟩ := cell1 h.hat
  obtain ⟨l0, l1, -⟩ := cell1 h.k.hl
  obtain ⟨m0, m1, -⟩ := cell1 h.k.hmust
  obtain ⟨mp0, mp1, -⟩ := cell1 h.k.hmap
  have htl := h.k.tl
  obtain ⟨b, off, hA, hb, c0, c1, c2⟩ := h.k.rd.tk ht
  have hat := ktOf_at ht
  have hlt := (List.getElem?_eq_some_iff.1 ht).1
  simp only at c0 c1 c2 hat
  rw [hA] at l0
  have e1 : decide ((i : Int) < (c.T.length : Int)) = true := by simp; omega
  have e2 : (0 : Int) ≤ (i : Int) := by omega
  have e3 : (i : Int) < (c.T.length : Int) := by omega
  have e5 : (i : Int) + 1 ≤ 4398046511104 := by omega
  have Hat := Lib.hid hat; have Hl := Lib.hid hl; have Hlt := Lib.hid hlt; have Htl := Lib.hid htl
  have hal := (Below.refl w.heap.size w).alloc (Nat.le_refl _) (.cells #[.int .u8 (tk : Int), .string ⟨tt.toArray⟩, .int .i64 tp] 24)
  have HE1 := Lib.hid (h.keep hal); have HK1 : Hid (Kp c w _) := Lib.hid (Kp.below (c := c) hal)
  have htx : tt.length ≤ 140737488355328 := h.k.tx _ (List.mem_of_getElem? ht)
  have hkey : keyOf Tryd.prog 9 (.string ⟨tt.toArray⟩) = some (.string tt) := WideMaps.keyOf_string_mk Tryd.underlying9 (by show tt.toArray.size ≤ _; simp [maxLen]; omega)
  obtain ⟨v, ps, hrun, hv⟩ := HE1.out.k.howns.look_ok Tryd.key_str Tryd.underlying63 (Tryd.zeroCd _) (cdElem_mk 0 0) hkey
  rw [opD_has] at hrun
  have k3 : ((tk : Int) == 3) = false := by simp; omega
  have k0 : ((tk : Int) == 0) = false := by simp; omega
  have k1 : ((tk : Int) == 1) = false := by simp; omega
  generalize c.T.length = nT at *
  have Hv := Lib.hid hv
  clear h hat hA hl htl hlt hal ht hd htx hkey hv
  cases ho : opF tt with
  | none =>
    have hr : itemF (ktOf c.T) items deep ⟨i, out⟩ = .fail 13 i := by unfold itemF; rw [Hat.out]; simp [hk3, hk1, ho]
    have Hr := Lib.hid hr
    have hz : v = .agg #[.int .u8 0, .int .i32 0] := by
      have := Hv.out
      rw [Maps.atKey_of_not_has (by rw [opD_has, ho]; rfl)] at this
      exact cdElem_inv this
    subst hz
    rw [ho] at hrun
    clear hr ho hk1 hk3
    go_enter Tryd.func33, Tryd.ntmps33
    go_wp2_with fail
    refine (must_yes 13 _).mono ?_
    rintro e w1 ⟨rfl, rfl⟩
    go_wp2_with fail
    refine (must_no 13 _).mono ?_
    rintro e w3 ⟨rfl, rfl⟩
    go_wp2_with fail
    have hal2 := (Below.refl (w1.alloc (.cells #[.int .u8 (tk : Int), .string ⟨tt.toArray⟩, .int .i64 tp] 24)).heap.size (w1.alloc (.cells #[.int .u8 (tk : Int), .string ⟨tt.toArray⟩, .int .i64 tp] 24))).alloc (Nat.le_refl _) (.cells #[.int .u8 0, .int .i32 0] 36)
    rw [Hr.out]
    exact ⟨rfl, rfl, ⟨_, HE1.out.keep hal2⟩, HK1.out.trans (Kp.below hal2)⟩
  | some cd =>
    obtain ⟨o, x⟩ := cd
    have hz : v = .agg #[.int .u8 (o : Int), .int .i32 x] := by
      have := Hv.out
      rw [opD_at tt ho] at this
      exact cdElem_inv this
    subst hz
    have hrs : tk = 2 → itemF (ktOf c.T) items deep ⟨i, out⟩ = .ok ⟨i + 1, out ++ [(o, x)]⟩ := fun e => by unfold itemF; rw [Hat.out]; simp [ho, e]
    have hrn : tk ≠ 2 → itemF (ktOf c.T) items deep ⟨i, out⟩ = .fail 13 i := fun e => by unfold itemF; rw [Hat.out]; simp [hk3, hk1, ho, e]
    rw [ho] at hrun
    have Hrs := Lib.hid hrs; have Hrn := Lib.hid hrn
    clear ho hk1 hk3 hrs hrn
    by_cases hk2 : tk = 2
    · have HR := Lib.hid (Hrs.out hk2)
      have k2 : ((tk : Int) == 2) = true := by simp; omega
      clear hk2
      go_enter Tryd.func33, Tryd.ntmps33
      go_wp2_with fail
      refine (must_yes 13 _).mono ?_
      rintro e w1 ⟨rfl, rfl⟩
      go_wp2_with fail
      refine (must_yes 13 _).mono ?_
      rintro e w3 ⟨rfl, rfl⟩
      have hal2 := (Below.refl (w1.alloc (.cells #[.int .u8 (tk : Int), .string ⟨tt.toArray⟩, .int .i64 tp] 24)).heap.size (w1.alloc (.cells #[.int .u8 (tk : Int), .string ⟨tt.toArray⟩, .int .i64 tp] 24))).alloc (Nat.le_refl _) (.cells #[.int .u8 (o : Int), .int .i32 x] 36)
      have HE2 := Lib.hid (HE1.out.keep hal2); have HK2 := Lib.hid (HK1.out.trans (Kp.below hal2))
      clear hal2 m0 m1 a0 a1 af l0 l1 c0 c1 c2 hb e1 e2 e3 hrun mp0 mp1
      obtain ⟨ad0, ad1, -⟩ := cell1 HE2.out.k.hadd
      go_wp2_with fail
      refine (add_any c i out o x _ HE2.out (by have := Hl.out; have := Htl.out; have := Hlt.out; omega)).mono ?_
      rintro e w4 ⟨rfl, hp4, hk4⟩
      obtain ⟨b0, b1, bf⟩ := cell1 hp4.hat
      have HP4 := Lib.hid (hp4.at_ (i + 1)); have HK4 := Lib.hid (HK2.out.trans hk4)
      clear hp4 hk4 ad0 ad1
      go_wp2_with fail
      go_end0
      rw [HR.out]
      exact ⟨rfl, HP4.out.1, HK4.out.trans HP4.out.2⟩
    · have HR := Lib.hid (Hrn.out hk2)
      have k2 : ((tk : Int) == 2) = false := by simp; omega
      clear hk2
      go_enter Tryd.func33, Tryd.ntmps33
      go_wp2_with fail
      refine (must_yes 13 _).mono ?_
      rintro e w1 ⟨rfl, rfl⟩
      go_wp2_with fail
      refine (must_no 13 _).mono ?_
      rintro e w3 ⟨rfl, rfl⟩
      go_wp2_with fail
      have hal2 := (Below.refl (w1.alloc (.cells #[.int .u8 (tk : Int), .string ⟨tt.toArray⟩, .int .i64 tp] 24)).heap.size (w1.alloc (.cells #[.int .u8 (tk : Int), .string ⟨tt.toArray⟩, .int .i64 tp] 24))).alloc (Nat.le_refl _) (.cells #[.int .u8 (o : Int), .int .i32 x] 36)
      rw [HR.out]
      exact ⟨rfl, rfl, ⟨_, HE1.out.keep hal2⟩, HK1.out.trans (Kp.below hal2)⟩
theorem item_any (c : Cx) (items : Nat → PS → PR) (deep i : Nat) (out : List Cd) (w : World) (h : PE c w i out) (hl : out.length ≤ i) (hd : deep ≤ 16)
    (hch : isK (ktOf c.T) i 3 = true → ∀ w, PE c w i out → Calls Tryd.prog 32 (capChoice c (deep + 1 : Nat)) w (ResP c w (choiceF (ktOf c.T) items (deep + 1) ⟨i, out⟩))) :
    Calls Tryd.prog 33 (capItem c deep) w (ResP c w (itemF (ktOf c.T) items deep ⟨i, out⟩)) := by
  by_cases hlt : i < c.T.length
  · have ht := List.getElem?_eq_getElem hlt
    generalize c.T[i] = t at ht
    obtain ⟨tk, tt, tp⟩ := t
    by_cases h3 : tk = 3
    · exact item_open c items deep i out w tt tp tk h hl hd ht h3 (hch (by unfold isK; rw [ktOf_at ht]; simp [h3]))
    · by_cases h1 : tk ≤ 1
      · exact item_num c items deep i out w tt tp tk h hl hd ht h1
      · exact item_name c items deep i out w tt tp tk h hl hd ht h1 h3
  · exact item_end c items deep i out w h hlt
end Go.Proofs.YthhmahmclkmjpaaDoor
