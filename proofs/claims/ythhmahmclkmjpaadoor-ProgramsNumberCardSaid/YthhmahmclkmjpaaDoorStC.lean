/- Proved: the closure of programs.Of for an item that is a number or opens a block; for runs that keep what PK says. -/
import Derived.Test.YthhmahmclkmjpaaDoorStB
import Derived.Test.YthhmahmclkmjpaaDoorNumW
import Derived.Test.YthhmahmclkmjpaaDoorOpsLaw
namespace Go.Proofs.YthhmahmclkmjpaaDoor
open Go.RowKit
theorem cdCells_setN : ∀ (out : List Cd) (u : Nat) (x : Int), (cdCells out).set (u * 2 + 1) (.int .i32 x) = cdCells (setN out u x)
  | [], u, x => by simp [cdCells, setN]
  | d :: l, 0, x => by simp [cdCells, cdCell, setN]
  | d :: l, u + 1, x => by
    have ih := cdCells_setN l u x
    have e1 : cdCells (d :: l) = cdCell d ++ cdCells l := by simp [cdCells]
    have e2 : setN (d :: l) (u + 1) x = d :: setN l u x := by
      unfold setN
      simp only [List.getElem?_cons_succ]
      split <;> simp
    have e3 : cdCells (d :: setN l u x) = cdCell d ++ cdCells (setN l u x) := by simp [cdCells]
    rw [e1, e2, e3, show (u + 1) * 2 + 1 = (cdCell d).length + (u * 2 + 1) by simp [cdCell]; omega, List.set_append_right _ _ (by omega), Nat.add_sub_cancel_left, ih]
/-- A store into a step's number. -/
theorem PE.setN {c : Cx} {w : World} {i : Nat} {out : List Cd} (h : PE c w i out) {u : Nat} (hu : u < out.length) (x : Int) :
    ∃ g cap v, w.cell? ⟨c.b + 1, 0, none⟩ = some (.slice (some ⟨g, 0, none⟩) out.length cap) ∧ g < w.heap.size ∧ w.cell? ⟨g, u * 2 + 1, none⟩ = some v ∧ w.frozen? ⟨g, u * 2 + 1, none⟩ = false ∧
      PE c (w.setCell ⟨g, u * 2 + 1, none⟩ (.int .i32 x)) i (setN out u x) ∧ Kp c w (w.setCell ⟨g, u * 2 + 1, none⟩ (.int .i32 x)) := by
  obtain ⟨A, cap, ho, hr⟩ := h.hout
  obtain ⟨g, cap', cur, hv, hbg, hh, hnc, hcm, hcs, htk⟩ := own_addr hr (by omega)
  injection hv with h1 h2 h3
  subst h1 h3
  have hup : Upd [g] w (w.setCell ⟨g, u * 2 + 1, none⟩ (.int .i32 x)) := (Upd.refl _ w).setCell (.inl (by simp)) _
  have hk : Kp c w (w.setCell ⟨g, u * 2 + 1, none⟩ (.int .i32 x)) := Kp.upd hup (fun k hk _ => .inr (.inr (by
    have : k = g := by simpa using hk
    subst this
    exact ⟨hbg, cur, _, hh⟩)))
  have hb1 : c.b + 1 ∉ [g] := fun hm => own_not hr ho (by decide) (by
    have : c.b + 1 = g := by simpa using hm
    simp [Value.ownBlock, this])
  have hb2 : c.b + 2 ∉ [g] := fun hm => own_not hr h.hat (by decide) (by
    have : c.b + 2 = g := by simpa using hm
    simp [Value.ownBlock, this])
  have hlt := (Array.getElem?_eq_some_iff.1 hh).1
  refine ⟨g, cap, cur[u * 2 + 1]'(by omega), (cell1 ho).1, hlt, ?_, frozen_of_row w g _ _ _ hh, ⟨h.k.keep hk, hup.blk hb2 h.hat, some ⟨g, 0, none⟩, cap, ?_, ?_⟩, hk⟩
  · rw [cell_of_row w g _ _ _ _ hh]; exact Array.getElem?_eq_getElem (by omega)
  · rw [setN_len]; exact hup.blk hb1 ho
  · rw [setN_len]
    refine ⟨by rw [cdCells_len, setN_len], .inr ⟨g, cap, cur.setIfInBounds (u * 2 + 1) (.int .i32 x), rfl, hbg, heap_setCell_same w g (u * 2 + 1) _ _ _ hh, hnc, hcm, by simpa using hcs, ?_⟩⟩
    rw [Array.toList_setIfInBounds, List.take_set, htk, cdCells_setN]
def errV (e : Nat) : List PanicEntry := [{ v := .iface 25 (.int .i64 (e : Int)), recovered := false }]
def ResP (c : Cx) (w : World) (r : PR) (e : Ending) (w' : World) : Prop :=
  match r with
  | .ok s => e = .returned (.tuple #[]) ∧ PE c w' s.at_ s.out ∧ Kp c w w'
  | .fail er i => e = .panicked (errV er) ∧ (∃ out', PE c w' i out') ∧ Kp c w w'
abbrev capItem (c : Cx) (deep : Int) : Array Value := #[.int .i64 deep, pt (c.b + 5), pt (c.b + 2), pt c.b, pt (c.n + 3), pt (c.n + 1), pt c.n]
abbrev capChoice (c : Cx) (deep : Int) : Array Value := #[.int .i64 deep, pt (c.n + 1), pt (c.n + 2), pt (c.b + 6), pt (c.b + 5), pt (c.b + 4), pt (c.b + 1)]
abbrev capBlock (c : Cx) (deep : Int) : Array Value := #[.int .i64 deep, pt (c.b + 5), pt (c.b + 4), pt (c.b + 2), pt (c.n + 4)]
set_option maxRecDepth 100000 in
set_option maxHeartbeats 4000000 in
theorem item_end (c : Cx) (items : Nat → PS → PR) (deep i : Nat) (out : List Cd) (w : World) (h : PE c w i out) (hlt : ¬ i < c.T.length) :
    Calls Tryd.prog 33 (capItem c deep) w (ResP c w (itemF (ktOf c.T) items deep ⟨i, out⟩)) := by
  obtain ⟨a0, a1, af⟩ := cell1 h.hat
  obtain ⟨l0, l1, -⟩ := cell1 h.k.hl
  obtain ⟨m0, m1, -⟩ := cell1 h.k.hmust
  have H := Lib.hid h
  have hr : itemF (ktOf c.T) items deep ⟨i, out⟩ = .fail 13 i := by unfold itemF; rw [List.getElem?_eq_none (by simp only [ktOf_len]; omega)]
  have Hr := Lib.hid hr
  have e1 : decide ((i : Int) < (c.T.length : Int)) = false := by simp; omega
  generalize c.T.length = nT at *
  clear h hr
  go_enter Tryd.func33, Tryd.ntmps33
  go_wp2_with fail
  refine (must_no 13 _).mono ?_
  rintro e w1 ⟨rfl, rfl⟩
  go_wp2_with fail
  rw [Hr.out]
  exact ⟨rfl, rfl, ⟨_, H.out⟩, Kp.refl _ _⟩
set_option maxRecDepth 100000 in
set_option maxHeartbeats 4000000 in
theorem item_open (c : Cx) (items : Nat → PS → PR) (deep i : Nat) (out : List Cd) (w : World) (tt : Bytes) (tp : Int) (tk : Nat) (h : PE c w i out) (hl : out.length ≤ i) (hd : deep ≤ 16) (ht : c.T[i]? = some (tk, tt, tp)) (hk3 : tk = 3)
    (hch : ∀ w, PE c w i out → Calls Tryd.prog 32 (capChoice c (deep + 1 : Nat)) w (ResP c w (choiceF (ktOf c.T) items (deep + 1) ⟨i, out⟩))) :
    Calls Tryd.prog 33 (capItem c deep) w (ResP c w (itemF (ktOf c.T) items deep ⟨i, out⟩)) := by
  obtain ⟨a0, a1, af⟩ := cell1 h.hat
  obtain ⟨l0, l1, -⟩ := cell1 h.k.hl
  obtain ⟨m0, m1, -⟩ := cell1 h.k.hmust
  obtain ⟨ch0, ch1, -⟩ := cell1 h.k.hchoice
  have hd2 : (deep : Int) ≤ 16 := by omega
  have htl := h.k.tl
  obtain ⟨b, off, hA, hb, c0, c1, c2⟩ := h.k.rd.tk ht
  have hat := ktOf_at ht
  have hlt := (List.getElem?_eq_some_iff.1 ht).1
  simp only at c0 c1 c2 hat
  rw [hA] at l0
  have e1 : decide ((i : Int) < (c.T.length : Int)) = true := by simp; omega
  have e2 : (0 : Int) ≤ (i : Int) := by omega
  have e3 : (i : Int) < (c.T.length : Int) := by omega
  have e5 : (i : Int) + 1 ≤ 4398046511104 := by omega
  have Hat := Lib.hid hat; have Hl := Lib.hid hl; have Hlt := Lib.hid hlt; have Htl := Lib.hid htl
  have hal := (Below.refl w.heap.size w).alloc (Nat.le_refl _) (.cells #[.int .u8 (tk : Int), .string ⟨tt.toArray⟩, .int .i64 tp] 24)
  have HE1 := Lib.hid (h.keep hal); have HK1 : Hid (Kp c w _) := Lib.hid (Kp.below (c := c) hal)
  have hr : itemF (ktOf c.T) items deep ⟨i, out⟩ = choiceF (ktOf c.T) items (deep + 1) ⟨i, out⟩ := by unfold itemF; rw [Hat.out]; simp [hk3]
  have Hr := Lib.hid hr; clear hr
  generalize c.T.length = nT at *
  clear h hat hA hl htl hlt hal ht hd
  subst hk3
  go_enter Tryd.func33, Tryd.ntmps33
  go_wp2_with fail
  refine (must_yes 13 _).mono ?_
  rintro e w1 ⟨rfl, rfl⟩
  go_wp2_with fail
  refine (hch _ HE1.out).mono ?_
  rintro e w2 hres
  rw [Hr.out]
  cases hc : choiceF (ktOf c.T) items (deep + 1) ⟨i, out⟩ with
  | ok s =>
    rw [hc] at hres
    obtain ⟨rfl, hp2, hk2⟩ := hres
    go_wp2_with fail
    refine bodyPost_ret (results_none rfl _ _ _) rfl ?_
    rw [Hr.out, hc]
    exact ⟨rfl, hp2, HK1.out.trans hk2⟩
  | fail er j =>
    rw [hc] at hres
    obtain ⟨rfl, hp2, hk2⟩ := hres
    go_wp2_with fail
    exact ⟨rfl, rfl, hp2, HK1.out.trans hk2⟩
set_option maxRecDepth 100000 in
set_option maxHeartbeats 4000000 in
theorem item_num (c : Cx) (items : Nat → PS → PR) (deep i : Nat) (out : List Cd) (w : World) (tt : Bytes) (tp : Int) (tk : Nat) (h : PE c w i out) (hl : out.length ≤ i) (hd : deep ≤ 16) (ht : c.T[i]? = some (tk, tt, tp)) (hk1 : tk ≤ 1) :
    Calls Tryd.prog 33 (capItem c deep) w (ResP c w (itemF (ktOf c.T) items deep ⟨i, out⟩)) := by
  obtain ⟨a0, a1, af⟩ := cell1 h.hat
  obtain ⟨l0, l1, -⟩ := cell1 h.k.hl
  obtain ⟨m0, m1, -⟩ := cell1 h.k.hmust
  have htl := h.k.tl
  obtain ⟨b, off, hA, hb, c0, c1, c2⟩ := h.k.rd.tk ht
  have hat := ktOf_at ht
  have hlt := (List.getElem?_eq_some_iff.1 ht).1
  simp only at c0 c1 c2 hat
  rw [hA] at l0
  have e1 : decide ((i : Int) < (c.T.length : Int)) = true := by simp; omega
  have e2 : (0 : Int) ≤ (i : Int) := by omega
  have e3 : (i : Int) < (c.T.length : Int) := by omega
  have e5 : (i : Int) + 1 ≤ 4398046511104 := by omega
  have Hat := Lib.hid hat; have Hl := Lib.hid hl; have Hlt := Lib.hid hlt; have Htl := Lib.hid htl
  have hal := (Below.refl w.heap.size w).alloc (Nat.le_refl _) (.cells #[.int .u8 (tk : Int), .string ⟨tt.toArray⟩, .int .i64 tp] 24)
  have HE1 := Lib.hid (h.keep hal); have HK1 : Hid (Kp c w _) := Lib.hid (Kp.below (c := c) hal)
  have htx := h.k.tx _ (List.mem_of_getElem? ht)
  have Htx := Lib.hid htx
  have hk3 : tk ≠ 3 := by omega
  have hrs : ∀ n, numR tk tt = some n → itemF (ktOf c.T) items deep ⟨i, out⟩ = .ok ⟨i + 1, out ++ [(tk, n)]⟩ := fun n hn => by unfold itemF; rw [Hat.out]; simp [hk3, hk1, hn]
  have hrn : numR tk tt = none → itemF (ktOf c.T) items deep ⟨i, out⟩ = .fail 13 i := fun hn => by unfold itemF; rw [Hat.out]; simp [hk3, hk1, hn]
  have Hrs := Lib.hid hrs; have Hrn := Lib.hid hrn; clear hrs hrn
  have k3 : ((tk : Int) == 3) = false := by simp; omega
  have h01 : (((tk : Int) == 0) = true) ∨ (((tk : Int) == 0) = false ∧ ((tk : Int) == 1) = true) := by simp; omega
  have htk : (tk : Int) ≤ 1 := by omega
  have Hk1 := Lib.hid hk1
  generalize c.T.length = nT at *
  clear h hat hA hl htl hlt hal ht hd htx hk3 hk1
  rcases h01 with k0 | ⟨k0, k1⟩
  all_goals
    go_enter Tryd.func33, Tryd.ntmps33
    go_wp2_with fail
    refine (must_yes 13 _).mono ?_
    rintro e w1 ⟨rfl, rfl⟩
    go_wp2_with fail
    refine (number_any tk tt tp _ (by have := Hk1.out; omega) Htx.out).mono ?_
    rintro e w2 ⟨hn, hb2⟩
    have HE2 := Lib.hid (HE1.out.keep hb2); have HK2 := Lib.hid (HK1.out.trans (Kp.below hb2))
    have tc0 := (hb2.cell (p := ⟨w1.heap.size, 0, none⟩) (by simp)).trans (cell_of_row _ w1.heap.size 0 _ _ _ (heap_alloc_new w1 _))
    have tsz : w1.heap.size < w2.heap.size := by have := hb2.size; simp at this; omega
    clear hb2 m0 m1 a0 a1 af l0 l1 c0 c1 c2 hb e1 e2 e3
    obtain ⟨m0, m1, -⟩ := cell1 HE2.out.k.hmust
    obtain ⟨ad0, ad1, -⟩ := cell1 HE2.out.k.hadd
    rcases hn with ⟨n, hn, rfl⟩ | ⟨hn, rfl⟩
    · have HR := Lib.hid (Hrs.out n hn)
      clear hn
      go_wp2_with fail
      refine (must_yes 0 _).mono ?_
      rintro e w3 ⟨rfl, rfl⟩
      go_wp2_with fail
      refine (add_any c i out tk n _ HE2.out (by have := Hl.out; have := Htl.out; have := Hlt.out; omega)).mono ?_
      rintro e w4 ⟨rfl, hp4, hk4⟩
      obtain ⟨b0, b1, bf⟩ := cell1 hp4.hat
      have HP4 := Lib.hid (hp4.at_ (i + 1)); have HK4 := Lib.hid (HK2.out.trans hk4)
      clear hp4 hk4 tc0 tsz m0 m1 ad0 ad1
      go_wp2_with fail
      go_end0
      rw [HR.out]
      exact ⟨rfl, HP4.out.1, HK4.out.trans HP4.out.2⟩
    · have HR := Lib.hid (Hrn.out hn)
      clear hn
      go_wp2_with fail
      refine (must_no 13 _).mono ?_
      rintro e w3 ⟨rfl, rfl⟩
      go_wp2_with fail
      rw [HR.out]
      exact ⟨rfl, rfl, ⟨_, HE2.out⟩, HK2.out⟩
end Go.Proofs.YthhmahmclkmjpaaDoor
