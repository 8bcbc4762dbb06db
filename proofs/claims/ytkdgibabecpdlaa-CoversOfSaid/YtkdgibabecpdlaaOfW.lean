/- Proved: the function CoversOf answers true and changes no old memory; for every area within the reach. -/
import Derived.Test.YtkdgibabecpdlaaTwinL
import Derived.Test.YtkdgibabecpdlaaRefOf
import Derived.Test.YtkdgibabecpdlaaBitsW
import Derived.Test.YtkdgibabecpdlaaMovedW
namespace Go.Proofs.Ytkdgibabecpdlaa
open Go.RowKit
theorem ofRes_dots {P Q : List LineV} (h : dotsL Q = dotsL P) (even : Bool) (W H : Int) : ofRes Q even W H = ofRes P even W H := by
  unfold ofRes; rw [farL_dots, farL_dots, edgesL_dots, edgesL_dots, h]
theorem cov_gen (A : Option Addr) (cap n : Nat) (Q : List LineV) (even : Bool) (W H : Int) (w : World) (C : List Nat) (E : Int) (m : Nat) (hL : Lns w A Q) (hn : Q.length = n) (hq : Q.length ≤ 100000) (hs : sizeL Q ≤ 100000) (hR : ofRes Q even W H = (C, E)) (hm : C.length = m) :
    Calls Try.prog 15 #[.slice A n cap, .bool even, .int .i64 W, .int .i64 H] w fun e w' => ∃ A' c', e = .returned (.tuple #[.slice A' m c', .int .i64 E]) ∧ w'.ownsRow w.heap.size 65 1 (.slice A' m c') m (bitVs C) ∧ Below w.heap.size w w' := by
  subst hn hm
  refine (coversOf_any A cap Q even W H w hL hq hs).mono ?_
  rintro e w' ⟨v, rfl, hown, hb⟩
  rw [hR] at hown ⊢
  obtain ⟨A', c', rfl, -, hr, -⟩ := ownsRow_form hown
  exact ⟨A', c', rfl, hown, hb⟩
theorem ref_gen (A : Option Addr) (cap n : Nat) (Q : List LineV) (even : Bool) (W H : Int) (w : World) (C : List Nat) (E : Int) (m : Nat) (hL : Lns w A Q) (hn : Q.length = n) (hq : Q.length ≤ 100000) (hs : sizeL Q ≤ 100000) (hR : ofRes Q even W H = (C, E)) (hm : C.length = m) :
    Calls Try.prog 16 #[.slice A n cap, .bool even, .int .i64 W, .int .i64 H] w fun e w' => ∃ A' c', e = .returned (.tuple #[.slice A' m c', .int .i64 E]) ∧ w'.ownsRow w.heap.size 65 1 (.slice A' m c') m (bitVs C) ∧ Below w.heap.size w w' := by
  subst hn hm
  refine (refOf_any A cap Q even W H w hL hq hs).mono ?_
  rintro e w' ⟨v, rfl, hown, hb⟩
  rw [hR] at hown ⊢
  obtain ⟨A', c', rfl, -, hr, -⟩ := ownsRow_form hown
  exact ⟨A', c', rfl, hown, hb⟩
/-- What frames a book's work keeps of any row. -/
theorem own_frameT {w w' : World} (hf : ∀ k, k < w.heap.size → (∀ t co, w.heap[k]? = some (.cells co t (0, 0)) → t ≠ 46 ∧ t ≠ 88) → w'.heap[k]? = w.heap[k]?) {base e s n : Nat} {v : Value} {xs : List Value} (he : e ≠ 46 ∧ e ≠ 88) (h : w.ownsRow base e s v n xs) : w'.ownsRow base e s v n xs := by
  refine ⟨h.1, h.2.imp id ?_⟩
  rintro ⟨g, cap, cur, rfl, hb, hg, r⟩
  have hlt := (Array.getElem?_eq_some_iff.1 hg).1
  refine ⟨g, cap, cur, rfl, hb, ?_, r⟩
  rw [hf g hlt (fun t co e => by
    rw [hg] at e
    injection e with e
    injection e with _ e2 _
    rw [← e2]; exact he)]
  exact hg
theorem own_later {w1 w2 : World} {b e s n e' s' n' : Nat} {u v : Value} {xs ys : List Value} (h1 : w1.ownsRow b e s u n xs) (h2 : w2.ownsRow w1.heap.size e' s' v n' ys) : u.ownBlock = none ∨ u.ownBlock ≠ v.ownBlock := by
  cases hu : u.ownBlock with
  | none => exact .inl rfl
  | some g =>
    right
    intro hv
    have hg := own_lt h1 g hu
    rcases h2.2 with ⟨h0, _⟩ | ⟨g', c', cur, h0, hbg, _⟩
    · rw [h0] at hv; cases hv
    · rw [h0] at hv
      have : g = g' := by simpa [Value.ownBlock] using hv
      omega
/-- An area's block. -/
def AreaB (w : World) (k : Nat) (vs : Array Value) : Prop := w.heap[k]? = some (.cells vs 24 (0, 0))
theorem AreaB.below {w w' : World} {k : Nat} {vs : Array Value} (h : AreaB w k vs) (hb : Below w.heap.size w w') : AreaB w' k vs :=
  (hb.block k (Array.getElem?_eq_some_iff.1 h).1).trans h
theorem AreaB.frame {w w' : World} {k : Nat} {vs : Array Value} (h : AreaB w k vs) (hf : ∀ k, k < w.heap.size → (∀ t co, w.heap[k]? = some (.cells co t (0, 0)) → t ≠ 46 ∧ t ≠ 88) → w'.heap[k]? = w.heap[k]?) : AreaB w' k vs :=
  (hf k (Array.getElem?_eq_some_iff.1 h).1 (fun t co e => by
    unfold AreaB at h
    rw [h] at e
    injection e with e
    injection e with _ e2 _
    rw [← e2]; decide)).trans h
theorem AreaB.cells {w : World} {k : Nat} {v0 v1 v2 v3 : Value} (h : AreaB w k #[v0, v1, v2, v3]) : w.cell? ⟨k, 0, none⟩ = some v0 ∧ w.cell? ⟨k, 1, none⟩ = some v1 ∧ w.cell? ⟨k, 2, none⟩ = some v2 ∧ w.cell? ⟨k, 3, none⟩ = some v3 ∧ k < w.heap.size :=
  ⟨cell_of_row w k 0 _ _ _ h, cell_of_row w k 1 _ _ _ h, cell_of_row w k 2 _ _ _ h, cell_of_row w k 3 _ _ _ h, (Array.getElem?_eq_some_iff.1 h).1⟩
theorem Marked.frame {w w' : World} {q : LineV} (h : Marked w q) (hf : ∀ k, k < w.heap.size → (∀ t co, w.heap[k]? = some (.cells co t (0, 0)) → t ≠ 46 ∧ t ≠ 88) → w'.heap[k]? = w.heap[k]?) : Marked w' q := by
  obtain ⟨g, h1, h2, h3⟩ := h; exact ⟨g, h1, h2, own_frameT hf (by decide) h3⟩
/-- The twins, as the law keeps them. -/
structure Tws (w : World) (base : Nat) (v : Value) (n : Nat) (Pm : List LineV) : Prop where
  own : w.ownsRow base 51 1 v n (heads Pm)
  tws : ∀ q ∈ Pm, Marked w q
theorem Tws.below {w w' : World} {base n : Nat} {v : Value} {Pm : List LineV} (h : Tws w base v n Pm) (hb : Below w.heap.size w w') : Tws w' base v n Pm := ⟨ownsRow_below h.own hb, fun q hq => (h.tws q hq).below hb⟩
theorem Tws.frame {w w' : World} {base n : Nat} {v : Value} {Pm : List LineV} (h : Tws w base v n Pm) (hf : ∀ k, k < w.heap.size → (∀ t co, w.heap[k]? = some (.cells co t (0, 0)) → t ≠ 46 ∧ t ≠ 88) → w'.heap[k]? = w.heap[k]?) : Tws w' base v n Pm :=
  ⟨own_frameT hf (by decide) h.own, fun q hq => (h.tws q hq).frame hf⟩
theorem Tws.lns {w : World} {base n : Nat} {A : Option Addr} {c : Nat} {Pm : List LineV} (h : Tws w base (.slice A n c) n Pm) : Lns w A Pm := by
  obtain ⟨A', c', e', -, hr, -⟩ := ownsRow_form h.own
  injection e' with e1 _ _
  subst e1
  exact ⟨hr, fun q hq => (h.tws q hq).rd⟩
theorem rd_of {w : World} {b e s n m c : Nat} {A : Option Addr} {xs : List Value} (h : w.ownsRow b e s (.slice A m c) n xs) : Rd w A xs := by
  obtain ⟨A', c', e', -, hr, -⟩ := ownsRow_form h
  injection e' with e1 _ _
  subst e1
  exact hr
set_option maxRecDepth 100000 in
set_option maxHeartbeats 4000000 in
theorem of_walk (A : Option Addr) (cap : Nat) (P : List LineV) (even : Bool) (Wd Ht : Int) (w : World) (hL : Lns w A P) (hn : P.length ≤ 140737488355328) (hs : ∀ p ∈ P, p.2.2.length ≤ 140737488355328) :
    Calls Try.prog 3 #[.agg #[.slice A P.length cap, .bool even, .int .i64 Wd, .int .i64 Ht]] w fun e w' => e = .returned (.bool true) ∧ Below w.heap.size w w' := by
  have HL := Lib.hid hL; have HS := Lib.hid hs; clear hL hs
  have HB0 : Hid (Below w.heap.size w (w.alloc (.cells #[.slice A P.length cap, .bool even, .int .i64 Wd, .int .i64 Ht] 24))) := Lib.hid ((Below.refl _ _).alloc (Nat.le_refl _) _)
  have HA0 : Hid (AreaB (w.alloc (.cells #[.slice A P.length cap, .bool even, .int .i64 Wd, .int .i64 Ht] 24)) w.heap.size #[.slice A P.length cap, .bool even, .int .i64 Wd, .int .i64 Ht]) := Lib.hid (heap_alloc_new w _)
  go_enter Try.func3, Try.ntmps3
  go_upto_region 1 with (fail)
  go_cut [34] from 11 (fun v34 wc => ∃ bad : Bool, v34 = .bool bad ∧ (bad = false → P.length ≤ 200 ∧ sizeL P ≤ 200 ∧ (Wd ≤ 12 ∨ 256 < Wd) ∧ (Ht ≤ 12 ∨ 256 < Ht)) ∧ Below w.heap.size w wc ∧ AreaB wc w.heap.size #[.slice A P.length cap, .bool even, .int .i64 Wd, .int .i64 Ht])
  case first =>
    go_wp2_with fail
    refine (size28_any A cap P _ (HL.out.below HB0.out) hn HS.out).mono ?_
    rintro e w1 ⟨⟨n, rfl, hn1, hn2⟩, hb1⟩
    have HA1 := Lib.hid (HA0.out.below hb1)
    have HB1 := Lib.hid (belowMore HB0.out hb1)
    obtain ⟨c0, c1, c2, c3, hz⟩ := HA1.out.cells
    have HN1 := Lib.hid hn1; have HN2 := Lib.hid hn2
    clear hb1 hn1 hn2
    by_cases hbig : (200 : Int) < (n : Int)
    · go_wp2_with fail
      go_meet
      exact ⟨true, rfl, by simp, HB1.out, HA1.out⟩
    go_wp2_with fail
    all_goals
      go_meet
      refine ⟨_, rfl, fun hbad => ?_, HB1.out, HA1.out⟩
      have hsz := HN1.out (by omega)
      first
        | (exfalso; revert hbad; decide)
        | (refine ⟨by omega, by omega, ?_, ?_⟩ <;> first | omega | (simp at hbad; omega))
  case rest =>
    obtain ⟨bad, rfl, hok, hb, ha⟩ := hcut
    have HB1 := Lib.hid hb; have HA1 := Lib.hid ha
    obtain ⟨c0, c1, c2, c3, hz⟩ := HA1.out.cells
    clear hb ha
    cases bad
    case true =>
      go_wp2_with fail
      refine (lives_any _).mono ?_
      rintro e w2 ⟨rfl, hb2⟩
      go_wp2_with fail
      go_ret
      exact ⟨rfl, belowMore HB1.out hb2⟩
    case false =>
      obtain ⟨hPl, hsl, hw12, hh12⟩ := hok rfl
      clear hok
      go_wp2_with fail
      refine (twinLines_any A cap P _ (HL.out.below HB1.out) (by omega) (by omega)).mono ?_
      rintro e w2 ⟨v2, Pm, rfl, ht⟩
      have HT2 := Lib.hid (show Tws w2 wc.heap.size v2 P.length Pm from ⟨ht.own, ht.tws⟩)
      have hlen : Pm.length = P.length := ht.len
      have hdm : dotsL Pm = dotsL P := by rw [ht.dm, List.take_length]
      have hsm : sizeL Pm ≤ 200 := by rw [sizeL_dots, hdm, ← sizeL_dots]; exact hsl
      have HA2 := Lib.hid (HA1.out.below ht.below); have HB2 := Lib.hid (belowMore HB1.out ht.below)
      obtain ⟨A2, c2', rfl, -, -, -⟩ := ownsRow_form ht.own
      have HLM := Lib.hid HT2.out.lns
      have HDM := Lib.hid hdm; have Hlen := Lib.hid hlen; have Hsm := Lib.hid hsm
      obtain ⟨C, E, hR⟩ : ∃ C E, ofRes P even Wd Ht = (C, E) := ⟨_, _, rfl⟩
      obtain ⟨m, hm⟩ : ∃ m, C.length = m := ⟨_, rfl⟩
      have hm144 : m ≤ 144 := by
        rw [← hm]
        have e1 : C = (ofRes P even Wd Ht).1 := by rw [hR]
        rw [e1]
        unfold ofRes
        split
        · simp
        · split
          · simp
          · simp only [coverE_len]
            have h1 : Wd.toNat ≤ 12 := by omega
            have h2 : Ht.toNat ≤ 12 := by omega
            exact Nat.mul_le_mul h1 h2
      have HR := Lib.hid hR; have HRM := Lib.hid ((ofRes_dots hdm even Wd Ht).trans hR); have Hm := Lib.hid hm
      clear ht hlen hdm hsm hR hm c0 c1 c2 c3 hz
      obtain ⟨c0, c1, c2, c3, hz⟩ := HA2.out.cells
      go_wp2_with fail
      refine (cov_gen A2 c2' P.length Pm even Wd Ht _ C E m HLM.out Hlen.out (by have := Hlen.out; omega) (by have := Hsm.out; omega) HRM.out Hm.out).mono ?_
      rintro e w3 ⟨A3, c3', rfl, ho3, hb3⟩
      have HO3 := Lib.hid ho3; have HA3 := Lib.hid (HA2.out.below hb3); have HB3 := Lib.hid (belowMore HB2.out hb3); have HT3 := Lib.hid (HT2.out.below hb3)
      have Hz3 := Lib.hid HB2.out.size
      clear ho3 hb3 c0 c1 c2 c3 hz
      obtain ⟨c0, c1, c2, c3, hz⟩ := HA3.out.cells
      go_wp2_with fail
      refine (ref_gen A cap P.length P even Wd Ht _ C E m (HL.out.below HB3.out) rfl (by omega) (by omega) HR.out Hm.out).mono ?_
      rintro e w4 ⟨A4, c4', rfl, ho4, hb4⟩
      obtain ⟨A4', c4'', e4, -, hr4, -⟩ := ownsRow_form ho4
      injection e4 with e4 _ _
      subst e4
      have HO4 := Lib.hid ho4; have HO3b := Lib.hid (ownsRow_below HO3.out hb4); have HA4 := Lib.hid (HA3.out.below hb4); have HB4 := Lib.hid (belowMore HB3.out hb4); have HT4 := Lib.hid (HT3.out.below hb4)
      clear ho4 hb4 hr4 c0 c1 c2 c3 hz
      obtain ⟨c0, c1, c2, c3, hz⟩ := HA4.out.cells
      go_wp2_with fail
      refine (cov_gen A2 c2' P.length Pm even Wd Ht _ C E m HT4.out.lns Hlen.out (by have := Hlen.out; omega) (by have := Hsm.out; omega) HRM.out Hm.out).mono ?_
      rintro e w5 ⟨A5, c5', rfl, ho5, hb5⟩
      have hal : Below w5.heap.size w5 (w5.alloc (.cells (bookCells 0 (.slice none 0 0)) 46)) := (Below.refl _ _).alloc (Nat.le_refl _) _
      have h45 := belowMore hb5 hal
      have HO3c := Lib.hid (ownsRow_mono (ownsRow_below HO3b.out h45) Hz3.out); have HO5 := Lib.hid (ownsRow_mono (ownsRow_below ho5 hal) HB4.out.size)
      have HAP := Lib.hid (own_later HO3b.out ho5)
      have HO4b := Lib.hid (ownsRow_below HO4.out h45); have HA5 := Lib.hid (HA4.out.below h45); have HB5 := Lib.hid (belowMore HB4.out h45); have HT5 := Lib.hid (HT4.out.below h45)
      have Hbk : Hid (Bk (w5.alloc (.cells (bookCells 0 (.slice none 0 0)) 46)) w.heap.size w5.heap.size []) :=
        Lib.hid ⟨.slice none 0 0, heap_alloc_new w5 _, (belowMore HB4.out hb5).size, World.ownsRow_nil _ _ _ _, by simp, by simp, by simp⟩
      clear ho5 hb5 hal h45 c0 c1 c2 c3 hz
      go_wp2_with fail
      refine (bookBits_any w5.heap.size w.heap.size [] _ m _ C _ Hbk.out HO3c.out Hm.out (by simp) (by simp) HB5.out.size).mono ?_
      rintro e w6 ⟨rfl, hk6, hb6, hf6⟩
      have Hk6 := Lib.hid hk6; have HB6 := Lib.hid (HB5.out.trans hb6); have HO5b := Lib.hid (own_frame hf6 HO5.out); have HO4c := Lib.hid (own_frame hf6 HO4b.out); have HA6 := Lib.hid (HA5.out.frame hf6); have HT6 := Lib.hid (HT5.out.frame hf6)
      clear hk6 hb6 Hbk
      go_wp2_with fail
      refine (bookBits_any w5.heap.size w.heap.size _ _ m c5' C w6 Hk6.out HO5b.out Hm.out (by simp) (fun s hs => by
        simp only [List.nil_append, List.mem_singleton] at hs
        rw [hs]; exact HAP.out) HB6.out.size).mono ?_
      rintro e w7 ⟨rfl, hk7, hb7, hf7⟩
      have Hk7 := Lib.hid hk7; have HB7 := Lib.hid (HB6.out.trans hb7); have HA7 := Lib.hid (HA6.out.frame hf7); have HT7 := Lib.hid (HT6.out.frame hf7); have HO4d := Lib.hid (own_frame hf7 HO4c.out); have HO3d := Lib.hid (own_frame hf7 (own_frame hf6 HO3c.out))
      clear hk7 hb7 hf7 hf6 Hk6
      obtain ⟨c0, c1, c2, c3, hz⟩ := HA7.out.cells
      go_wp2_with fail
      refine (sameBits_n A3 A4 c3' _ m m C C _ (rd_of HO3d.out) (rd_of HO4d.out) Hm.out Hm.out (by have := Hm.out; simp only [maxLen]; omega) (by have := Hm.out; simp only [maxLen]; omega)).mono ?_
      rintro e w8 ⟨rfl, hb8⟩
      rw [decide_eq_true rfl]
      have Hk8 := Lib.hid (Hk7.out.stay hb8); have HB8 := Lib.hid (belowMore HB7.out hb8); have HA8 := Lib.hid (HA7.out.below hb8); have HT8 := Lib.hid (HT7.out.below hb8)
      clear hb8 Hk7 c0 c1 c2 c3 hz
      obtain ⟨c0, c1, c2, c3, hz⟩ := HA8.out.cells
      go_wp2_with fail
      refine (leftLines_any A A2 cap c2' P.length P Pm w8 (HL.out.below HB8.out) HT8.out.lns HT8.out.tws HDM.out rfl (by omega) (by omega)).mono ?_
      rintro e w9 ⟨rfl, hb9⟩
      have Hk9 := Lib.hid (Hk8.out.stay hb9); have HB9 := Lib.hid (belowMore HB8.out hb9)
      clear hb9 Hk8 c0 c1 c2 c3 hz
      go_wp2_with fail
      refine (apart_bk w5.heap.size w.heap.size _ w9 Hk9.out (by simp) (by simp) (fun s hs => by
        simp only [List.nil_append, List.cons_append, List.mem_cons, List.not_mem_nil, or_false] at hs
        rcases hs with rfl | rfl <;> simp only <;> omega) HB9.out.size).mono ?_
      rintro e w10 ⟨rfl, hb10⟩
      have HB10 := Lib.hid (HB9.out.trans hb10)
      clear hb10 Hk9
      go_wp2_with fail
      refine (lives_any _).mono ?_
      rintro e w11 ⟨rfl, hb11⟩
      go_wp2_with fail
      go_ret
      exact ⟨rfl, belowMore HB10.out hb11⟩
end Go.Proofs.Ytkdgibabecpdlaa
