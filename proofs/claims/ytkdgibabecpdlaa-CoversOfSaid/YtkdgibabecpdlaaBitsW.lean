/- Contracts and plain laws that the claims of this seat use (BitsW), for all arguments that their hypotheses name. -/
import Derived.Test.YtkdgibabecpdlaaTwinU
import Derived.Test.YtkdgibabecpdlaaRefBits
import Derived.Test.YtkdgibabecpdlaaOnes
import Derived.Test.YtkdgibabecpdlaaLives
namespace Go.Proofs.Ytkdgibabecpdlaa
open Go.RowKit
theorem apart_bk (K base : Nat) (L : List St) (w : World) (h : Bk w base K L) (h0 : L ≠ []) (hL : L.length ≤ 200) (hn : ∀ s ∈ L, s.n ≤ 1000000) (hbase : base ≤ w.heap.size) :
    Calls Try.prog 20 #[.pointer (some ⟨K, 0, none⟩)] w fun e w' => e = .returned (.bool true) ∧ Below base w w' := by
  obtain ⟨vS, hK, _, hrow, hown, hpw, hl⟩ := h
  have hpos : 0 < L.length := List.length_pos_iff.2 h0
  obtain ⟨g, c, cur, hv, _⟩ := own_addr hrow hpos
  subst hv
  exact apart_any K base g c L.length L w hK ⟨hrow, hown, hpw, hl⟩ (by omega) hn (by omega) (by omega) hbase
theorem Bk.stay {w w' : World} {base K : Nat} {L : List St} (h : Bk w base K L) (hb : Below w.heap.size w w') : Bk w' base K L := by
  obtain ⟨vS, hK, hk, hrow, hown, hpw, hl⟩ := h
  have hlt := (Array.getElem?_eq_some_iff.1 hK).1
  exact ⟨vS, (hb.block K hlt).trans hK, hk, ownsRow_below hrow hb, fun s hs => ownsRow_below (hown s hs) hb, hpw, hl⟩
/-- A list of numbers stays where only books and strips change. -/
theorem own_frame {w w' : World} (hf : ∀ k, k < w.heap.size → (∀ t co, w.heap[k]? = some (.cells co t (0, 0)) → t ≠ 46 ∧ t ≠ 88) → w'.heap[k]? = w.heap[k]?) {base n : Nat} {v : Value} {xs : List Value} (h : w.ownsRow base 65 1 v n xs) : w'.ownsRow base 65 1 v n xs := by
  refine ⟨h.1, h.2.imp id ?_⟩
  rintro ⟨g, cap, cur, rfl, hb, hg, r⟩
  have hlt := (Array.getElem?_eq_some_iff.1 hg).1
  refine ⟨g, cap, cur, rfl, hb, ?_, r⟩
  rw [hf g hlt (fun t co e => by
    rw [hg] at e
    injection e with e
    injection e with _ e2 _
    rw [← e2]; decide)]
  exact hg
set_option maxRecDepth 100000 in
set_option maxHeartbeats 4000000 in
theorem bits_walk (A B : Option Addr) (ca cb : Nat) (a b : List Nat) (k : Nat) (w : World) (ha : Rd w A (bitVs a)) (hb : Rd w B (bitVs b)) (hal : a.length ≤ maxLen) (hbl : b.length ≤ maxLen) (ha16 : ∀ x ∈ a, x < 65536) (hb16 : ∀ x ∈ b, x < 65536) (hk : k < 65536) :
    Calls Try.prog 10 #[.slice A a.length ca, .slice B b.length cb, .int .u16 (k : Int)] w fun e w' => e = .returned (.bool true) ∧ Below w.heap.size w w' := by
  simp only [maxLen] at hal hbl
  have HA := Lib.hid ha; have HB := Lib.hid hb; have HA16 := Lib.hid ha16; have HB16 := Lib.hid hb16
  clear ha hb ha16 hb16
  go_enter Try.func10, Try.ntmps10
  by_cases h1 : 5000 < (a.length : Int)
  · go_wp2_with fail
    refine (lives_any _).mono ?_
    rintro e w1 ⟨rfl, hb1⟩
    go_wp2_with fail
    go_ret
    exact ⟨rfl, hb1⟩
  by_cases h2 : 5000 < (b.length : Int)
  · go_wp2_with fail
    refine (lives_any _).mono ?_
    rintro e w1 ⟨rfl, hb1⟩
    go_wp2_with fail
    go_ret
    exact ⟨rfl, hb1⟩
  go_wp2_with fail
  refine (twinBits_any A ca a w HA.out (by omega)).mono ?_
  rintro e w1 ⟨g1, rfl, hg1, ho1, hr1, hb1⟩
  go_wp2_with fail
  refine (twinBits_any B cb b w1 (HB.out.below hb1) (by omega)).mono ?_
  rintro e w2 ⟨g2, rfl, hg2, ho2, hr2, hb2⟩
  have hr1' := hr1.below hb2
  have e3 : ∀ l : List Nat, bitVs (l ++ mk3) = bitVs l ++ bitVs mk3 := fun l => by simp [bitVs]
  have p1 : Rd w2 (some ⟨g1, 0, none⟩) (bitVs a) := by have := hr1'; rw [e3] at this; exact this.pre
  have p2 : Rd w2 (some ⟨g2, 0, none⟩) (bitVs b) := by have := hr2; rw [e3] at this; exact this.pre
  have ho1' := ownsRow_below ho1 hb2
  have hg12 : g1 < w1.heap.size := own_lt ho1 g1 rfl
  go_wp2_with fail
  refine (both_any _ _ _ _ a b w2 p1 p2 (by omega) (by omega) HA16.out HB16.out).mono ?_
  rintro e w3 ⟨v3, rfl, ho3, hb3⟩
  obtain ⟨A3, c3, rfl, -, hr3, -⟩ := ownsRow_form ho3
  have hlen3 : (bothF a b).length ≤ 5000 := by
    rw [← bothK_all, bothK_len]; omega
  have hz1 := hb1.size; have hz2 := hb2.size; have hz3 := hb3.size
  have O1 := Lib.hid (ownsRow_below ho1' hb3)
  have O2 := Lib.hid (ownsRow_mono (ownsRow_below ho2 hb3) hz1)
  have O3 := Lib.hid (ownsRow_mono ho3 (Nat.le_trans hz1 hz2))
  have HB3 := Lib.hid ((hb1.trans (hb2.mono hz1)).trans (hb3.mono (Nat.le_trans hz1 hz2)))
  have R1 := Lib.hid (hr1'.below hb3); have R2 := Lib.hid (hr2.below hb3); have R3 := Lib.hid hr3
  have hap12 : (Value.slice (some ⟨g1, 0, none⟩) a.length (a.length + 3)).ownBlock ≠ (Value.slice (some ⟨g2, 0, none⟩) b.length (b.length + 3)).ownBlock := by
    intro e; have : g1 = g2 := by simpa [Value.ownBlock] using e
    omega
  have hg2z : g2 < w2.heap.size := own_lt ho2 g2 rfl
  have hap3 : ∀ g, g < w2.heap.size → some g ≠ (Value.slice A3 (bothF a b).length c3).ownBlock := by
    intro g hg e
    rcases ho3.2 with ⟨h0, _⟩ | ⟨g', c', cur, hv, hbg, _⟩
    · rw [h0] at e; simp [Value.ownBlock] at e
    · rw [hv] at e
      have : g = g' := by simpa [Value.ownBlock] using e
      omega
  have H12 := Lib.hid hap12; have H3 := Lib.hid hap3; have HG := Lib.hid (show g1 < w2.heap.size ∧ g2 < w2.heap.size from ⟨by omega, hg2z⟩)
  have HzA := Lib.hid hz1; have HzB := Lib.hid hz2; have HzC := Lib.hid hz3
  have Hlen3 := Lib.hid hlen3
  have RA := Lib.hid (HA.out.below HB3.out); have RB := Lib.hid (HB.out.below HB3.out)
  clear hb1 hb2 hb3 ho1 ho2 ho3 hr1 hr1' hr2 hr3 p1 p2 ho1' hg1 hg2 hg12 hap12 hap3 hg2z e3 hz1 hz2 hz3
  obtain ⟨m3, hm3⟩ : ∃ m, (bothF a b).length = m := ⟨_, rfl⟩
  rw [hm3]
  have Hm3 := Lib.hid hm3; clear hm3
  go_wp2_with fail
  have hal : Below w3.heap.size w3 (w3.alloc (.cells (bookCells 0 (.slice none 0 0)) 46)) := (Below.refl _ _).alloc (Nat.le_refl _) _
  have hbk : Bk (w3.alloc (.cells (bookCells 0 (.slice none 0 0)) 46)) w.heap.size w3.heap.size [] :=
    ⟨.slice none 0 0, heap_alloc_new w3 _, HB3.out.size, World.ownsRow_nil _ _ _ _, by simp, by simp, by simp⟩
  refine (refBoth_any A B ca cb a b _ (RA.out.below hal) (RB.out.below hal) (by omega) (by omega) HA16.out HB16.out).mono ?_
  rintro e w4 ⟨v4, rfl, ho4, hb4⟩
  obtain ⟨A4, c4, rfl, -, hr4, -⟩ := ownsRow_form ho4
  have h34 := belowMore hal hb4
  have Hbk := Lib.hid (hbk.stay hb4)
  clear ho4 hal hbk
  rw [Hm3.out]
  go_wp2_with fail
  refine (sameBits_n A3 A4 c3 c4 m3 m3 (bothF a b) (bothF a b) _ (R3.out.below h34) hr4 Hm3.out Hm3.out (by have := Hlen3.out; simp only [maxLen]; omega) (by have := Hlen3.out; simp only [maxLen]; omega)).mono ?_
  rintro e w5 ⟨rfl, hb5⟩
  rw [decide_eq_true rfl]
  have h35 := belowMore h34 hb5
  have Hbk5 := Lib.hid (Hbk.out.stay hb5)
  clear hb4 hr4 hb5 Hbk h34
  go_wp2_with fail
  refine (leftBits_any A ca g1 a _ (RA.out.below h35) (by omega) (R1.out.below h35)).mono ?_
  rintro e w6 ⟨rfl, hb6⟩
  have h36 := belowMore h35 hb6
  have Hbk6 := Lib.hid (Hbk5.out.stay hb6)
  clear hb6 Hbk5 h35
  go_wp2_with fail
  refine (leftBits_any B cb g2 b _ (RB.out.below h36) (by omega) (R2.out.below h36)).mono ?_
  rintro e w7 ⟨rfl, hb7⟩
  have h37 := belowMore h36 hb7
  have Hbk7 := Lib.hid (Hbk6.out.stay hb7)
  have P1 := Lib.hid (ownsRow_below O1.out h37); have P2 := Lib.hid (ownsRow_below O2.out h37); have P3 := Lib.hid (ownsRow_below O3.out h37)
  have HB7 := Lib.hid (HB3.out.trans (h37.mono HB3.out.size))
  clear hb7 Hbk6 h36 h37
  go_wp2_with fail
  refine (bookBits_any w3.heap.size w.heap.size [] _ a.length _ a w7 Hbk7.out P1.out rfl (by simp) (by simp) HB7.out.size).mono ?_
  rintro e w8 ⟨rfl, hk8, hb8, hf8⟩
  have Hk8 := Lib.hid hk8; have HB8 := Lib.hid (HB7.out.trans hb8)
  have S2 := Lib.hid (own_frame hf8 P2.out); have S3 := Lib.hid (own_frame hf8 P3.out)
  clear hk8 hb8 hf8 Hbk7 P1 P2 P3
  go_wp2_with fail
  refine (bookBits_any w3.heap.size w.heap.size _ _ b.length _ b w8 Hk8.out S2.out rfl (by simp) (by simpa using .inr H12.out) HB8.out.size).mono ?_
  rintro e w9 ⟨rfl, hk9, hb9, hf9⟩
  have Hk9 := Lib.hid hk9; have HB9 := Lib.hid (HB8.out.trans hb9)
  have T3 := Lib.hid (own_frame hf9 S3.out)
  clear hk9 hb9 hf9 Hk8 S2 S3
  go_wp2_with fail
  have hown3 := T3.out
  rw [Hm3.out] at hown3
  refine (bookBits_any w3.heap.size w.heap.size _ _ m3 c3 (bothF a b) w9 Hk9.out hown3 Hm3.out (by simp) (fun s hs => by
    right
    have h3 := H3.out
    rw [Hm3.out] at h3
    rcases List.mem_append.1 hs with hs | hs
    · have : s.v.ownBlock = some g1 := by
        have := List.mem_singleton.1 (by simpa using hs)
        rw [this]; rfl
      rw [this]; exact h3 g1 HG.out.1
    · have : s.v.ownBlock = some g2 := by rw [List.mem_singleton.1 hs]; rfl
      rw [this]; exact h3 g2 HG.out.2) HB9.out.size).mono ?_
  rintro e w10 ⟨rfl, hk10, hb10, -⟩
  have Hk10 := Lib.hid hk10; have HB10 := Lib.hid (HB9.out.trans hb10)
  clear hk10 hb10 Hk9 hown3 T3
  go_wp2_with fail
  refine (count_any k hk _).mono ?_
  rintro e w11 ⟨rfl, hb11⟩
  have Hk11 := Lib.hid (Hk10.out.stay hb11); have HB11 := Lib.hid (HB10.out.trans (hb11.mono HB10.out.size))
  clear hb11 Hk10
  go_wp2_with fail
  refine (refCount_any k hk _).mono ?_
  rintro e w12 ⟨rfl, hb12⟩
  have Hk12 := Lib.hid (Hk11.out.stay hb12); have HB12 := Lib.hid (HB11.out.trans (hb12.mono HB11.out.size))
  clear hb12 Hk11
  generalize Lib.popAux 16 k = pk at *
  go_wp2_with fail
  refine (apart_bk w3.heap.size w.heap.size _ w12 Hk12.out (by simp) (by simp) (fun s hs => by
    have := Hlen3.out
    have h3 := Hm3.out
    simp only [List.nil_append, List.append_assoc, List.cons_append, List.mem_cons, List.not_mem_nil, or_false] at hs
    rcases hs with rfl | rfl | rfl <;> simp only <;> omega) HB12.out.size).mono ?_
  rintro e w13 ⟨rfl, hb13⟩
  have HB13 := Lib.hid (HB12.out.trans hb13)
  clear hb13 Hk12
  go_wp2_with fail
  refine (lives_any _).mono ?_
  rintro e w14 ⟨rfl, hb14⟩
  go_wp2_with fail
  go_ret
  exact ⟨rfl, belowMore HB13.out hb14⟩
end Go.Proofs.Ytkdgibabecpdlaa
