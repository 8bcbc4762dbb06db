/- Proved: the function TokensOf answers true and changes no old memory; for every text. -/
import Derived.Test.YtjbfcleflokmoaaDoorPlacesW
import Derived.Test.YtjbfcleflokmoaaDoorTokBkP
namespace Go.Proofs.YtjbfcleflokmoaaDoor
open Go.RowKit
theorem tokRef_gen (s : ByteArray) (w : World) (T : List Tok) (n e m : Nat) (hs : s.size ≤ 140737488355328) (hR : tokRes s.data.toList = (T, n, e)) (hm : T.length = m) :
    Calls Tryd.prog 9 #[.string s] w fun en w' => ∃ A c, en = .returned (.tuple #[.slice A m c, .int .i64 (n : Int), .int .i64 (e : Int)]) ∧ w'.ownsRow w.heap.size 47 3 (.slice A m c) m (tokCells T) ∧ Below w.heap.size w w' := by
  subst hm
  refine (tokRef_any s w hs).mono ?_
  rintro en w' ⟨v, rfl, ho, hb⟩
  rw [hR] at ho ⊢
  obtain ⟨A, c, rfl, -, -, -⟩ := ownsRow_form ho
  exact ⟨A, c, rfl, ho, hb⟩
theorem tokRes_few (l : Bytes) : (tokRes l).1.length ≤ 2 * l.length ∧ (tokRes l).2.1 ≤ l.length ∧ (tokRes l).2.2 ≤ 13 := by
  have h1 := lexS_count l 0
  have h2 := lexS_le l.length l 0 (Nat.le_refl _)
  unfold tokRes
  split
  · simp
  · split <;> simp <;> omega
set_option maxRecDepth 100000 in
set_option maxHeartbeats 4000000 in
theorem tokensOf_walk (s : ByteArray) (w : World) (hs : s.size ≤ 140737488355328) :
    Calls Tryd.prog 3 #[.string s] w fun e w' => e = .returned (.bool true) ∧ Below w.heap.size w w' := by
  go_enter Tryd.func3, Tryd.ntmps3
  by_cases hbig : 6000 < s.size
  · have e1 : (6000 : Int) < (s.size : Int) := by omega
    go_wp2_with fail
    refine (lives16_any w).mono ?_
    rintro e w1 ⟨rfl, hb⟩
    go_wp2_with fail
    go_ret
    exact ⟨rfl, hb⟩
  have hsl : s.data.toList.length = s.size := (Lib.size_eq s).symm
  have hf := tokRes_few s.data.toList
  rw [hsl] at hf
  obtain ⟨T, n, er, hR⟩ : ∃ T n er, tokRes s.data.toList = (T, n, er) := ⟨_, _, _, rfl⟩
  rw [hR] at hf
  obtain ⟨hT, hn, her⟩ := hf
  simp only at hT hn her
  obtain ⟨m, hm⟩ : ∃ m, T.length = m := ⟨_, rfl⟩
  rw [hm] at hT
  have HR := Lib.hid hR; have HM := Lib.hid hm
  clear hR hm hsl
  go_wp2_with fail
  refine (tokOf_gen s w T n er m hs HR.out HM.out).mono ?_
  rintro e w1 ⟨A, c, rfl, ho, hb⟩
  have HO := Lib.hid ho; have HB := Lib.hid hb
  clear ho hb
  go_wp2_with fail
  refine (tokRef_gen s w1 T n er m hs HR.out HM.out).mono ?_
  rintro e w2 ⟨A2, c2, rfl, ho2, hb2⟩
  have HR2 := Lib.hid (rd_of ho2); have HO2 := Lib.hid (ownsRow_below HO.out hb2); have HB2 := Lib.hid (belowMore HB.out hb2)
  clear ho2 hb2
  go_wp2_with fail
  refine (sameTokens_eq A A2 c c2 m T w2 (rd_of HO2.out) HR2.out HM.out (by omega)).mono ?_
  rintro e w3 ⟨rfl, hb3⟩
  have HO3 := Lib.hid (ownsRow_below HO2.out hb3); have HB3 := Lib.hid (belowMore HB2.out hb3)
  clear hb3
  go_wp2_with fail
  have hal : Below w3.heap.size w3 (w3.alloc (.cells (bookT 0 (.slice none 0 0)) 42)) := (Below.refl _ _).alloc (Nat.le_refl _) _
  have HO4 := Lib.hid (ownsRow_below HO3.out hal); have HB4 := Lib.hid (belowMore HB3.out hal)
  have hKw : w.heap.size ≤ w3.heap.size := HB3.out.size
  refine (bookTokens_one w3.heap.size w.heap.size m c A _ (heap_alloc_new w3 _) (by simp; omega)).mono ?_
  rintro e w5 ⟨rfl, S, cap, hk5, hs5, hu5⟩
  have ho5 := hu5.own HO4.out (own_off (own_not HO4.out (heap_alloc_new w3 _) (by decide)))
  have HB5 := Lib.hid (HB4.out.trans (hu5.toBelow (by simp; omega) (by simp; omega)))
  have HK5 := Lib.hid hk5; have HS5 := Lib.hid hs5; have HO5 := Lib.hid ho5
  clear hk5 hs5 hu5 ho5 hal
  go_wp2_with fail
  refine (apartT_one w3.heap.size w.heap.size S cap m c A w5 HK5.out HS5.out _ HO5.out (by omega) HB5.out.size).mono ?_
  rintro e w6 ⟨rfl, hb6⟩
  have HB6 := Lib.hid (HB5.out.trans hb6)
  clear hb6
  go_wp2_with fail
  refine (lives16_any _).mono ?_
  rintro e w7 ⟨rfl, hb7⟩
  go_wp2_with fail
  go_ret
  exact ⟨rfl, belowMore HB6.out hb7⟩
end Go.Proofs.YtjbfcleflokmoaaDoor
