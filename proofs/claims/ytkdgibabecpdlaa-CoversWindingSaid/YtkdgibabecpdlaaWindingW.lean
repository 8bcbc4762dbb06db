/- Proved: the function CoversWinding answers true and changes no old memory; for every line and point. -/
import Derived.Test.YtkdgibabecpdlaaTwinD
import Derived.Test.YtkdgibabecpdlaaRefW
namespace Go.Proofs.Ytkdgibabecpdlaa
open Go.RowKit
set_option maxRecDepth 100000 in
set_option maxHeartbeats 4000000 in
theorem windingLaw_walk (A : Option Addr) (cap : Nat) (l : List Dot) (px py : Int) (w : World) (h : Rd w A (dotCells l)) (hl : l.length ≤ maxLen) :
    Calls Try.prog 4 #[.slice A l.length cap, .agg #[.int .i64 px, .int .i64 py]] w fun e w' => e = .returned (.bool true) ∧ Below w.heap.size w w' := by
  simp only [maxLen] at hl
  have hB0 : Below w.heap.size w (w.alloc (.cells #[.int .i64 px, .int .i64 py] 53)) := (Below.refl _ _).alloc (Nat.le_refl _) _
  have H := Lib.hid (h.below hB0); clear h
  go_enter Try.func4, Try.ntmps4
  by_cases hlen : 500 < (l.length : Int)
  · go_wp2_with fail
    refine (lives_any _).mono ?_
    rintro e w1 ⟨rfl, hb1⟩
    go_wp2_with fail
    go_ret
    exact ⟨rfl, belowMore hB0 hb1⟩
  go_wp2_with fail
  refine (twinDots_any A cap l _ H.out (by omega)).mono ?_
  rintro e w1 ⟨g, rfl, hg, hr, hb1⟩
  obtain ⟨k0, k1, kz⟩ := box_cells hb1
  have HB1 := Lib.hid (belowMore hB0 hb1)
  have H1 := Lib.hid ((H.out.below hb1).drew)
  have HT := Lib.hid hr.drew
  have hpre : Rd w1.drew (some ⟨g, 0, none⟩) (dotCells l) := by
    have := HT.out
    rw [dotCells, List.flatMap_append] at this
    exact this.pre
  have HP := Lib.hid hpre
  clear hb1 hB0 hr hpre H hg
  go_upto_region 4 with (fail)
  go_region_held3 (fun w' => w'.cell? ⟨w.heap.size, 0, none⟩ = some (.int .i64 px) ∧ w'.cell? ⟨w.heap.size, 1, none⟩ = some (.int .i64 py)) (first | exact ⟨m0, m1⟩ | exact ⟨k0, k1⟩ | go_keep)
    (first
      | (go_at_call 22; refine (winding_any (some ⟨g, 0, none⟩) _ l px py _ HP.out (by omega)).mono ?_; rintro e w2 ⟨rfl, hb2⟩; have m0 := (hb2.cell (p := ⟨w.heap.size, 0, none⟩) kz).trans k0; have m1 := (hb2.cell (p := ⟨w.heap.size, 1, none⟩) kz).trans k1)
      | (go_at_call 23; refine (refWinding_any A cap l px py _ (H1.out.below hb2) (by omega)).mono ?_; rintro e w3 ⟨rfl, hb3⟩; have hb23 := belowMore hb2 hb3; have m0 := (hb23.cell (p := ⟨w.heap.size, 0, none⟩) kz).trans k0; have m1 := (hb23.cell (p := ⟨w.heap.size, 1, none⟩) kz).trans k1)
      | (go_at_call 24; refine (leftDots_any A cap g l _ (H1.out.below hb23) (by omega) (HT.out.below hb23)).mono ?_; rintro e w4 ⟨rfl, hb4⟩; have hb24 := belowMore hb23 hb4; have m0 := (hb24.cell (p := ⟨w.heap.size, 0, none⟩) kz).trans k0; have m1 := (hb24.cell (p := ⟨w.heap.size, 1, none⟩) kz).trans k1)
      | (go_at_call 13; refine (lives_any _).mono ?_; rintro e w5 ⟨rfl, hb5⟩; have hb25 := belowMore hb24 hb5; have m0 := (hb25.cell (p := ⟨w.heap.size, 0, none⟩) kz).trans k0; have m1 := (hb25.cell (p := ⟨w.heap.size, 1, none⟩) kz).trans k1))
  have HF := Lib.hid (belowMore HB1.out.drew hb25)
  clear hb2 hb3 hb4 hb5 hb23 hb24 hb25 m0 m1 k0 k1
  go_wp2_with fail
  go_ret
  exact ⟨rfl, HF.out⟩
end Go.Proofs.Ytkdgibabecpdlaa
