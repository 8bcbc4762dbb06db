/- Proved: the function lives of gouachelaw16 answers true and changes no old memory; in every world. -/
import Derived.Test.YtjbfcleflokmoaaDoorSameT
namespace Go.Proofs.YtjbfcleflokmoaaDoor
open Go.RowKit
theorem lives_t1 : tokRes [123, 100, 117, 112, 32, 48, 46, 53, 125] = ([⟨3, [123], 0⟩, ⟨2, [100, 117, 112], 1⟩, ⟨1, [48, 46, 53], 5⟩, ⟨4, [125], 8⟩], 9, 0) := by decide +kernel
theorem lives_t2 : tokRes [49, 46, 50, 46, 51] = ([], 0, 13) := by decide +kernel
theorem lives_t3 : tokRes [50, 120] = ([], 0, 13) := by decide +kernel
theorem lives_t4 : tokRes [46] = ([], 0, 13) := by decide +kernel
set_option maxRecDepth 100000 in
set_option maxHeartbeats 4000000 in
theorem lives16_any (w : World) : Calls Tryd.prog 7 #[] w fun e w' => e = .returned (.bool true) ∧ Below w.heap.size w w' := by
  go_enter Tryd.func7, Tryd.ntmps7
  go_wp2_with fail
  refine (tokOf_any _ w (by decide)).mono ?_
  rintro e w1 ⟨v1, rfl, ho1, hb1⟩
  rw [show tokRes (⟨#[123, 100, 117, 112, 32, 48, 46, 53, 125]⟩ : ByteArray).data.toList = _ from lives_t1] at *
  obtain ⟨A1, c1, rfl, -, hr1, -⟩ := ownsRow_form ho1
  have HR1 := Lib.hid hr1; have HB1 := Lib.hid hb1
  clear ho1 hr1 hb1
  go_wp2_with fail
  refine (tokOf_any _ w1 (by decide)).mono ?_
  rintro e w2 ⟨v2, rfl, ho2, hb2⟩
  rw [show tokRes (⟨#[49, 46, 50, 46, 51]⟩ : ByteArray).data.toList = _ from lives_t2] at *
  have HR2 := Lib.hid (HR1.out.below hb2); have HB2 := Lib.hid (belowMore HB1.out hb2)
  clear ho2 hb2
  go_wp2_with fail
  refine (tokOf_any _ w2 (by decide)).mono ?_
  rintro e w3 ⟨v3, rfl, ho3, hb3⟩
  rw [show tokRes (⟨#[50, 120]⟩ : ByteArray).data.toList = _ from lives_t3] at *
  have HR3 := Lib.hid (HR2.out.below hb3); have HB3 := Lib.hid (belowMore HB2.out hb3)
  clear ho3 hb3
  go_wp2_with fail
  refine (tokOf_any _ w3 (by decide)).mono ?_
  rintro e w4 ⟨v4, rfl, ho4, hb4⟩
  rw [show tokRes (⟨#[46]⟩ : ByteArray).data.toList = _ from lives_t4] at *
  have HR4 := Lib.hid (HR3.out.below hb4); have HB4 := Lib.hid (belowMore HB3.out hb4)
  clear ho4 hb4
  obtain ⟨b, off, rfl, hz, x0, x1, x2⟩ := HR4.out.tok (k := 1) (d := ⟨2, [100, 117, 112], 1⟩) rfl
  obtain ⟨b', off', e', -, y0, y1, y2⟩ := HR4.out.tok (k := 2) (d := ⟨1, [48, 46, 53], 5⟩) rfl
  injection e' with e'; injection e' with e1 e2
  subst e1 e2
  obtain ⟨b', off', e', -, z0, z1, z2⟩ := HR4.out.tok (k := 3) (d := ⟨4, [125], 8⟩) rfl
  injection e' with e'; injection e' with e1 e2
  subst e1 e2
  go_wp2_with (go_quiet (fail))
  go_ret
  exact ⟨rfl, HB4.out⟩
end Go.Proofs.YtjbfcleflokmoaaDoor
